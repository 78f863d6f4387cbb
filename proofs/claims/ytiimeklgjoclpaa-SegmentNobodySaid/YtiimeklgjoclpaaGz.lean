/- The document's tables of messages, walked: Take. -/
import Derived.Test.YtiimeklgjoclpaaGy
namespace Go.Proofs.Ytiimeklgjoclpaa
open Go.Sx
set_option maxRecDepth 100000
set_option pp.deepTerms false
set_option pp.maxSteps 300
set_option linter.unusedSimpArgs false
set_option linter.unusedVariables false

theorem dtake_c (A Q : HProp) (hE : Ent A Q) (a : Option Addr) (cap : Nat) (L : List Ms) (most now : Int) (c : Pc) (x y : AC) (hw : c.wf) (hx : Bts Q x.1 x.2 c.b) (hy : Bts Q y.1 y.2 c.s) (hr : Rm Q a L) (hL : ∀ m ∈ L, m.inv) (hl : L.length ≤ 1000000) :
    Con Try.prog 27 [.agg (tv a L.length cap most), .c (.int .i64 now), .agg (c.sg x y)] [] [] A (fun t : (Option Addr × Nat × HProp) × AC => Rm (all [t.1.2.2, Q]) t.1.1 (takeD most now c L).1 ∧ Fc t.2.1 t.2.2 (takeD most now c L).2.1)
      (fun t => .tup [.agg (tv t.1.1 (takeD most now c L).1.length t.1.2.1 most), .c (.rs t.2.1 (takeD most now c L).2.1.length t.2.2), .c (.bool (takeD most now c L).2.2.1), .c (.int .i64 (takeD most now c L).2.2.2)]) (fun _ => [])
      (fun t => [t.1.2.2, Own t.2.1 t.2.2 5 1 (u8s (takeD most now c L).2.1)]) := by
  refine Con.of' tt_ok Try.func27 rfl (by decide) [.agg (tv a L.length cap most), .c (.int .i64 now), .agg (c.sg x y)] [] [] rfl rfl trivial (by repeat' (first | exact trivial | rfl | exact hk _ | apply And.intro)) rfl ?_
  conv => whnf
  intro b3
  conv => whnf
  intro b5
  conv => whnf
  intro b6
  conv => whnf
  refine CallOb.pu (srmay_c _ c x y) rfl ?_
  have bad : ¬ (c.may = true ∧ c.k = 1 ∧ 0 ≤ now ∧ now ≤ 1099511627776) → takeD most now c L = (L, [], false, 2) := fun h => if_neg h
  conv => whnf
  refine Cond.not (Cond.mk (fun hm => ?_) (fun hm => ?_))
  case refine_2 =>
    rw [bad (fun h => by rw [hm] at h; cases h.1)]
    conv => whnf
    refine Ret.own0 5 1 ?_
    refine Ret.turn (F' := [all [], Own none 0 5 1 (u8s []), A]) (fun g s => seps_all0 s) ?_
    exact Ret.mk' ((a, cap, all []), (none, 0)) [] [0, 0, 0] ⟨hr.ent (Ent.at 1 rfl), .nil⟩ rfl (by repeat' (first | exact trivial | rfl | apply And.intro)) (by repeat' (first | exact trivial | rfl | apply And.intro)) ⟨rfl, rfl⟩
  conv => whnf
  refine Cond.neI (fun h1 => ?_) (fun h1 => ?_)
  · rw [bad (fun h => h1 h.2.1)]
    conv => whnf
    refine Ret.own0 5 1 ?_
    refine Ret.turn (F' := [all [], Own none 0 5 1 (u8s []), A]) (fun g s => seps_all0 s) ?_
    exact Ret.mk' ((a, cap, all []), (none, 0)) [] [0, 0, 0] ⟨hr.ent (Ent.at 1 rfl), .nil⟩ rfl (by repeat' (first | exact trivial | rfl | apply And.intro)) (by repeat' (first | exact trivial | rfl | apply And.intro)) ⟨rfl, rfl⟩
  conv => whnf
  refine Cond.dec (fun h2 => ?_) (fun h2 => ?_)
  · rw [bad (fun h => by omega)]
    conv => whnf
    refine Ret.own0 5 1 ?_
    refine Ret.turn (F' := [all [], Own none 0 5 1 (u8s []), A]) (fun g s => seps_all0 s) ?_
    exact Ret.mk' ((a, cap, all []), (none, 0)) [] [0, 0, 0] ⟨hr.ent (Ent.at 1 rfl), .nil⟩ rfl (by repeat' (first | exact trivial | rfl | apply And.intro)) (by repeat' (first | exact trivial | rfl | apply And.intro)) ⟨rfl, rfl⟩
  conv => whnf
  refine Cond.dec (fun h3 => ?_) (fun h3 => ?_)
  · rw [bad (fun h => by omega)]
    conv => whnf
    refine Ret.own0 5 1 ?_
    refine Ret.turn (F' := [all [], Own none 0 5 1 (u8s []), A]) (fun g s => seps_all0 s) ?_
    exact Ret.mk' ((a, cap, all []), (none, 0)) [] [0, 0, 0] ⟨hr.ent (Ent.at 1 rfl), .nil⟩ rfl (by repeat' (first | exact trivial | rfl | apply And.intro)) (by repeat' (first | exact trivial | rfl | apply And.intro)) ⟨rfl, rfl⟩
  have hok : c.may = true ∧ c.k = 1 ∧ 0 ≤ now ∧ now ≤ 1099511627776 := ⟨hm, h1, by omega, by omega⟩
  have hle := Pc.may_le hm
  conv => whnf
  refine CallOb.pu (dfind_c _ Q ((Ent.all (by first | (simp; done) | (simp [M.props]; done) | (simp [M.props]; first | (left; rfl) | (right; left; rfl) | (right; right; left; rfl) | (right; right; right; left; rfl) | (right; right; right; right; left; rfl)) | exact (.head _ : List.Mem _ _) | exact (.tail _ (.head _) : List.Mem _ _) | exact (.tail _ (.tail _ (.head _)) : List.Mem _ _) | exact (.tail _ (.tail _ (.tail _ (.head _))) : List.Mem _ _) | exact (.tail _ (.tail _ (.tail _ (.tail _ (.head _)))) : List.Mem _ _) | exact (.tail _ (.tail _ (.tail _ (.tail _ (.tail _ (.head _))))) : List.Mem _ _) | exact (.tail _ (.tail _ (.tail _ (.tail _ (.tail _ (.tail _ (.head _)))))) : List.Mem _ _) | exact (.tail _ (.tail _ (.tail _ (.tail _ (.tail _ (.tail _ (.tail _ (.head _))))))) : List.Mem _ _) | exact (.tail _ (.tail _ (.tail _ (.tail _ (.tail _ (.tail _ (.tail _ (.tail _ (.head _)))))))) : List.Mem _ _))).trans hE) a cap L most c x y hr hl) rfl ?_
  conv => whnf
  intro b11
  cases hf : fndO c.u c.n L with
  | none =>
    have et : takeD most now c L = if (L.length : Int) ≥ most then (L, [], false, 8) else finD L none ⟨[c], now⟩ := by unfold takeD; rw [if_pos hok, hf]
    have hoi : ∀ i, (none : Option Nat) = some i → i < L.length := fun i h => by cases h
    conv => whnf
    refine Cond.dec (fun h => absurd h (by decide)) (fun _ => ?_)
    conv => whnf
    refine Cond.dec (fun h5 => ?_) (fun h5 => ?_)
    · rw [et, if_pos h5]
      conv => whnf
      refine Ret.own0 5 1 ?_
      refine Ret.turn (F' := [all [], Own none 0 5 1 (u8s []), A]) (fun g s => seps_all0 s) ?_
      exact Ret.mk' ((a, cap, all []), (none, 0)) [] [0, 0, 0] ⟨hr.ent (Ent.at 1 rfl), .nil⟩ rfl (by repeat' (first | exact trivial | rfl | apply And.intro)) (by repeat' (first | exact trivial | rfl | apply And.intro)) ⟨rfl, rfl⟩
    rw [if_neg h5] at et
    have hq0 : Rp Q none [] := ⟨[], fun h _ => .inl rfl, rfl, fun c h => by simp at h, fun i x c h => by simp at h⟩
    conv => whnf
    obtain ⟨m0, hm0⟩ : ∃ m0 : Ms, m0 = ⟨[], now⟩ := ⟨_, rfl⟩
    have hq1 : Rp Q none m0.ps := by rw [hm0]; exact hq0
    have hpl : (m0).ps.length ≤ 7 := (by rw [hm0]; simp)
    refine LoopOb.mk' (σ := Nat) (fun k => [(1, .c (.int .i64 now)), (3, .c (.ptr 3 0)), (5, .c (.ptr 5 0)), (6, .c (.ptr 6 0)), (10, .c (.int .i64 (fndI (none)))), (11, .c (.ptr 11 0)), (12, .c (.int .i64 k))])
      (fun _ => ⟨[(11, b11), (6, b6), (5, b5), (3, b3)], [(11, (m0).sg none 0, 106), (6, tz, 60), (5, c.sg x y, 25), (3, tv a L.length cap most, 60)], [A]⟩)
      (fun k => k ≤ (m0).ps.length ∧ ∀ p ∈ (m0).ps.take k, p.i ≠ c.i) (fun k => (m0).ps.length - k) 0 ⟨Nat.zero_le _, by simp⟩ (Wk.mk' [11, 6, 5, 3] [0] (by repeat' (first | exact trivial | rfl | apply And.intro)) (by repeat' (first | exact trivial | rfl | exact hk _ | apply And.intro)) ⟨by rw [hm0]; rfl, rfl⟩) ?_
    rintro k ⟨hk, hall⟩
    conv => whnf
    refine Cond.dec (fun h => ?_) (fun h => ?_)
    · have hk' : k < (m0).ps.length := by omega
      conv => whnf
      refine Draw.till (by kernel_rfl) tt_ok (Tr.of (List.range 9) .nil) 1000000 (by kernel_rfl) ?_
      conv => whnf
      refine ⟨by omega, row_ptr (n := 6) (A := A) (by simp) hE (hq1) (by omega) fun q hq => ?_⟩
      have hrq : Rp Q (some (radr q)) (m0).ps := by rw [← hq]; exact hq1
      conv => whnf
      refine ldcell (n := 6) k 3 (A := A) (by simp) hE hrq hk' (by decide) rfl rfl rfl fun cs hcs => ?_
      obtain ⟨x4, y4, rfl, _⟩ := hcs
      refine ⟨.int .i64 ((m0).ps[k]).i, rfl, trivial, ?_⟩
      conv => whnf
      refine Cond.eqI (fun h4 => ?_) (fun h4 => ?_)
      · have e10 : takeD most now c L = (L, [], false, 10) := (absurd hk' (by rw [hm0]; simp))
        rw [e10]
        conv => whnf
        refine Ret.own0 5 1 ?_
        refine Ret.turn (F' := [all [], Own none 0 5 1 (u8s []), A]) (fun g s => seps_all0 s) ?_
        exact Ret.mk' ((a, cap, all []), (none, 0)) [] [0, 0, 0] ⟨hr.ent (Ent.at 1 rfl), .nil⟩ rfl (by repeat' (first | exact trivial | rfl | apply And.intro)) (by repeat' (first | exact trivial | rfl | apply And.intro)) ⟨rfl, rfl⟩
      conv => whnf
      refine Ar.i64 (by omega) ?_
      conv => whnf
      refine ⟨k + 1, ⟨by omega, fun p hp => ?_⟩, by omega, Wk.mk' [11, 6, 5, 3] [0] (by repeat' (first | exact trivial | rfl | apply And.intro)) (by repeat' (first | exact trivial | rfl | exact hk _ | apply And.intro)) ⟨rfl, rfl⟩⟩
      rw [List.take_succ_eq_append_getElem hk', List.mem_append, List.mem_singleton] at hp
      rcases hp with hp | rfl
      · exact hall p hp
      · exact h4
    have hk' : k = (m0).ps.length := by omega
    subst hk'
    rw [List.take_length] at hall
    obtain ⟨es, hes1, hes2, hes3⟩ := rp_own (hq1)
    have hfin : takeD most now c L = finD L (none) ⟨(m0).ps ++ [c], (m0).since⟩ := (by rw [et, hm0]; rfl)
    have hpb : ∀ p ∈ (m0).ps, p.b.length ≤ 240 := (by rw [hm0]; exact fun p hp => by cases hp)
    rw [hfin]
    conv => whnf
    intro b78
    conv => whnf
    refine With.own (i := 78) (n := 0) (cap := 0) (size := 7) ⟨_, _, rfl, ⟨rfl, Nat.le_refl _⟩, ?_⟩
    refine append_own (a := some ⟨b78, 0, none⟩) (n := 0) (cap := 0) (xs := []) (k := (m0).ps.length) (ys := es) (src := .c (.rs none (m0).ps.length 0)) (F' := [A]) (.refl _) rfl (hes2.len) (Src.rs (A := A) (by simp) (hes1.ent hE)) hes3 (by show (0 + (m0).ps.length + (0 + (m0).ps.length) / 4 + 192) * 88 ≤ _; omega) (by omega) (by decide) 46 (.inr rfl) ?_
    intro a1 c1 hc1 hn1
    rw [Nat.zero_add, List.nil_append] at *
    conv => whnf
    intro b84
    conv => whnf
    have hen : PdR Q c (dens [] (c.sg x y)) := ⟨x, y, rfl, hx, hy⟩
    refine append_own (a := a1) (n := (m0).ps.length) (cap := c1) (xs := es) (k := 1) (ys := dens [] (c.sg x y)) (src := .c (.slc 84 0 1 1)) (F' := [A]) (.refl _) (hes2.len) (by rw [hen.len]; rfl) (by exact Src.slc (Exists.intro [] (List.append_nil _).symm)) (dens_one_cell (okL_spec (B := []) (l := c.sg x y) (by repeat' (first | exact trivial | rfl | exact hk _ | apply And.intro))))
      (by show ((m0).ps.length + 1 + ((m0).ps.length + 1) / 4 + 192) * 88 ≤ _; omega) (by omega) (by decide) 46 (.inr rfl) ?_
    intro a2 c2 hc2 hn2
    have hrow := hes2.snoc (fun _ _ h => h) hen.len hen
    generalize es ++ dens [] (c.sg x y) = es2 at hrow ⊢
    obtain ⟨m', hm'⟩ : ∃ m' : Ms, m' = ⟨(m0).ps ++ [c], (m0).since⟩ := ⟨_, rfl⟩
    have hml : m'.ps.length = (m0).ps.length + 1 := by rw [hm']; show (_ ++ [_]).length = _; rw [List.length_append]; rfl
    have hms : m'.since = (m0).since := by rw [hm']
    have hmp : m'.ps = (m0).ps ++ [c] := by rw [hm']
    rw [← hm']
    conv => whnf
    have hq2 : Rp (all [Own a2 c2 25 7 es2, Q]) a2 m'.ps := by rw [hmp]; exact ownRp hrow
    have hne2 : m'.ps ≠ [] := fun e => by rw [e] at hml; cases hml
    have hmb : ∀ p ∈ m'.ps, p.b.length ≤ 240 := by
      intro p hp
      rw [hmp] at hp
      rcases List.mem_append.1 hp with hp | hp
      · exact hpb p hp
      · rw [List.mem_singleton.1 hp]; exact hle.2.2.2.2.1
    have hsg : m'.sg a2 c2 = [.one (.rs a2 ((m0).ps.length + 1) c2), .one (.int .i64 (m0).since)] := by
      show [Seg.one (.rs a2 m'.ps.length c2), Seg.one (.int .i64 m'.since)] = _
      rw [hml, hms]
    refine CallOb.by' [] [] (dwhole_c _ (all [Own a2 c2 25 7 es2, Q]) ?_ m' a2 c2 hq2 hne2 hmb (by rw [hml]; omega)) (by show _ = [(SV.agg (m'.sg a2 c2)).den []]; rw [hsg]; rfl) ⟨rfl, rfl, rfl, fun t3 h3 => ⟨rfl, ?_⟩⟩
    · exact Ent.pair [5, 5] ⟨rfl, trivial⟩ hE
    obtain ⟨a3, c3⟩ := t3
    dsimp only at h3 ⊢
    conv => whnf
    have hmr : MsR (all [Own a2 c2 25 7 es2, Q]) m' (dens [] (m'.sg a2 c2)) := ⟨a2, c2, rfl, hq2, hne2, by rw [hml]; omega⟩
    refine CallOb.by' [] [] (dput_c _ (all [Own a2 c2 25 7 es2, Q]) ?_ a cap L most (hr.ent (Ent.at 1 rfl)) (by omega) (none) ?_ m' a2 c2 hmr (wholeD m').2) (by show _ = [_, _, (SV.agg (m'.sg a2 c2)).den [], _]; rw [hsg]; rfl) ⟨rfl, rfl, rfl, fun t4 h4 => ⟨rfl, ?_⟩⟩
    · exact Ent.pair [6, 6] ⟨rfl, trivial⟩ hE
    · exact hoi
    obtain ⟨a4, c4, xs4⟩ := t4
    have hfr := (ownRm (a := a4) (c := c4) (e := 106) h4).ent Ent.assoc
    conv => whnf
    refine Ret.grp [] [0, 1] ?_
    conv => whnf
    exact Ret.mk' ((a4, c4, _), (a3, c3)) [] [0, 0, 0] ⟨hfr, h3⟩ rfl (by repeat' (first | exact trivial | rfl | apply And.intro)) (by repeat' (first | exact trivial | rfl | apply And.intro)) ⟨rfl, rfl⟩
  | some i =>
    have hf' := hf
    unfold fndO at hf'
    rw [List.findIdx?_eq_some_iff_getElem] at hf'
    obtain ⟨hi, -, -⟩ := hf'
    have hoi : ∀ j, some i = some j → j < L.length := fun j h => by cases h; exact hi
    conv => whnf
    refine Cond.dec (fun _ => ?_) (fun h => absurd (by simp only [fndI]; omega) h)
    conv => whnf
    refine ⟨by simp only [fndI]; omega, row_ptr (n := 1) (A := A) (by simp) hE hr (by omega) fun p hp => ?_⟩
    have hr2 : Rm Q (some (radr p)) L := by rw [← hp]; exact hr
    conv => whnf
    refine ldrow (n := 1) i (A := A) (by simp) hE hr2 hi rfl rfl rfl rfl fun cs hcs => ?_
    obtain ⟨m0, hm0⟩ : ∃ m0, m0 = L[i] := ⟨_, rfl⟩
    rw [← hm0] at hcs
    obtain ⟨am, cm, rfl, hq0, hn0, hl8⟩ := hcs
    have hinv : m0.inv := hL m0 (by rw [hm0]; exact List.getElem_mem hi)
    have et : takeD most now c L = if m0.hd.t ≠ c.t then (L, [], false, 5) else if m0.ps.any (fun p => decide (p.i = c.i)) then (L, [], false, 10) else finD L (some i) ⟨m0.ps ++ [c], m0.since⟩ := by
      unfold takeD; rw [if_pos hok, hf]; dsimp only; rw [List.getElem?_eq_getElem hi, ← hm0]
    refine ⟨m0.sg am cm, rfl, (by repeat' (first | exact trivial | rfl | apply And.intro)), rfl, ?_⟩
    have h0 : 0 < m0.ps.length := List.length_pos_iff.2 hn0
    have hh := hd_eq h0
    conv => whnf
    refine Draw.till (by kernel_rfl) tt_ok (Tr.of (List.range 8) .nil) 1000000 (by kernel_rfl) ?_
    conv => whnf
    refine ⟨by omega, row_ptr (n := 6) (A := A) (by simp) hE hq0 h0 fun q hq => ?_⟩
    have hrq : Rp Q (some (radr q)) m0.ps := by rw [← hq]; exact hq0
    conv => whnf
    refine ldcell (n := 6) 0 4 (A := A) (by simp) hE hrq h0 (by decide) rfl rfl rfl fun cs hcs => ?_
    obtain ⟨x5, y5, rfl, _⟩ := hcs
    refine ⟨.int .i64 (m0.ps[0]).t, rfl, trivial, ?_⟩
    conv => whnf
    refine Cond.neI (fun h5 => ?_) (fun h5 => ?_)
    · rw [et, if_pos (by rw [hh]; exact h5)]
      conv => whnf
      refine Ret.own0 5 1 ?_
      refine Ret.turn (F' := [all [], Own none 0 5 1 (u8s []), A]) (fun g s => seps_all0 s) ?_
      exact Ret.mk' ((a, cap, all []), (none, 0)) [] [0, 0, 0] ⟨hr.ent (Ent.at 1 rfl), .nil⟩ rfl (by repeat' (first | exact trivial | rfl | apply And.intro)) (by repeat' (first | exact trivial | rfl | apply And.intro)) ⟨rfl, rfl⟩
    rw [if_neg (by rw [hh]; simpa using h5)] at et
    have hlt := hinv.lt
    have ht8 := hinv.t
    conv => whnf
    have hpl : (m0).ps.length ≤ 7 := (by omega)
    refine LoopOb.mk' (σ := Nat) (fun k => [(1, .c (.int .i64 now)), (3, .c (.ptr 3 0)), (5, .c (.ptr 5 0)), (6, .c (.ptr 6 0)), (10, .c (.int .i64 (fndI ((some i))))), (11, .c (.ptr 11 0)), (12, .c (.int .i64 k))])
      (fun _ => ⟨[(11, b11), (6, b6), (5, b5), (3, b3)], [(11, (m0).sg am cm, 106), (6, tz, 60), (5, c.sg x y, 25), (3, tv a L.length cap most, 60)], [A]⟩)
      (fun k => k ≤ (m0).ps.length ∧ ∀ p ∈ (m0).ps.take k, p.i ≠ c.i) (fun k => (m0).ps.length - k) 0 ⟨Nat.zero_le _, by simp⟩ (Wk.mk' [11, 6, 5, 3] [0] (by repeat' (first | exact trivial | rfl | apply And.intro)) (by repeat' (first | exact trivial | rfl | exact hk _ | apply And.intro)) ⟨by rw [hm0]; rfl, rfl⟩) ?_
    rintro k ⟨hk, hall⟩
    conv => whnf
    refine Cond.dec (fun h => ?_) (fun h => ?_)
    · have hk' : k < (m0).ps.length := by omega
      conv => whnf
      refine Draw.till (by kernel_rfl) tt_ok (Tr.of (List.range 9) .nil) 1000000 (by kernel_rfl) ?_
      conv => whnf
      refine ⟨by omega, row_ptr (n := 6) (A := A) (by simp) hE (hq0) (by omega) fun q hq => ?_⟩
      have hrq : Rp Q (some (radr q)) (m0).ps := by rw [← hq]; exact hq0
      conv => whnf
      refine ldcell (n := 6) k 3 (A := A) (by simp) hE hrq hk' (by decide) rfl rfl rfl fun cs hcs => ?_
      obtain ⟨x4, y4, rfl, _⟩ := hcs
      refine ⟨.int .i64 ((m0).ps[k]).i, rfl, trivial, ?_⟩
      conv => whnf
      refine Cond.eqI (fun h4 => ?_) (fun h4 => ?_)
      · have e10 : takeD most now c L = (L, [], false, 10) := (by rw [et, if_pos (List.any_eq_true.2 ⟨_, List.getElem_mem hk', decide_eq_true h4⟩)])
        rw [e10]
        conv => whnf
        refine Ret.own0 5 1 ?_
        refine Ret.turn (F' := [all [], Own none 0 5 1 (u8s []), A]) (fun g s => seps_all0 s) ?_
        exact Ret.mk' ((a, cap, all []), (none, 0)) [] [0, 0, 0] ⟨hr.ent (Ent.at 1 rfl), .nil⟩ rfl (by repeat' (first | exact trivial | rfl | apply And.intro)) (by repeat' (first | exact trivial | rfl | apply And.intro)) ⟨rfl, rfl⟩
      conv => whnf
      refine Ar.i64 (by omega) ?_
      conv => whnf
      refine ⟨k + 1, ⟨by omega, fun p hp => ?_⟩, by omega, Wk.mk' [11, 6, 5, 3] [0] (by repeat' (first | exact trivial | rfl | apply And.intro)) (by repeat' (first | exact trivial | rfl | exact hk _ | apply And.intro)) ⟨rfl, rfl⟩⟩
      rw [List.take_succ_eq_append_getElem hk', List.mem_append, List.mem_singleton] at hp
      rcases hp with hp | rfl
      · exact hall p hp
      · exact h4
    have hk' : k = (m0).ps.length := by omega
    subst hk'
    rw [List.take_length] at hall
    obtain ⟨es, hes1, hes2, hes3⟩ := rp_own (hq0)
    have hfin : takeD most now c L = finD L ((some i)) ⟨(m0).ps ++ [c], (m0).since⟩ := (by rw [et, if_neg (fun h => by rw [List.any_eq_true] at h; obtain ⟨p, hp, e⟩ := h; exact hall p hp (of_decide_eq_true e))])
    have hpb : ∀ p ∈ (m0).ps, p.b.length ≤ 240 := (fun p hp => (hinv.wf p hp).2)
    rw [hfin]
    conv => whnf
    intro b78
    conv => whnf
    refine With.own (i := 78) (n := 0) (cap := 0) (size := 7) ⟨_, _, rfl, ⟨rfl, Nat.le_refl _⟩, ?_⟩
    refine append_own (a := some ⟨b78, 0, none⟩) (n := 0) (cap := 0) (xs := []) (k := (m0).ps.length) (ys := es) (src := .c (.rs am (m0).ps.length cm)) (F' := [A]) (.refl _) rfl (hes2.len) (Src.rs (A := A) (by simp) (hes1.ent hE)) hes3 (by show (0 + (m0).ps.length + (0 + (m0).ps.length) / 4 + 192) * 88 ≤ _; omega) (by omega) (by decide) 46 (.inr rfl) ?_
    intro a1 c1 hc1 hn1
    rw [Nat.zero_add, List.nil_append] at *
    conv => whnf
    intro b84
    conv => whnf
    have hen : PdR Q c (dens [] (c.sg x y)) := ⟨x, y, rfl, hx, hy⟩
    refine append_own (a := a1) (n := (m0).ps.length) (cap := c1) (xs := es) (k := 1) (ys := dens [] (c.sg x y)) (src := .c (.slc 84 0 1 1)) (F' := [A]) (.refl _) (hes2.len) (by rw [hen.len]; rfl) (by exact Src.slc (Exists.intro [] (List.append_nil _).symm)) (dens_one_cell (okL_spec (B := []) (l := c.sg x y) (by repeat' (first | exact trivial | rfl | exact hk _ | apply And.intro))))
      (by show ((m0).ps.length + 1 + ((m0).ps.length + 1) / 4 + 192) * 88 ≤ _; omega) (by omega) (by decide) 46 (.inr rfl) ?_
    intro a2 c2 hc2 hn2
    have hrow := hes2.snoc (fun _ _ h => h) hen.len hen
    generalize es ++ dens [] (c.sg x y) = es2 at hrow ⊢
    obtain ⟨m', hm'⟩ : ∃ m' : Ms, m' = ⟨(m0).ps ++ [c], (m0).since⟩ := ⟨_, rfl⟩
    have hml : m'.ps.length = (m0).ps.length + 1 := by rw [hm']; show (_ ++ [_]).length = _; rw [List.length_append]; rfl
    have hms : m'.since = (m0).since := by rw [hm']
    have hmp : m'.ps = (m0).ps ++ [c] := by rw [hm']
    rw [← hm']
    conv => whnf
    have hq2 : Rp (all [Own a2 c2 25 7 es2, Q]) a2 m'.ps := by rw [hmp]; exact ownRp hrow
    have hne2 : m'.ps ≠ [] := fun e => by rw [e] at hml; cases hml
    have hmb : ∀ p ∈ m'.ps, p.b.length ≤ 240 := by
      intro p hp
      rw [hmp] at hp
      rcases List.mem_append.1 hp with hp | hp
      · exact hpb p hp
      · rw [List.mem_singleton.1 hp]; exact hle.2.2.2.2.1
    have hsg : m'.sg a2 c2 = [.one (.rs a2 ((m0).ps.length + 1) c2), .one (.int .i64 (m0).since)] := by
      show [Seg.one (.rs a2 m'.ps.length c2), Seg.one (.int .i64 m'.since)] = _
      rw [hml, hms]
    refine CallOb.by' [] [] (dwhole_c _ (all [Own a2 c2 25 7 es2, Q]) ?_ m' a2 c2 hq2 hne2 hmb (by rw [hml]; omega)) (by show _ = [(SV.agg (m'.sg a2 c2)).den []]; rw [hsg]; rfl) ⟨rfl, rfl, rfl, fun t3 h3 => ⟨rfl, ?_⟩⟩
    · exact Ent.pair [5, 5] ⟨rfl, trivial⟩ hE
    obtain ⟨a3, c3⟩ := t3
    dsimp only at h3 ⊢
    conv => whnf
    have hmr : MsR (all [Own a2 c2 25 7 es2, Q]) m' (dens [] (m'.sg a2 c2)) := ⟨a2, c2, rfl, hq2, hne2, by rw [hml]; omega⟩
    refine CallOb.by' [] [] (dput_c _ (all [Own a2 c2 25 7 es2, Q]) ?_ a cap L most (hr.ent (Ent.at 1 rfl)) (by omega) ((some i)) ?_ m' a2 c2 hmr (wholeD m').2) (by show _ = [_, _, (SV.agg (m'.sg a2 c2)).den [], _]; rw [hsg]; rfl) ⟨rfl, rfl, rfl, fun t4 h4 => ⟨rfl, ?_⟩⟩
    · exact Ent.pair [6, 6] ⟨rfl, trivial⟩ hE
    · exact hoi
    obtain ⟨a4, c4, xs4⟩ := t4
    have hfr := (ownRm (a := a4) (c := c4) (e := 106) h4).ent Ent.assoc
    conv => whnf
    refine Ret.grp [] [0, 1] ?_
    conv => whnf
    exact Ret.mk' ((a4, c4, _), (a3, c3)) [] [0, 0, 0] ⟨hfr, h3⟩ rfl (by repeat' (first | exact trivial | rfl | apply And.intro)) (by repeat' (first | exact trivial | rfl | apply And.intro)) ⟨rfl, rfl⟩
end Go.Proofs.Ytiimeklgjoclpaa
