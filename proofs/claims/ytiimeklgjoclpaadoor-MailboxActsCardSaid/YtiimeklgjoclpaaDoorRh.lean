/- The document's boxes: fetched. -/
import Derived.Test.YtiimeklgjoclpaaDoorRg
namespace Go.Proofs.YtiimeklgjoclpaaDoor
open Go.Sx
set_option maxRecDepth 100000
set_option pp.deepTerms false
set_option pp.maxSteps 300
set_option linter.unusedSimpArgs false
set_option linter.unusedVariables false

theorem Rd.pre {R : HProp} {a : Option Addr} {xs ys : List Value} (h : Rd R a (xs ++ ys)) : Rd R a xs := by
  intro g hg
  rcases h g hg with h0 | ⟨p, e, cs, T, fz, e2, f⟩
  · left; exact (List.append_eq_nil_iff.1 h0).1
  · right; refine ⟨p, e, cs, T, fz, e2, fun j u hj => f j u ?_⟩
    rw [List.getElem?_append_left (List.getElem?_eq_some_iff.1 hj).1]; exact hj
theorem Row.take {α : Type} {R : HProp} {a : Option Addr} {n : Nat} {E : α → List Value → Prop} {l : List α} (k : Nat) (h : Row R a n E l) : Row R a n E (l.take k) := by
  obtain ⟨css, h1, h2, h3, h4⟩ := h.h
  refine ⟨css.take k, ?_, by simp [h2], fun c hc => h3 c (List.mem_of_mem_take hc), fun i x c hx hc => ?_⟩
  · have e : css.flatten = (css.take k).flatten ++ (css.drop k).flatten := by rw [← List.flatten_append, List.take_append_drop]
    rw [e] at h1; exact Rd.pre h1
  · rw [List.getElem?_take] at hx hc
    split at hx
    · rename_i hik; rw [if_pos hik] at hc; exact h4 i x c hx hc
    · cases hx
abbrev fbs (a : Option Addr) (n cap : Nat) (most e : Int) : SV := .tup [.agg (bv a n cap most), .c (.rs none 0 0), .c (.int .i64 e)]
theorem rfetchArg_c (A : HProp) (a : Option Addr) (n cap : Nat) (most now who ack : Int) (p : List UInt8) (hp : p.length = 16) (h : ¬ ((now ≥ 0 ∧ now ≤ 1099511627776) ∧ 0 ≤ ack)) :
    Pu Tryd.prog 14 [.agg (bv a n cap most), .c (.int .i64 now), .c (.int .i64 who), .c (.int .i64 ack), .agg [.many 16 (u8s p)]] A (fbs a n cap most 2) := by
  have hk16 := many_ok hp
  refine Con.of' tt_ok Tryd.func14 rfl (by decide) [.agg (bv a n cap most), .c (.int .i64 now), .c (.int .i64 who), .c (.int .i64 ack), .agg [.many 16 (u8s p)]] [] [] rfl rfl trivial ⟨⟨trivial, trivial, trivial⟩, trivial, trivial, trivial, ⟨hk16 _, trivial⟩, trivial⟩ rfl ?_
  conv => whnf
  intro b5
  conv => whnf
  intro b9
  conv => whnf
  intro b10
  conv => whnf
  refine CallOb.pu (rclock_c _ now) rfl ?_
  conv => whnf
  refine Cond.not (Cond.mk (fun h1 => ?_) (fun h1 => ?_))
  case refine_2 =>
    conv => whnf
    exact Ret.mk' () [] [0] trivial rfl (by repeat' (first | exact trivial | rfl | apply And.intro)) (by repeat' (first | exact trivial | rfl | apply And.intro)) ⟨rfl, rfl⟩
  conv => whnf
  refine Cond.dec (fun h2 => ?_) (fun h2 => absurd ⟨by simpa using h1, by omega⟩ h)
  conv => whnf
  exact Ret.mk' () [] [0] trivial rfl (by repeat' (first | exact trivial | rfl | apply And.intro)) (by repeat' (first | exact trivial | rfl | apply And.intro)) ⟨rfl, rfl⟩
theorem rfetchNone_c (A Q : HProp) (hE : Ent A Q) (a : Option Addr) (cap : Nat) (ls : List RBx) (most now who ack : Int) (p : List UInt8) (hp : p.length = 16) (h : (now ≥ 0 ∧ now ≤ 1099511627776) ∧ 0 ≤ ack) (hr : Rw Q a ls) (hl : ls.length ≤ 1000000) (hx : ∀ x ∈ ls, x.u ≠ who) :
    Pu Tryd.prog 14 [.agg (bv a ls.length cap most), .c (.int .i64 now), .c (.int .i64 who), .c (.int .i64 ack), .agg [.many 16 (u8s p)]] A (fbs a ls.length cap most 9) := by
  have hk16 := many_ok hp
  refine Con.of' tt_ok Tryd.func14 rfl (by decide) [.agg (bv a ls.length cap most), .c (.int .i64 now), .c (.int .i64 who), .c (.int .i64 ack), .agg [.many 16 (u8s p)]] [] [] rfl rfl trivial ⟨⟨trivial, trivial, trivial⟩, trivial, trivial, trivial, ⟨hk16 _, trivial⟩, trivial⟩ rfl ?_
  conv => whnf
  intro b5
  conv => whnf
  intro b9
  conv => whnf
  intro b10
  conv => whnf
  refine CallOb.pu (rclock_c _ now) rfl ?_
  conv => whnf
  refine Cond.not (Cond.mk (fun _ => ?_) (fun h1 => by rw [decide_eq_true h.1.1, decide_eq_true h.1.2] at h1; cases h1))
  conv => whnf
  refine Cond.dec (fun h2 => absurd h.2 (by omega)) (fun _ => ?_)
  conv => whnf
  refine CallOb.pu (rfind_c _ Q ((Ent.all (by first | (simp; done) | (simp [M.props]; done) | (simp [M.props]; first | (left; rfl) | (right; left; rfl) | (right; right; left; rfl) | (right; right; right; left; rfl) | (right; right; right; right; left; rfl)) | exact (.head _ : List.Mem _ _) | exact (.tail _ (.head _) : List.Mem _ _) | exact (.tail _ (.tail _ (.head _)) : List.Mem _ _) | exact (.tail _ (.tail _ (.tail _ (.head _))) : List.Mem _ _) | exact (.tail _ (.tail _ (.tail _ (.tail _ (.head _)))) : List.Mem _ _) | exact (.tail _ (.tail _ (.tail _ (.tail _ (.tail _ (.head _))))) : List.Mem _ _) | exact (.tail _ (.tail _ (.tail _ (.tail _ (.tail _ (.tail _ (.head _)))))) : List.Mem _ _) | exact (.tail _ (.tail _ (.tail _ (.tail _ (.tail _ (.tail _ (.tail _ (.head _))))))) : List.Mem _ _) | exact (.tail _ (.tail _ (.tail _ (.tail _ (.tail _ (.tail _ (.tail _ (.tail _ (.head _)))))))) : List.Mem _ _))).trans hE) a cap ls most who hr hl) rfl ?_
  rw [fnd_none hx]
  conv => whnf
  refine Cond.dec (fun _ => ?_) (fun h => absurd (by decide) h)
  conv => whnf
  exact Ret.mk' () [] [0] trivial rfl (by repeat' (first | exact trivial | rfl | apply And.intro)) (by repeat' (first | exact trivial | rfl | apply And.intro)) ⟨rfl, rfl⟩
theorem rfetchKey_c (A Q : HProp) (hE : Ent A Q) (a : Option Addr) (cap : Nat) (pre post : List RBx) (x : RBx) (most now who ack : Int) (p : List UInt8) (hp : p.length = 16) (h : (now ≥ 0 ∧ now ≤ 1099511627776) ∧ 0 ≤ ack) (hack : ack ≤ 9223372036854775807) (hr : Rw Q a (pre ++ x :: post)) (hl : (pre ++ x :: post).length ≤ 1000000) (hx : x.u = who) (hpre : ∀ y ∈ pre, y.u ≠ who)
    (hne : proofD x.key now who ack ≠ p) :
    Pu Tryd.prog 14 [.agg (bv a (pre ++ x :: post).length cap most), .c (.int .i64 now), .c (.int .i64 who), .c (.int .i64 ack), .agg [.many 16 (u8s p)]] A (fbs a (pre ++ x :: post).length cap most 15) := by
  have hk16 := many_ok hp
  refine Con.of' tt_ok Tryd.func14 rfl (by decide) [.agg (bv a (pre ++ x :: post).length cap most), .c (.int .i64 now), .c (.int .i64 who), .c (.int .i64 ack), .agg [.many 16 (u8s p)]] [] [] rfl rfl trivial ⟨⟨trivial, trivial, trivial⟩, trivial, trivial, trivial, ⟨hk16 _, trivial⟩, trivial⟩ rfl ?_
  conv => whnf
  intro b5
  conv => whnf
  intro b9
  conv => whnf
  intro b10
  conv => whnf
  refine CallOb.pu (rclock_c _ now) rfl ?_
  conv => whnf
  refine Cond.not (Cond.mk (fun _ => ?_) (fun h1 => by rw [decide_eq_true h.1.1, decide_eq_true h.1.2] at h1; cases h1))
  conv => whnf
  refine Cond.dec (fun h2 => absurd h.2 (by omega)) (fun _ => ?_)
  conv => whnf
  refine CallOb.pu (rfind_c _ Q ((Ent.all (by first | (simp; done) | (simp [M.props]; done) | (simp [M.props]; first | (left; rfl) | (right; left; rfl) | (right; right; left; rfl) | (right; right; right; left; rfl) | (right; right; right; right; left; rfl)) | exact (.head _ : List.Mem _ _) | exact (.tail _ (.head _) : List.Mem _ _) | exact (.tail _ (.tail _ (.head _)) : List.Mem _ _) | exact (.tail _ (.tail _ (.tail _ (.head _))) : List.Mem _ _) | exact (.tail _ (.tail _ (.tail _ (.tail _ (.head _)))) : List.Mem _ _) | exact (.tail _ (.tail _ (.tail _ (.tail _ (.tail _ (.head _))))) : List.Mem _ _) | exact (.tail _ (.tail _ (.tail _ (.tail _ (.tail _ (.tail _ (.head _)))))) : List.Mem _ _) | exact (.tail _ (.tail _ (.tail _ (.tail _ (.tail _ (.tail _ (.tail _ (.head _))))))) : List.Mem _ _) | exact (.tail _ (.tail _ (.tail _ (.tail _ (.tail _ (.tail _ (.tail _ (.tail _ (.head _)))))))) : List.Mem _ _))).trans hE) a cap (pre ++ x :: post) most who hr hl) rfl ?_
  rw [fnd_at hx hpre]
  conv => whnf
  have hpl : pre.length < (pre ++ x :: post).length := by simp
  have hge : (pre ++ x :: post)[pre.length]'hpl = x := by simp
  refine Cond.dec (fun h => absurd h (by omega)) (fun _ => ?_)
  conv => whnf
  refine ⟨by omega, row_ptr (n := 34) (A := A) (by simp) hE hr (by omega) fun q hq => ?_⟩
  have hr2 : Rw Q (some (radr q)) (pre ++ x :: post) := by rw [← hq]; exact hr
  conv => whnf
  refine ldrow (n := 34) pre.length (A := A) (by simp) hE hr2 hpl rfl rfl rfl rfl fun cs hcs => ?_
  rw [hge] at hcs
  obtain ⟨ax, cx, rfl, hx1, hx2, hx3, hx4⟩ := hcs
  have hkx := RBx.okL hx3 ax cx
  have hk32 := many_ok hx3
  refine ⟨x.sg ax cx, rfl, hkx _, rfl, ?_⟩
  conv => whnf
  intro b14
  conv => whnf
  refine Draw.till (by kernel_rfl) tt_ok (Tr.of [0, 1, 2, 3, 4, 6, 5, 7] .nil) 1000000 (by kernel_rfl) ?_
  conv => whnf
  refine CallOb.pu (rproof_c _ x.key hx3 now who ack (by omega) hack) rfl ?_
  conv => whnf
  refine Sub.whole ?_
  conv => whnf
  have hpl16 := proofD_len x.key now who ack
  refine eq_tag hpl16 hp (by exact List.append_nil _) (by exact List.append_nil _) ?_
  conv => whnf
  refine Cond.not (Cond.dec (fun h => absurd h hne) (fun _ => ?_))
  conv => whnf
  exact Ret.mk' () [] [0] trivial rfl (by repeat' (first | exact trivial | rfl | apply And.intro)) (by repeat' (first | exact trivial | rfl | apply And.intro)) ⟨rfl, rfl⟩
/-- What is left of a box. -/
abbrev RBx.left (x : RBx) (ack : Int) : RBx := { x with l := x.l.filter fun e => decide (e.seq > ack) }
structure LS where
  k : Nat
  a : Option Addr
  c : Nat
  xs : List Value
theorem filter_take_succ {α : Type} (q : α → Bool) {l : List α} {k : Nat} (h : k < l.length) : (l.take (k + 1)).filter q = (l.take k).filter q ++ if q l[k] then [l[k]] else [] := by
  rw [List.take_succ_eq_append_getElem h, List.filter_append]
  cases e : q l[k] <;> simp [e]
set_option maxHeartbeats 1000000 in
theorem rfetch1_c (A Q : HProp) (hE : Ent A Q) (a : Option Addr) (cap : Nat) (pre post : List RBx) (x : RBx) (most now who ack : Int) (p : List UInt8) (hp : p.length = 16) (h : (now ≥ 0 ∧ now ≤ 1099511627776) ∧ 0 ≤ ack) (hack : ack ≤ 9223372036854775807) (hr : Rw Q a (pre ++ x :: post)) (hl : (pre ++ x :: post).length ≤ 1000000) (hx : x.u = who) (hpre : ∀ y ∈ pre, y.u ≠ who)
    (heq : proofD x.key now who ack = p) :
    Con Tryd.prog 14 [.agg (bv a (pre ++ x :: post).length cap most), .c (.int .i64 now), .c (.int .i64 who), .c (.int .i64 ack), .agg [.many 16 (u8s p)]] [] [] A (fun t : (Option Addr × Nat × HProp) × Option Addr × Nat => Rw (all [t.1.2.2, Q]) t.1.1 (pre ++ x.left ack :: post) ∧ Re (all [t.1.2.2, Q]) t.2.1 ((x.left ack).l.take 8))
      (fun t => .tup [.agg (bv t.1.1 (pre ++ x :: post).length t.1.2.1 most), .c (.rs t.2.1 ((x.left ack).l.take 8).length t.2.2), .c (.int .i64 0)]) (fun _ => []) (fun t => [t.1.2.2]) := by
  have hk16 := many_ok hp
  refine Con.of' tt_ok Tryd.func14 rfl (by decide) [.agg (bv a (pre ++ x :: post).length cap most), .c (.int .i64 now), .c (.int .i64 who), .c (.int .i64 ack), .agg [.many 16 (u8s p)]] [] [] rfl rfl trivial ⟨⟨trivial, trivial, trivial⟩, trivial, trivial, trivial, ⟨hk16 _, trivial⟩, trivial⟩ rfl ?_
  conv => whnf
  intro b5
  conv => whnf
  intro b9
  conv => whnf
  intro b10
  conv => whnf
  refine CallOb.pu (rclock_c _ now) rfl ?_
  conv => whnf
  refine Cond.not (Cond.mk (fun _ => ?_) (fun h1 => by rw [decide_eq_true h.1.1, decide_eq_true h.1.2] at h1; cases h1))
  conv => whnf
  refine Cond.dec (fun h2 => absurd h.2 (by omega)) (fun _ => ?_)
  conv => whnf
  refine CallOb.pu (rfind_c _ Q ((Ent.all (by first | (simp; done) | (simp [M.props]; done) | (simp [M.props]; first | (left; rfl) | (right; left; rfl) | (right; right; left; rfl) | (right; right; right; left; rfl) | (right; right; right; right; left; rfl)) | exact (.head _ : List.Mem _ _) | exact (.tail _ (.head _) : List.Mem _ _) | exact (.tail _ (.tail _ (.head _)) : List.Mem _ _) | exact (.tail _ (.tail _ (.tail _ (.head _))) : List.Mem _ _) | exact (.tail _ (.tail _ (.tail _ (.tail _ (.head _)))) : List.Mem _ _) | exact (.tail _ (.tail _ (.tail _ (.tail _ (.tail _ (.head _))))) : List.Mem _ _) | exact (.tail _ (.tail _ (.tail _ (.tail _ (.tail _ (.tail _ (.head _)))))) : List.Mem _ _) | exact (.tail _ (.tail _ (.tail _ (.tail _ (.tail _ (.tail _ (.tail _ (.head _))))))) : List.Mem _ _) | exact (.tail _ (.tail _ (.tail _ (.tail _ (.tail _ (.tail _ (.tail _ (.tail _ (.head _)))))))) : List.Mem _ _))).trans hE) a cap (pre ++ x :: post) most who hr hl) rfl ?_
  rw [fnd_at hx hpre]
  conv => whnf
  have hpl : pre.length < (pre ++ x :: post).length := by simp
  have hge : (pre ++ x :: post)[pre.length]'hpl = x := by simp
  refine Cond.dec (fun h => absurd h (by omega)) (fun _ => ?_)
  conv => whnf
  refine ⟨by omega, row_ptr (n := 34) (A := A) (by simp) hE hr (by omega) fun q hq => ?_⟩
  have hr2 : Rw Q (some (radr q)) (pre ++ x :: post) := by rw [← hq]; exact hr
  conv => whnf
  refine ldrow (n := 34) pre.length (A := A) (by simp) hE hr2 hpl rfl rfl rfl rfl fun cs hcs => ?_
  rw [hge] at hcs
  obtain ⟨ax, cx, rfl, hx1, hx2, hx3, hx4⟩ := hcs
  have hkx := RBx.okL hx3 ax cx
  have hk32 := many_ok hx3
  refine ⟨x.sg ax cx, rfl, hkx _, rfl, ?_⟩
  conv => whnf
  intro b14
  conv => whnf
  refine Draw.till (by kernel_rfl) tt_ok (Tr.of [0, 1, 2, 3, 4, 6, 5, 7] .nil) 1000000 (by kernel_rfl) ?_
  conv => whnf
  refine CallOb.pu (rproof_c _ x.key hx3 now who ack (by omega) hack) rfl ?_
  conv => whnf
  refine Sub.whole ?_
  conv => whnf
  have hpl16 := proofD_len x.key now who ack
  refine eq_tag hpl16 hp (by exact List.append_nil _) (by exact List.append_nil _) ?_
  conv => whnf
  refine Cond.not (Cond.dec (fun _ => ?_) (fun h => absurd heq h))
  have hz16 : ∀ B, Seg.ok B (.many 16 (List.replicate 16 (.int .u8 0))) := fun B => ⟨rfl, fun v hv => by simp at hv; subst hv; rfl⟩
  conv => whnf
  refine LoopOb.mk' (σ := LS) (fun s => [(3, .c (.int .i64 ack)), (5, .c (.ptr 5 0)), (10, .c (.ptr 10 0)), (13, .c (.int .i64 pre.length)), (14, .c (.ptr 14 0)), (15, .c (.rs s.a ((x.l.take s.k).filter fun e => decide (e.seq > ack)).length s.c)), (16, .c (.int .i64 s.k))])
    (fun s => ⟨[(14, b14), (10, b10), (5, b5)], [(14, x.sg ax cx, 93), (10, bz, 54), (5, bv a (pre ++ x :: post).length cap most, 54)], [Own s.a s.c 95 14 s.xs, A]⟩)
    (fun s => s.k ≤ x.l.length ∧ OwnRow s.xs 14 (EnR Q) ((x.l.take s.k).filter fun e => decide (e.seq > ack)) ∧ ((x.l.take s.k).filter fun e => decide (e.seq > ack)).length ≤ s.c) (fun s => x.l.length - s.k) ⟨0, none, 0, []⟩ ⟨Nat.zero_le _, .nil, Nat.zero_le _⟩ ?_ ?_
  · refine Wk.own0 95 14 ?_
    exact Wk.mk' [14, 10, 5] [0, 0] (by repeat' (first | exact trivial | rfl | apply And.intro)) ⟨⟨trivial, hkx _⟩, (by repeat' (first | exact trivial | rfl | apply And.intro)), (by repeat' (first | exact trivial | rfl | apply And.intro)), trivial⟩ ⟨rfl, rfl⟩
  rintro ⟨k, a1, c1, xs⟩ ⟨hk, hxs, hc1⟩
  dsimp only at hk hxs hc1 ⊢
  have hfl : ((x.l.take k).filter fun e => decide (e.seq > ack)).length ≤ 1000 := Nat.le_trans (List.length_filter_le _ _) (by rw [List.length_take]; omega)
  generalize hL : (x.l.take k).filter (fun e => decide (e.seq > ack)) = L at hxs hc1 hfl ⊢
  conv => whnf
  refine Cond.dec (fun h7 => ?_) (fun h7 => ?_)
  · have hk' : k < x.l.length := by omega
    have hft := filter_take_succ (fun e : REn => decide (e.seq > ack)) hk'
    rw [hL] at hft
    conv => whnf
    refine ⟨by omega, row_ptr (n := 13) (A := A) (by simp) hE hx1 (by omega) fun q1 hq1 => ?_⟩
    have hx1' : Re Q (some (radr q1)) x.l := by rw [← hq1]; exact hx1
    conv => whnf
    refine ldcell (n := 13) k 0 (A := A) (by simp) hE hx1' hk' (by decide) rfl rfl rfl fun cs hcs => ?_
    obtain ⟨ae, ce, rfl, he1, he2⟩ := hcs
    refine ⟨.int .i64 x.l[k].seq, rfl, trivial, ?_⟩
    conv => whnf
    refine Cond.dec (fun h8 => ?_) (fun h8 => ?_)
    · rw [if_pos (decide_eq_true h8)] at hft
      conv => whnf
      refine ⟨by omega, row_ptr (n := 13) (A := A) (by simp) hE hx1 (by omega) fun q2 hq2 => ?_⟩
      have hx2' : Re Q (some (radr q2)) x.l := by rw [← hq2]; exact hx1
      conv => whnf
      refine ldrow (n := 13) k (A := A) (by simp) hE hx2' hk' rfl rfl rfl rfl fun cs hcs => ?_
      have hcs0 := hcs
      obtain ⟨ae2, ce2, rfl, he3, he4⟩ := hcs
      have hky := REn.okL he4 ae2 ce2
      generalize x.l[k] = e at hft hcs0 hky he3 he4 h8 ⊢
      refine ⟨e.sg ae2 ce2, rfl, hky _, rfl, ?_⟩
      conv => whnf
      intro b66
      conv => whnf
      refine append_own (a := a1) (n := L.length) (cap := c1) (xs := xs) (k := 1) (ys := dens [] (e.sg ae2 ce2)) (src := .c (.slc 66 0 1 1)) (F' := [A]) (.refl _) (by rw [hxs.len]) (by rw [hcs0.len]; rfl) (by exact Src.slc (Exists.intro [] (List.append_nil _).symm)) (dens_one_cell (okL_spec (hky []))) (by show (L.length + 1 + (L.length + 1) / 4 + 192) * 72 ≤ _; omega) (by omega) (by decide) 55 (.inr rfl) ?_
      intro a2 c2 hc2 hn2
      conv => whnf
      refine Ar.i64 (by omega) ?_
      conv => whnf
      refine ⟨⟨k + 1, a2, c2, xs ++ dens [] (e.sg ae2 ce2)⟩, ⟨by dsimp only; omega, by dsimp only; rw [hft]; exact hxs.snoc (fun _ _ h => h) hcs0.len hcs0, by dsimp only; rw [hft, List.length_append]; exact hc2⟩, by dsimp only; omega, Wk.mk' [14, 10, 5] [0, 0] ⟨⟨rfl, trivial⟩, ⟨rfl, trivial⟩, ⟨rfl, trivial⟩, ⟨rfl, trivial⟩, ⟨rfl, trivial⟩, ⟨?_, trivial⟩, ⟨rfl, trivial⟩, trivial⟩ ⟨⟨trivial, hkx _⟩, (by repeat' (first | exact trivial | rfl | apply And.intro)), (by repeat' (first | exact trivial | rfl | apply And.intro)), trivial⟩ ⟨rfl, rfl⟩⟩
      show Value.slice a2 _ c2 = Value.slice a2 _ c2
      rw [hft, List.length_append]; rfl
    · rw [if_neg (by simpa using h8), List.append_nil] at hft
      conv => whnf
      refine Ar.i64 (by omega) ?_
      conv => whnf
      refine ⟨⟨k + 1, a1, c1, xs⟩, ⟨by dsimp only; omega, by dsimp only; rw [hft]; exact hxs, by dsimp only; rw [hft]; exact hc1⟩, by dsimp only; omega, Wk.mk' [14, 10, 5] [0, 0] ⟨⟨rfl, trivial⟩, ⟨rfl, trivial⟩, ⟨rfl, trivial⟩, ⟨rfl, trivial⟩, ⟨rfl, trivial⟩, ⟨?_, trivial⟩, ⟨rfl, trivial⟩, trivial⟩ ⟨⟨trivial, hkx _⟩, (by repeat' (first | exact trivial | rfl | apply And.intro)), (by repeat' (first | exact trivial | rfl | apply And.intro)), trivial⟩ ⟨rfl, rfl⟩⟩
      show Value.slice a1 _ c1 = Value.slice a1 _ c1
      rw [hft]
  have hk' : k = x.l.length := by omega
  subst hk'
  rw [List.take_length] at hL
  subst hL
  have hrow := ownRe (a := a1) (c := c1) (e := 95) hxs
  conv => whnf
  have hQ2 : BxR (all [Own a1 c1 95 14 xs, Q]) (x.left ack) (dens [] ((x.left ack).sg a1 c1)) := ⟨a1, c1, rfl, hrow, hc1, hx3, hfl⟩
  refine Draw.part (by kernel_rfl) tt_ok (Tr.of [0, 1, 2, 4, 5, 6, 7, 8, 3, 9, 10, 11] .nil) 1000000 [(14, (x.left ack).sg a1 c1, 93), (5, bv a (pre ++ x :: post).length cap most, 54)] [Own a1 c1 95 14 xs, A] (by kernel_rfl) (fun k ch h => k ch (by simp at h ⊢; rcases h with h | h <;> simp [h])) (Sub.parts [14, 5] [0, 0] ⟨rfl, rfl⟩ ?_)
  conv => whnf
  refine ⟨by omega, ?_⟩
  conv => whnf
  refine CallOb.new (rput_c _ (all [Own a1 c1 95 14 xs, Q]) (by exact Ent.pair [3, 3] ⟨rfl, trivial⟩ hE) a cap (pre ++ x :: post) most (hr.ent (Ent.at 1 rfl)) hl pre.length hpl (x.left ack) a1 c1 hQ2) rfl fun t ht => ?_
  obtain ⟨a3, c3, xs3⟩ := t
  have hfin := (ownRw (a := a3) (c := c3) (e := 93) ht.1).ent Ent.assoc
  rw [set_mid] at hfin
  conv => whnf
  refine Sub.parts [14, 5] [1, 1] ⟨rfl, rfl⟩ ?_
  conv => whnf
  refine Sub.parts [14, 5] [1, 1] ⟨rfl, rfl⟩ ?_
  conv => whnf
  refine Ret.grp [] [0, 0] ?_
  conv => whnf
  refine Ret.mk' ((a3, c3, all [Own a3 c3 93 35 xs3, Own a1 c1 95 14 xs]), a1, c1) [] [0, 0] ⟨hfin, Re.ent (Ent.seps fun h s => ?_) (Row.take 8 hrow)⟩ ?_ (by repeat' (first | exact trivial | rfl | apply And.intro)) (by repeat' (first | exact trivial | rfl | apply And.intro)) ⟨rfl, rfl⟩
  · obtain ⟨g, k, d, hg, hk, h1, h2⟩ := seps_all.1 s
    exact seps_mono hk h2
  · show Value.tuple #[_, Value.slice (cutA a1 c1 0 14) ((min ((x.left ack).l.length : Int) 8).toNat - 0) (c1 - 0), _] = Value.tuple #[_, Value.slice a1 ((x.left ack).l.take 8).length c1, _]
    rw [cutA0, List.length_take]
    have : (min ((x.left ack).l.length : Int) 8).toNat - 0 = min 8 (x.left ack).l.length := by omega
    rw [this]; rfl
end Go.Proofs.YtiimeklgjoclpaaDoor
