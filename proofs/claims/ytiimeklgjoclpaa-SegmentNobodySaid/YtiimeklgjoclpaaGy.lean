/- The document's tables of messages, walked: Expire, Take. -/
import Derived.Test.YtiimeklgjoclpaaGx
namespace Go.Proofs.Ytiimeklgjoclpaa
open Go.Sx
set_option maxRecDepth 100000
set_option pp.deepTerms false
set_option pp.maxSteps 300
set_option linter.unusedSimpArgs false
set_option linter.unusedVariables false

theorem Ent.pair {L : List HProp} {X A Q : HProp} (is : List Nat) (h : pickF is L fun l _ => l = [X, A] ∧ True) (hE : Ent A Q) : Ent (Sx.all L) (Sx.all [X, Q]) :=
  (Ent.sub is h).trans (Ent.seps fun h s => by
    obtain ⟨g, k, d, hg, hk, hx, g2, k2, d2, hg2, hk2, ha, _⟩ := s
    obtain ⟨g3, hl, hq⟩ := hE g2 ha
    exact ⟨g, k, d, hg, hk, hx, g3, k2, d2.sub hl (.refl _), hl.trans hg2, hk2, hq, trivial⟩)
theorem filter_take_succ {α : Type} (q : α → Bool) {l : List α} {k : Nat} (h : k < l.length) : (l.take (k + 1)).filter q = (l.take k).filter q ++ if q l[k] then [l[k]] else [] := by
  rw [List.take_succ_eq_append_getElem h, List.filter_append]
  congr 1
  cases hq : q l[k] <;> simp [hq]
theorem ownRm {a : Option Addr} {c e : Nat} {xs : List Value} {Q : HProp} {L : List Ms} (h : OwnRow xs 2 (MsR Q) L) : Rm (all [Own a c e 2 xs, Q]) a L := by
  have h1 := h.row (R := all [Own a c e 2 xs, Q]) (a := a) (Rd.ent (Ent.at 0 rfl) Own.rd)
  exact h1.ent (Ent.refl _) fun _ _ => MsR.ent (Ent.at 1 rfl)
theorem ownRp {a : Option Addr} {c e : Nat} {xs : List Value} {Q : HProp} {l : List Pc} (h : OwnRow xs 7 (PdR Q) l) : Rp (all [Own a c e 7 xs, Q]) a l := by
  have h1 := h.row (R := all [Own a c e 7 xs, Q]) (a := a) (Rd.ent (Ent.at 0 rfl) Own.rd)
  exact h1.ent (Ent.refl _) fun _ _ => PdR.ent (Ent.at 1 rfl)
theorem rp_own {Q : HProp} {a : Option Addr} {l : List Pc} (h : Rp Q a l) : ∃ xs, Rd Q a xs ∧ OwnRow xs 7 (PdR Q) l ∧ ∀ v ∈ xs, v.oneCell' = true := by
  obtain ⟨css, h1, h2, h3, h4⟩ := h.h
  refine ⟨css.flatten, h1, ⟨css, rfl, h2, h3, h4⟩, fun v hv => ?_⟩
  obtain ⟨c, hc, hv⟩ := List.mem_flatten.1 hv
  obtain ⟨i, hi⟩ := List.getElem?_of_mem hc
  have hlt := (List.getElem?_eq_some_iff.1 hi).1
  obtain ⟨a1, c1, rfl, _⟩ := h4 i _ c (List.getElem?_eq_getElem (by omega)) hi
  exact dens_one_cell (okL_spec (B := []) (by exact (by repeat' (first | exact trivial | rfl | exact hk _ | apply And.intro)))) v hv
theorem dexpire_c (A Q : HProp) (hE : Ent A Q) (a : Option Addr) (cap : Nat) (L : List Ms) (most now : Int) (hr : Rm Q a L) (hl : L.length ≤ 1000000) :
    Con Try.prog 25 [.agg (tv a L.length cap most), .c (.int .i64 now)] [] [] A (fun t : Option Addr × Nat × HProp => Rm (all [t.2.2, Q]) t.1 (expD now L))
      (fun t => .tup [.agg (tv t.1 (expD now L).length t.2.1 most), .c (.int .i64 ((L.length : Int) - (expD now L).length))]) (fun _ => []) (fun t => [t.2.2]) := by
  refine Con.of' tt_ok Try.func25 rfl (by decide) [.agg (tv a L.length cap most), .c (.int .i64 now)] [] [] rfl rfl trivial (by repeat' (first | exact trivial | rfl | exact hk _ | apply And.intro)) rfl ?_
  conv => whnf
  intro b2
  conv => whnf
  intro b4
  conv => whnf
  have bad : ¬ (0 ≤ now ∧ now ≤ 1099511627776) → expD now L = L := fun h => if_neg h
  refine Cond.dec (fun h1 => ?_) (fun h1 => ?_)
  · rw [bad (by omega), Int.sub_self]
    conv => whnf
    refine Ret.turn (F' := [all [], A]) (fun g s => seps_all0 s) ?_
    exact Ret.mk' (a, cap, all []) [] [0, 0] (hr.ent (Ent.at 1 rfl)) rfl (by repeat' (first | exact trivial | rfl | apply And.intro)) (by repeat' (first | exact trivial | rfl | apply And.intro)) ⟨rfl, rfl⟩
  conv => whnf
  refine Cond.dec (fun h2 => ?_) (fun h2 => ?_)
  · rw [bad (by omega), Int.sub_self]
    conv => whnf
    refine Ret.turn (F' := [all [], A]) (fun g s => seps_all0 s) ?_
    exact Ret.mk' (a, cap, all []) [] [0, 0] (hr.ent (Ent.at 1 rfl)) rfl (by repeat' (first | exact trivial | rfl | apply And.intro)) (by repeat' (first | exact trivial | rfl | apply And.intro)) ⟨rfl, rfl⟩
  have good : expD now L = L.filter fun m => decide (m.since > now - 128) := if_pos (by omega)
  rw [good]
  conv => whnf
  refine LoopOb.mk' (σ := PuS) (fun s => [(1, .c (.int .i64 now)), (2, .c (.ptr 2 0)), (4, .c (.ptr 4 0)), (6, .c (.rs s.a ((L.take s.k).filter fun m => decide (m.since > now - 128)).length s.c)), (7, .c (.int .i64 s.k))])
    (fun s => ⟨[(4, b4), (2, b2)], [(4, tz, 60), (2, tv a L.length cap most, 60)], [Own s.a s.c 106 2 s.xs, A]⟩)
    (fun s => s.k ≤ L.length ∧ OwnRow s.xs 2 (MsR Q) ((L.take s.k).filter fun m => decide (m.since > now - 128)) ∧ ((L.take s.k).filter fun m => decide (m.since > now - 128)).length ≤ s.c) (fun s => L.length - s.k) ⟨0, none, 0, []⟩ ⟨Nat.zero_le _, .nil, Nat.zero_le _⟩ ?_ ?_
  · refine Wk.own0 106 2 ?_
    exact Wk.mk' [4, 2] [0, 0] (by repeat' (first | exact trivial | rfl | apply And.intro)) (by repeat' (first | exact trivial | rfl | apply And.intro)) ⟨rfl, rfl⟩
  rintro ⟨k, a1, c1, xs⟩ ⟨hk, hxs, hc1⟩
  dsimp only at hk hxs hc1 ⊢
  have hfl : ((L.take k).filter fun m => decide (m.since > now - 128)).length ≤ k := Nat.le_trans (List.length_filter_le _ _) (by rw [List.length_take]; omega)
  generalize hX : (L.take k).filter (fun m => decide (m.since > now - 128)) = X at hxs hc1 hfl ⊢
  conv => whnf
  refine Cond.dec (fun h => ?_) (fun h => ?_)
  · have hk' : k < L.length := by omega
    have hft := filter_take_succ (fun m : Ms => decide (m.since > now - 128)) hk'
    rw [hX] at hft
    conv => whnf
    refine ⟨by omega, row_ptr (n := 1) (A := A) (by simp) hE hr (by omega) fun p hp => ?_⟩
    have hr2 : Rm Q (some (radr p)) L := by rw [← hp]; exact hr
    conv => whnf
    refine ldcell (n := 1) k 1 (A := A) (by simp) hE hr2 hk' (by decide) rfl rfl rfl fun cs hcs => ?_
    obtain ⟨ae, ce, rfl, _⟩ := hcs
    refine ⟨.int .i64 L[k].since, rfl, trivial, ?_⟩
    conv => whnf
    refine Ar.i64 (by omega) ?_
    conv => whnf
    refine Cond.dec (fun h8 => ?_) (fun h8 => ?_)
    · rw [if_pos (decide_eq_true h8)] at hft
      conv => whnf
      refine ⟨by omega, row_ptr (n := 1) (A := A) (by simp) hE hr (by omega) fun q hq => ?_⟩
      have hr3 : Rm Q (some (radr q)) L := by rw [← hq]; exact hr
      conv => whnf
      refine ldrow (n := 1) k (A := A) (by simp) hE hr3 hk' rfl rfl rfl rfl fun cs hcs => ?_
      have hcs0 := hcs
      obtain ⟨ay, cy, rfl, hy1, hy2, hy3⟩ := hcs
      generalize L[k] = y at hft hcs0 hy1 hy2 hy3 h8 ⊢
      refine ⟨y.sg ay cy, rfl, (by repeat' (first | exact trivial | rfl | apply And.intro)), rfl, ?_⟩
      conv => whnf
      intro b38
      conv => whnf
      refine append_own (a := a1) (n := X.length) (cap := c1) (xs := xs) (k := 1) (ys := dens [] (y.sg ay cy)) (src := .c (.slc 38 0 1 1)) (F' := [A]) (.refl _) (by rw [hxs.len]) (by rw [hcs0.len]; rfl) (by exact Src.slc (Exists.intro [] (List.append_nil _).symm)) (dens_one_cell (okL_spec (B := []) (l := y.sg ay cy) (by repeat' (first | exact trivial | rfl | apply And.intro)))) (by show (X.length + 1 + (X.length + 1) / 4 + 192) * 32 ≤ _; omega) (by omega) (by decide) 58 (.inr rfl) ?_
      intro a2 c2 hc2 hn2
      conv => whnf
      refine Ar.i64 (by omega) ?_
      conv => whnf
      refine ⟨⟨k + 1, a2, c2, xs ++ dens [] (y.sg ay cy)⟩, ⟨by dsimp only; omega, by dsimp only; rw [hft]; exact hxs.snoc (fun _ _ h => h) hcs0.len hcs0, by dsimp only; rw [hft, List.length_append]; exact hc2⟩, by dsimp only; omega, Wk.mk' [4, 2] [0, 0] ⟨⟨rfl, trivial⟩, ⟨rfl, trivial⟩, ⟨rfl, trivial⟩, ⟨?_, trivial⟩, ⟨rfl, trivial⟩, trivial⟩ (by repeat' (first | exact trivial | rfl | apply And.intro)) ⟨rfl, rfl⟩⟩
      show Value.slice a2 _ c2 = Value.slice a2 _ c2
      rw [hft, List.length_append]; rfl
    · rw [if_neg (by simpa using h8), List.append_nil] at hft
      conv => whnf
      refine Ar.i64 (by omega) ?_
      conv => whnf
      refine ⟨⟨k + 1, a1, c1, xs⟩, ⟨by dsimp only; omega, by dsimp only; rw [hft]; exact hxs, by dsimp only; rw [hft]; exact hc1⟩, by dsimp only; omega, Wk.mk' [4, 2] [0, 0] ⟨⟨rfl, trivial⟩, ⟨rfl, trivial⟩, ⟨rfl, trivial⟩, ⟨?_, trivial⟩, ⟨rfl, trivial⟩, trivial⟩ (by repeat' (first | exact trivial | rfl | apply And.intro)) ⟨rfl, rfl⟩⟩
      show Value.slice a1 _ c1 = Value.slice a1 _ c1
      rw [hft]
  have hk' : k = L.length := by omega
  subst hk'
  rw [List.take_length] at hX
  subst hX
  have hrow := ownRm (a := a1) (c := c1) (e := 106) hxs
  conv => whnf
  refine Ar.i64 (by omega) ?_
  conv => whnf
  exact Ret.mk' (a1, c1, Own a1 c1 106 2 xs) [] [0, 0] hrow rfl (by repeat' (first | exact trivial | rfl | apply And.intro)) (by repeat' (first | exact trivial | rfl | apply And.intro)) ⟨rfl, rfl⟩
end Go.Proofs.Ytiimeklgjoclpaa
