/- The document's tables of messages, walked: put, Expire. -/
import Derived.Test.YtiimeklgjoclpaaGw
namespace Go.Proofs.Ytiimeklgjoclpaa
open Go.Sx
set_option maxRecDepth 100000
set_option pp.deepTerms false
set_option pp.maxSteps 300
set_option linter.unusedSimpArgs false
set_option linter.unusedVariables false

def accD (L : List Ms) (o : Option Nat) (m : Ms) (gone : Bool) (k : Nat) : List Ms :=
  match o with
  | none => L.take k
  | some i => if gone then (L.take k).eraseIdx i else (L.take k).set i m
theorem accD_le {L : List Ms} {o : Option Nat} {m : Ms} {gone : Bool} {k : Nat} : (accD L o m gone k).length ≤ k := by
  unfold accD
  cases o with
  | none => rw [List.length_take]; omega
  | some i =>
    cases gone with
    | true =>
      show ((L.take k).eraseIdx i).length ≤ k
      rw [List.length_eraseIdx, List.length_take]; split <;> omega
    | false => show ((L.take k).set i m).length ≤ k; rw [List.length_set, List.length_take]; omega
theorem accD_ne {L : List Ms} {o : Option Nat} {m : Ms} {gone : Bool} {k : Nat} (hk : k < L.length) (h : ∀ i, o = some i → i ≠ k) : accD L o m gone (k + 1) = accD L o m gone k ++ [L[k]] := by
  have e := List.take_succ_eq_append_getElem hk
  have hl : (L.take k).length = k := by rw [List.length_take]; omega
  unfold accD
  rw [e]
  cases o with
  | none => rfl
  | some i =>
    have hi := h i rfl
    cases gone with
    | true =>
      show (L.take k ++ [L[k]]).eraseIdx i = (L.take k).eraseIdx i ++ _
      by_cases h1 : i < k
      · rw [List.eraseIdx_append_of_lt_length (by omega)]
      · rw [List.eraseIdx_of_length_le (by rw [List.length_append, hl, List.length_singleton]; omega), List.eraseIdx_of_length_le (by omega)]
    | false =>
      show (L.take k ++ [L[k]]).set i m = (L.take k).set i m ++ _
      by_cases h1 : i < k
      · rw [List.set_append_left _ _ (by omega)]
      · rw [List.set_eq_of_length_le (by rw [List.length_append, hl, List.length_singleton]; omega), List.set_eq_of_length_le (by omega)]
theorem accD_gone {L : List Ms} {m : Ms} {k : Nat} (hk : k < L.length) : accD L (some k) m true (k + 1) = accD L (some k) m true k := by
  have hl : (L.take k).length = k := by rw [List.length_take]; omega
  show (L.take (k + 1)).eraseIdx k = (L.take k).eraseIdx k
  rw [List.take_succ_eq_append_getElem hk, List.eraseIdx_append_of_length_le (by omega), hl, Nat.sub_self, List.eraseIdx_cons_zero, List.append_nil, List.eraseIdx_of_length_le (by omega)]
theorem accD_set {L : List Ms} {m : Ms} {k : Nat} (hk : k < L.length) : accD L (some k) m false (k + 1) = accD L (some k) m false k ++ [m] := by
  have hl : (L.take k).length = k := by rw [List.length_take]; omega
  show (L.take (k + 1)).set k m = (L.take k).set k m ++ [m]
  rw [List.take_succ_eq_append_getElem hk, List.set_append_right _ _ (by omega), hl, Nat.sub_self, List.set_cons_zero, List.set_eq_of_length_le (by omega)]
theorem accD_put {L : List Ms} {o : Option Nat} {m : Ms} {gone : Bool} : putD L o m gone = if o = none ∧ gone = false then accD L o m gone L.length ++ [m] else accD L o m gone L.length := by
  unfold accD putD
  rw [List.take_length]
  cases o <;> cases gone <;> rfl
abbrev tz : List Seg := [.one (.rs none 0 0), .one (.int .i64 0)]
structure PuS where
  k : Nat
  a : Option Addr
  c : Nat
  xs : List Value
theorem dput_c (A Q : HProp) (hE : Ent A Q) (a : Option Addr) (cap : Nat) (L : List Ms) (most : Int) (hr : Rm Q a L) (hl : L.length ≤ 1000000) (o : Option Nat) (ho : ∀ i, o = some i → i < L.length) (m : Ms) (am : Option Addr) (cm : Nat) (hm : MsR Q m (dens [] (m.sg am cm))) (gone : Bool) :
    Con Try.prog 52 [.agg (tv a L.length cap most), .c (.int .i64 (fndI o)), .agg (m.sg am cm), .c (.bool gone)] [] [] A (fun t : Option Addr × Nat × List Value => OwnRow t.2.2 2 (MsR Q) (putD L o m gone)) (fun t => .agg (tv t.1 (putD L o m gone).length t.2.1 most)) (fun _ => [])
      (fun t => [Own t.1 t.2.1 106 2 t.2.2]) := by
  refine Con.of' tt_ok Try.func52 rfl (by decide) [.agg (tv a L.length cap most), .c (.int .i64 (fndI o)), .agg (m.sg am cm), .c (.bool gone)] [] [] rfl rfl trivial (by repeat' (first | exact trivial | rfl | exact hk _ | apply And.intro)) rfl ?_
  conv => whnf
  intro b4
  conv => whnf
  intro b6
  conv => whnf
  intro b8
  conv => whnf
  refine LoopOb.mk' (σ := PuS) (fun s => [(1, .c (.int .i64 (fndI o))), (3, .c (.bool gone)), (4, .c (.ptr 4 0)), (6, .c (.ptr 6 0)), (8, .c (.ptr 8 0)), (9, .c (.rs s.a (accD L o m gone s.k).length s.c)), (10, .c (.int .i64 s.k))])
    (fun s => ⟨[(8, b8), (6, b6), (4, b4)], [(8, tz, 60), (6, m.sg am cm, 106), (4, tv a L.length cap most, 60)], [Own s.a s.c 106 2 s.xs, A]⟩)
    (fun s => s.k ≤ L.length ∧ OwnRow s.xs 2 (MsR Q) (accD L o m gone s.k) ∧ (accD L o m gone s.k).length ≤ s.c) (fun s => L.length - s.k) ⟨0, none, 0, []⟩ ⟨Nat.zero_le _, ?_, Nat.le_trans accD_le (Nat.le_refl _)⟩ ?_ ?_
  · have e0 : accD L o m gone 0 = [] := List.eq_nil_of_length_eq_zero (Nat.le_zero.1 accD_le)
    dsimp only
    rw [e0]; exact .nil
  · have e0 : accD L o m gone 0 = [] := List.eq_nil_of_length_eq_zero (Nat.le_zero.1 accD_le)
    refine Wk.own0 106 2 ?_
    exact Wk.mk' [8, 6, 4] [0, 0] ⟨⟨rfl, trivial⟩, ⟨rfl, trivial⟩, ⟨rfl, trivial⟩, ⟨rfl, trivial⟩, ⟨rfl, trivial⟩, ⟨by dsimp only; rw [e0]; rfl, trivial⟩, ⟨rfl, trivial⟩, trivial⟩ (by repeat' (first | exact trivial | rfl | apply And.intro)) ⟨rfl, rfl⟩
  rintro ⟨k, a1, c1, xs⟩ ⟨hk, hxs, hc1⟩
  dsimp only at hk hxs hc1 ⊢
  have hkl : (accD L o m gone k).length ≤ k := accD_le
  conv => whnf
  refine Cond.dec (fun h => ?_) (fun h => ?_)
  · have hk' : k < L.length := by omega
    conv => whnf
    refine Cond.neI (fun h1 => ?_) (fun h1 => ?_)
    · have hts := accD_ne (o := o) (m := m) (gone := gone) hk' (fun i hi e => h1 (by rw [hi, ← e]; rfl))
      conv => whnf
      refine ⟨by omega, row_ptr (n := 1) (A := A) (by simp) hE hr (by omega) fun p hp => ?_⟩
      have hr2 : Rm Q (some (radr p)) L := by rw [← hp]; exact hr
      conv => whnf
      refine ldrow (n := 1) k (A := A) (by simp) hE hr2 hk' rfl rfl rfl rfl fun cs hcs => ?_
      have hcs0 := hcs
      obtain ⟨ay, cy, rfl, hy1, hy2, hy3⟩ := hcs
      generalize L[k] = y at hts hcs0 hy1 hy2 hy3 ⊢
      refine ⟨y.sg ay cy, rfl, (by repeat' (first | exact trivial | rfl | apply And.intro)), rfl, ?_⟩
      conv => whnf
      intro b27
      conv => whnf
      refine append_own (a := a1) (n := (accD L o m gone k).length) (cap := c1) (xs := xs) (k := 1) (ys := dens [] (y.sg ay cy)) (src := .c (.slc 27 0 1 1)) (F' := [A]) (.refl _) (by rw [hxs.len]) (by rw [(hcs0.len)]; rfl) (by exact Src.slc (Exists.intro [] (List.append_nil _).symm)) (dens_one_cell (okL_spec (B := []) (l := y.sg ay cy) (by repeat' (first | exact trivial | rfl | apply And.intro)))) (by show ((accD L o m gone k).length + 1 + ((accD L o m gone k).length + 1) / 4 + 192) * 32 ≤ _; omega) (by omega) (by decide) 58 (.inr rfl) ?_
      intro a2 c2 hc2 hn2
      conv => whnf
      refine Ar.i64 (by omega) ?_
      conv => whnf
      refine ⟨⟨k + 1, a2, c2, xs ++ dens [] (y.sg ay cy)⟩, ⟨by dsimp only; omega, by dsimp only; rw [hts]; exact hxs.snoc (fun _ _ h => h) (hcs0.len) (hcs0), ?_⟩, by dsimp only; omega, Wk.mk' [8, 6, 4] [0, 0] ⟨⟨rfl, trivial⟩, ⟨rfl, trivial⟩, ⟨rfl, trivial⟩, ⟨rfl, trivial⟩, ⟨rfl, trivial⟩, ⟨?_, trivial⟩, ⟨rfl, trivial⟩, trivial⟩ (by repeat' (first | exact trivial | rfl | apply And.intro)) ⟨rfl, rfl⟩⟩
      · dsimp only; rw [hts, List.length_append]; exact hc2
      · show Value.slice a2 _ c2 = Value.slice a2 _ c2
        rw [hts, List.length_append]; rfl
    · have ho1 : o = some k := by
        cases o with
        | none => exfalso; simp only [fndI] at h1; omega
        | some i => simp only [fndI] at h1; congr 1; omega
      conv => whnf
      cases gone with
      | true =>
        refine Cond.not (Cond.mk (fun _ => ?_) (fun h => by cases h))
        have hts : accD L o m true (k + 1) = accD L o m true k := by rw [ho1]; exact accD_gone hk'
        conv => whnf
        refine Ar.i64 (by omega) ?_
        conv => whnf
        refine ⟨⟨k + 1, a1, c1, xs⟩, ⟨by dsimp only; omega, by dsimp only; rw [hts]; exact hxs, by dsimp only; rw [hts]; exact hc1⟩, by dsimp only; omega, Wk.mk' [8, 6, 4] [0, 0] ⟨⟨rfl, trivial⟩, ⟨rfl, trivial⟩, ⟨rfl, trivial⟩, ⟨rfl, trivial⟩, ⟨rfl, trivial⟩, ⟨by dsimp only; rw [hts]; rfl, trivial⟩, ⟨rfl, trivial⟩, trivial⟩ (by repeat' (first | exact trivial | rfl | apply And.intro)) ⟨rfl, rfl⟩⟩
      | false =>
        refine Cond.not (Cond.mk (fun h => by cases h) (fun _ => ?_))
        obtain ⟨gone, hg⟩ : ∃ gone, gone = false := ⟨_, rfl⟩
        rw [← hg] at hxs hc1 hkl ⊢
        have hts : accD L o m gone (k + 1) = accD L o m gone k ++ [m] := by rw [ho1, hg]; exact accD_set hk'
        conv => whnf
        intro b33
        conv => whnf
        refine append_own (a := a1) (n := (accD L o m gone k).length) (cap := c1) (xs := xs) (k := 1) (ys := dens [] (m.sg am cm)) (src := .c (.slc 33 0 1 1)) (F' := [A]) (.refl _) (by rw [hxs.len]) (by rw [(hm.len)]; rfl) (by exact Src.slc (Exists.intro [] (List.append_nil _).symm)) (dens_one_cell (okL_spec (B := []) (l := m.sg am cm) (by repeat' (first | exact trivial | rfl | apply And.intro)))) (by show ((accD L o m gone k).length + 1 + ((accD L o m gone k).length + 1) / 4 + 192) * 32 ≤ _; omega) (by omega) (by decide) 58 (.inr rfl) ?_
        intro a2 c2 hc2 hn2
        conv => whnf
        refine Ar.i64 (by omega) ?_
        conv => whnf
        refine ⟨⟨k + 1, a2, c2, xs ++ dens [] (m.sg am cm)⟩, ⟨by dsimp only; omega, by dsimp only; rw [hts]; exact hxs.snoc (fun _ _ h => h) (hm.len) (hm), ?_⟩, by dsimp only; omega, Wk.mk' [8, 6, 4] [0, 0] ⟨⟨rfl, trivial⟩, ⟨rfl, trivial⟩, ⟨rfl, trivial⟩, ⟨rfl, trivial⟩, ⟨rfl, trivial⟩, ⟨?_, trivial⟩, ⟨rfl, trivial⟩, trivial⟩ (by repeat' (first | exact trivial | rfl | apply And.intro)) ⟨rfl, rfl⟩⟩
        · dsimp only; rw [hts, List.length_append]; exact hc2
        · show Value.slice a2 _ c2 = Value.slice a2 _ c2
          rw [hts, List.length_append]; rfl
  have hk' : k = L.length := by omega
  subst hk'
  have hput := accD_put (L := L) (o := o) (m := m) (gone := gone)
  conv => whnf
  refine Cond.dec (fun h1 => ?_) (fun h1 => ?_)
  · have ho1 : o = none := by
      cases o with
      | none => rfl
      | some i => exfalso; simp only [fndI] at h1; omega
    conv => whnf
    cases gone with
    | true =>
      refine Cond.not (Cond.mk (fun _ => ?_) (fun h => by cases h))
      rw [if_neg (fun e => by cases e.2)] at hput
      rw [← hput] at hxs ⊢
      conv => whnf
      exact Ret.mk' (a1, c1, xs) [] [0, 0] hxs rfl (by repeat' (first | exact trivial | rfl | apply And.intro)) (by repeat' (first | exact trivial | rfl | apply And.intro)) ⟨rfl, rfl⟩
    | false =>
      refine Cond.not (Cond.mk (fun h => by cases h) (fun _ => ?_))
      rw [if_pos ⟨ho1, rfl⟩] at hput
      obtain ⟨gone, hg⟩ : ∃ gone, gone = false := ⟨_, rfl⟩
      rw [← hg] at hxs hc1 hkl hput ⊢
      obtain ⟨k, hk⟩ : ∃ k, k = L.length := ⟨_, rfl⟩
      rw [← hk] at hxs hc1 hkl hput ⊢
      conv => whnf
      intro b43
      conv => whnf
      refine append_own (a := a1) (n := (accD L o m gone k).length) (cap := c1) (xs := xs) (k := 1) (ys := dens [] (m.sg am cm)) (src := .c (.slc 43 0 1 1)) (F' := [A]) (.refl _) (by rw [hxs.len]) (by rw [(hm.len)]; rfl) (by exact Src.slc (Exists.intro [] (List.append_nil _).symm)) (dens_one_cell (okL_spec (B := []) (l := m.sg am cm) (by repeat' (first | exact trivial | rfl | apply And.intro)))) (by show ((accD L o m gone k).length + 1 + ((accD L o m gone k).length + 1) / 4 + 192) * 32 ≤ _; omega) (by omega) (by decide) 58 (.inr rfl) ?_
      intro a2 c2 hc2 hn2
      conv => whnf
      have e1 : (accD L o m gone k).length + 1 = (putD L o m gone).length := by rw [hput, List.length_append]; rfl
      rw [e1]
      exact Ret.mk' (a2, c2, xs ++ dens [] (m.sg am cm)) [] [0, 0] (by rw [hput]; exact hxs.snoc (fun _ _ h => h) hm.len hm) rfl (by repeat' (first | exact trivial | rfl | apply And.intro)) (by repeat' (first | exact trivial | rfl | apply And.intro)) ⟨rfl, rfl⟩
  · rw [if_neg (fun e => h1 (by rw [e.1]; decide))] at hput
    rw [← hput] at hxs ⊢
    conv => whnf
    exact Ret.mk' (a1, c1, xs) [] [0, 0] hxs rfl (by repeat' (first | exact trivial | rfl | apply And.intro)) (by repeat' (first | exact trivial | rfl | apply And.intro)) ⟨rfl, rfl⟩
end Go.Proofs.Ytiimeklgjoclpaa
