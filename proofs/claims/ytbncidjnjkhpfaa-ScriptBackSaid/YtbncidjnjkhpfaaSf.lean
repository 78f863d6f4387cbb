/- Decode, the document's. -/
import Derived.Test.YtbncidjnjkhpfaaSe
namespace Go.Proofs.Ytbncidjnjkhpfaa
open Go.Sx
set_option maxRecDepth 100000
set_option pp.deepTerms false
set_option pp.maxSteps 300
set_option linter.unusedSimpArgs false

def oneRo (l : List UInt8) : Option (Stp × List UInt8) := if (oneN l).2 = 0 then none else some ((oneN l).1, l.drop (oneN l).2)
def decR (l : List UInt8) : List Stp := dec oneRo l.length l 0
theorem oneN_le (l : List UInt8) : (oneN l).2 ≤ l.length := by
  unfold oneN
  dsimp only
  repeat' split
  all_goals simp_all
theorem gd_cons (c : UInt8) (r : List UInt8) : gd (c :: r) 0 = c.toNat := rfl

structure DT where
  l : List UInt8
  out : List Stp
  a : Option Addr
  cap : Nat
  xs : List Value
  oa : Option Addr
  oc : Nat

theorem rdecode_c (A R : HProp) (hE : Ent A R) (a : Option Addr) (cap : Nat) (l : List UInt8) (hl : Bts R a cap l) (hs : l.length ≤ 1000000) :
    Con Try.prog 10 [.c (.rs a l.length cap)] [] [] A (fun x : Option Addr × Nat × HProp => Row x.2.2 x.1 5 (StepE R) (decR l)) (fun x => .c (.rs x.1 (decR l).length x.2.1)) (fun _ => []) (fun x => [x.2.2]) := by
  refine Con.of' tt_ok Try.func10 rfl (by decide) [.c (.rs a l.length cap)] [] [] rfl rfl trivial (by repeat' (first | exact trivial | apply And.intro)) rfl ?_
  have hA : ∀ {x : List HProp}, A ∈ x → Ent (all x) R := fun h => (Ent.all h).trans hE
  conv => whnf
  refine LoopOb.mk' (σ := DT) (fun s => [(0, .c (.rs s.a s.l.length s.cap)), (3, .c (.rs s.oa s.out.length s.oc))])
    (fun s => ⟨[], [], [Own s.oa s.oc 32 5 s.xs, A]⟩)
    (fun s => Bts R s.a s.cap s.l ∧ s.l.length ≤ l.length ∧ OwnRow s.xs 5 (StepE R) s.out ∧ ∃ n, s.l.length ≤ n ∧ s.out ++ dec oneRo n s.l s.out.length = decR l) (fun s => s.l.length)
    ⟨l, [], a, cap, [], none, 0⟩ ⟨hl, Nat.le_refl _, .nil, l.length, Nat.le_refl _, rfl⟩ ?_ ?_
  · refine Wk.own0 32 5 ?_
    exact Wk.mk' [] [0, 0] ⟨⟨rfl, trivial⟩, ⟨rfl, trivial⟩, trivial⟩ (by repeat' (first | exact trivial | apply And.intro)) ⟨rfl, rfl⟩
  · rintro ⟨l', out, a', cap', xs, oa, oc⟩ ⟨hl', hle, hrow, n, hn, hdec⟩
    dsimp only at hl' hle hrow hn hdec ⊢
    have stop : dec oneRo n l' out.length = [] → Row (Own oa oc 32 5 xs) oa 5 (StepE R) (decR l) := by
      intro h
      rw [h, List.append_nil] at hdec
      rw [← hdec]
      exact hrow.row (R := Own oa oc 32 5 xs) Own.rd
    have leave : dec oneRo n l' out.length = [] → decR l = out := fun h => by rw [h, List.append_nil] at hdec; exact hdec.symm
    have hout : out.length ≤ 199 → (out.length + 1 + (out.length + 1) / 4 + 192) * 56 ≤ 281474976710656 := by omega
    cases l' with
    | nil =>
      have h0 : dec oneRo n [] out.length = [] := by cases n <;> rfl
      conv => whnf
      refine Cond.dec (fun h => ?_) (fun h => ?_)
      · simp at h
      conv => whnf
      exact Ret.mk' (oa, oc, Own oa oc 32 5 xs) [] [0, 0] (stop h0) (by rw [leave h0]; rfl) (by repeat' (first | exact trivial | apply And.intro)) (by repeat' (first | exact trivial | apply And.intro)) ⟨rfl, rfl⟩
    | cons c r =>
      obtain ⟨n, rfl⟩ : ∃ k, n = k + 1 := ⟨n - 1, by simp at hn; omega⟩
      simp only [List.length_cons] at hn hle
      conv => whnf
      refine Cond.dec (fun h => ?_) (fun h => ?_)
      case refine_2 => simp at h
      conv => whnf
      refine Cond.dec (fun h200 => ?_) (fun h200 => ?_)
      · conv => whnf
        have hr := hl'.1.ent hE
        have hcap := hl'.2.1
        have hc9 := gd_lt (c :: r) 0
        simp only [List.length_cons] at hcap
        refine idx (A := A) 0 (by simp) hr (by simp) rfl fun p hp => ?_
        subst hp
        conv => whnf
        refine ldb (A := A) 0 (by simp) hr (by simp) rfl rfl rfl ?_
        conv => whnf
        refine ⟨by decide, ?_⟩
        rw [tmodg, gd_cons]
        conv => whnf
        refine Cond.eqI (fun hk => ?_) (fun hk => ?_)
        · have h0 : c.toNat % 9 = 0 := by omega
          conv => whnf
          refine ⟨by simp only [List.length_cons]; omega, ?_⟩
          conv => whnf
          refine ⟨⟨r, out, cutA (some (radr p)) cap' 1 1, cap' - 1, xs, oa, oc⟩, ⟨hl'.drop 1 (by omega), by dsimp only; omega, hrow, n, by dsimp only; omega, ?_⟩, by simp, Wk.mk' [] [0, 0] ⟨⟨?_, trivial⟩, ⟨rfl, trivial⟩, trivial⟩ (by repeat' (first | exact trivial | apply And.intro)) ⟨rfl, rfl⟩⟩
          · rw [← hdec, dec, if_neg (by omega), if_pos h0]
          · show Value.slice (cutA (some (radr p)) cap' 1 1) ((c :: r).length - 1) (cap' - 1) = Value.slice (cutA (some (radr p)) cap' 1 1) r.length (cap' - 1)
            rfl
        · have h0 : ¬ c.toNat % 9 = 0 := by omega
          conv => whnf
          refine CallOb.by' [] [] (one_c _ R (hA (by simp)) _ cap' (c :: r) hl' (by simp) (by simp; omega)) rfl ⟨rfl, rfl, rfl, fun x2 hx2 => ⟨rfl, ?_⟩⟩
          have flen := oneN_le (c :: r)
          have fdec : dec oneRo (n + 1) (c :: r) out.length = if (oneN (c :: r)).2 = 0 then [] else
              (oneN (c :: r)).1 :: dec oneRo n ((c :: r).drop (oneN (c :: r)).2) (out.length + 1) := by
            rw [dec, if_neg (by omega), if_neg h0, oneRo]
            split <;> rename_i e <;> split at e <;> simp_all
          generalize oneN (c :: r) = z at hx2 flen fdec ⊢
          obtain ⟨s, k⟩ := z
          dsimp only at hx2 flen fdec ⊢
          conv => whnf
          intro b4
          conv => whnf
          refine Cond.eqI (fun hb => ?_) (fun hb => ?_)
          · rw [if_pos (by omega)] at fdec
            conv => whnf
            exact Ret.mk' (oa, oc, Own oa oc 32 5 xs) [] [0, 0] (stop fdec) (by rw [leave fdec]; rfl) (by repeat' (first | exact trivial | apply And.intro)) (by repeat' (first | exact trivial | apply And.intro)) ⟨rfl, rfl⟩
          · rw [if_neg (by omega)] at fdec
            conv => whnf
            intro b30
            conv => whnf
            refine append_own (a := oa) (n := out.length) (cap := oc) (xs := xs) (k := 1) (ys := [.int .i64 s.k, .int .i64 s.a, .int .i64 s.b, .int .i64 s.c, .slice x2.1 s.t.length x2.2]) (src := .c (.slc 31 0 1 1)) (.refl _) hrow.len rfl (by exact Src.slc (Exists.intro [] rfl)) (by simp [Value.oneCell']) (hout (by omega)) (by omega) (by decide) 27 (.inr rfl) ?_
            intro oa' oc' _ _
            conv => whnf
            simp only [List.length_cons] at flen
            refine ⟨by simp only [List.length_cons]; omega, ?_⟩
            conv => whnf
            refine ⟨⟨(c :: r).drop k, out ++ [s], cutA (some (radr p)) cap' k 1, cap' - k, _, oa', oc'⟩, ⟨hl'.drop k (by omega), by simp; omega, hrow.snoc (fun x c h => h) rfl ⟨x2.1, x2.2, rfl, hx2⟩, n, by simp; omega, ?_⟩, by simp; omega, ?_⟩
            · rw [← hdec, fdec]; simp
            · refine Wk.mk' [] [0, 0] ⟨⟨?_, trivial⟩, ⟨?_, trivial⟩, trivial⟩ (by repeat' (first | exact trivial | apply And.intro)) ⟨rfl, rfl⟩
              · show Value.slice (cutA (some (radr p)) cap' k 1) ((c :: r).length - k) (cap' - k) = Value.slice (cutA (some (radr p)) cap' k 1) ((c :: r).drop k).length (cap' - k)
                rw [List.length_drop]
              · show _ = Value.slice oa' (out ++ [s]).length oc'
                rw [List.length_append]
                rfl
      · have h0 : dec oneRo (n + 1) (c :: r) out.length = [] := by rw [dec, if_pos (by omega)]
        conv => whnf
        exact Ret.mk' (oa, oc, Own oa oc 32 5 xs) [] [0, 0] (stop h0) (by rw [leave h0]; rfl) (by repeat' (first | exact trivial | apply And.intro)) (by repeat' (first | exact trivial | apply And.intro)) ⟨rfl, rfl⟩
end Go.Proofs.Ytbncidjnjkhpfaa
