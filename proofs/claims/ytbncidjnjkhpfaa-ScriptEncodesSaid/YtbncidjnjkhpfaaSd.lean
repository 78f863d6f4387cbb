/- Decode, the program's. -/
import Derived.Test.YtbncidjnjkhpfaaSc
namespace Go.Proofs.Ytbncidjnjkhpfaa
open Go.Sx
set_option maxRecDepth 100000
set_option pp.deepTerms false
set_option pp.maxSteps 300
set_option linter.unusedSimpArgs false

/-- The steps of bytes, by what takes one. -/
def dec (one : List UInt8 → Option (Stp × List UInt8)) : Nat → List UInt8 → Nat → List Stp
  | 0, _, _ => []
  | _ + 1, [], _ => []
  | n + 1, c :: r, k => if 200 ≤ k then [] else if c.toNat % 9 = 0 then dec one n r k else match one (c :: r) with | none => [] | some (s, r') => s :: dec one n r' (k + 1)
def oneP : List UInt8 → Option (Stp × List UInt8)
  | [] => none
  | c :: r => if (stepR ((c.toNat % 9 : Nat) : Int) r false).2.2 = true then none else some ((stepR ((c.toNat % 9 : Nat) : Int) r false).1, (stepR ((c.toNat % 9 : Nat) : Int) r false).2.1)
def decP (l : List UInt8) : List Stp := dec oneP l.length l 0
theorem stepR_len (k : Int) (l : List UInt8) (b : Bool) : (stepR k l b).2.1.length ≤ l.length := by
  have h := num4_len k l b
  unfold stepR; split
  · exact h
  · simp only [List.length_drop]; omega

/-- The cells of a step. -/
def StepE (R : HProp) (s : Stp) (cs : List Value) : Prop := ∃ ta tc, cs = [.int .i64 s.k, .int .i64 s.a, .int .i64 s.b, .int .i64 s.c, .slice ta s.t.length tc] ∧ Bts R ta tc s.t
theorem StepE.ent {R R' : HProp} (e : Ent R' R) {s : Stp} {cs : List Value} : StepE R s cs → StepE R' s cs := fun ⟨ta, tc, h1, h2⟩ => ⟨ta, tc, h1, h2.ent e⟩

theorem num_cons (c : UInt8) (r : List UInt8) : numR (c :: r) false 1 = ((c.toNat : Int), r, false) := by
  simp [numR, big]
theorem tmod9 (c : UInt8) : (c.toNat : Int).tmod 9 = ((c.toNat % 9 : Nat) : Int) := (Int.ofNat_tmod _ _).symm

structure DS where
  l : List UInt8
  out : List Stp
  a : Option Addr
  cap : Nat
  xs : List Value
  oa : Option Addr
  oc : Nat
  R : HProp

theorem decode_c (A R : HProp) (hE : Ent A R) (a : Option Addr) (cap : Nat) (l : List UInt8) (hl : Bts R a cap l) (hs : l.length ≤ 1000000) :
    Con Try.prog 9 [.c (.rs a l.length cap)] [] [] A (fun x : Option Addr × Nat × HProp => Row x.2.2 x.1 5 (StepE x.2.2) (decP l)) (fun x => .c (.rs x.1 (decP l).length x.2.1)) (fun _ => []) (fun x => [x.2.2]) := by
  refine Con.of' tt_ok Try.func9 rfl (by decide) [.c (.rs a l.length cap)] [] [] rfl rfl trivial (by repeat' (first | exact trivial | apply And.intro)) rfl ?_
  have hA : ∀ {x : List HProp}, A ∈ x → Ent (all x) R := fun h => (Ent.all h).trans hE
  conv => whnf
  intro b9
  conv => whnf
  refine LoopOb.mk' (σ := DS) (fun s => [(3, .c (.ptr 9 0)), (4, .c (.rs s.oa s.out.length s.oc))])
    (fun s => ⟨[(9, b9)], [(9, [.one (.rs s.a s.l.length s.cap), .one (.bool false)], 49)], [Own s.oa s.oc 33 5 s.xs, s.R, A]⟩)
    (fun s => Bts R s.a s.cap s.l ∧ s.l.length ≤ l.length ∧ OwnRow s.xs 5 (StepE s.R) s.out ∧ ∃ n, s.l.length ≤ n ∧ s.out ++ dec oneP n s.l s.out.length = decP l) (fun s => s.l.length)
    ⟨l, [], a, cap, [], none, 0, all []⟩ ⟨hl, Nat.le_refl _, .nil, l.length, Nat.le_refl _, rfl⟩ ?_ ?_
  · refine Wk.own0 33 5 (Wk.grp [] [] ?_)
    conv => whnf
    exact Wk.mk' [9] [1, 0, 0] ⟨⟨rfl, trivial⟩, ⟨rfl, trivial⟩, trivial⟩ (by repeat' (first | exact trivial | apply And.intro)) ⟨rfl, rfl⟩
  · rintro ⟨l', out, a', cap', xs, oa, oc, R'⟩ ⟨hl', hle, hrow, n, hn, hdec⟩
    dsimp only at hl' hle hrow hn hdec ⊢
    have stop : dec oneP n l' out.length = [] → Row (all [Own oa oc 33 5 xs, R']) oa 5 (StepE (all [Own oa oc 33 5 xs, R'])) (decP l) := by
      intro h
      rw [h, List.append_nil] at hdec
      rw [← hdec]
      exact (hrow.row (R := Own oa oc 33 5 xs) Own.rd).ent (Ent.all (by simp)) (fun x c h => h.ent (Ent.all (by simp)))
    have leave : dec oneP n l' out.length = [] → decP l = out := fun h => by rw [h, List.append_nil] at hdec; exact hdec.symm
    have hout : out.length ≤ 199 → (out.length + 1 + (out.length + 1) / 4 + 192) * 56 ≤ 281474976710656 := by omega
    cases l' with
    | nil =>
      have h0 : dec oneP n [] out.length = [] := by cases n <;> rfl
      conv => whnf
      refine Cond.dec (fun h => ?_) (fun h => ?_)
      · simp at h
      conv => whnf
      refine Ret.grp [] [0, 0] ?_
      conv => whnf
      exact Ret.mk' (oa, oc, all [Own oa oc 33 5 xs, R']) [] [0, 0] (stop h0) (by rw [leave h0]; rfl) (by repeat' (first | exact trivial | apply And.intro)) (by repeat' (first | exact trivial | apply And.intro)) ⟨rfl, rfl⟩
    | cons c r =>
      obtain ⟨n, rfl⟩ : ∃ k, n = k + 1 := ⟨n - 1, by simp at hn; omega⟩
      simp only [List.length_cons] at hn hle
      conv => whnf
      refine Cond.dec (fun h => ?_) (fun h => ?_)
      case refine_2 => simp at h
      conv => whnf
      refine Cond.dec (fun h200 => ?_) (fun h200 => ?_)
      · conv => whnf
        have C := fun A' hA' => num_c A' R hA' b9 a' cap' (c :: r) false hl' 1 (by omega)
        simp only [num_cons] at C
        refine CallOb.by' [9] [] (C _ (hA (by simp))) rfl ⟨rfl, rfl, rfl, fun x1 hx1 => ⟨rfl, ?_⟩⟩
        conv => whnf
        refine ⟨by decide, ?_⟩
        rw [tmod9]
        conv => whnf
        refine Cond.eqI (fun hk => ?_) (fun hk => ?_)
        · have h0 : c.toNat % 9 = 0 := by omega
          conv => whnf
          refine ⟨⟨r, out, x1.1, x1.2, xs, oa, oc, R'⟩, ⟨hx1, by dsimp only; omega, hrow, n, by dsimp only; omega, ?_⟩, by simp, Wk.mk' [9] [0, 0, 0] ⟨⟨rfl, trivial⟩, ⟨rfl, trivial⟩, trivial⟩ (by repeat' (first | exact trivial | apply And.intro)) ⟨rfl, rfl⟩⟩
          rw [← hdec, dec, if_neg (by omega), if_pos h0]
        · have h0 : ¬ c.toNat % 9 = 0 := by omega
          conv => whnf
          refine CallOb.by' [9] [] (step_c _ R (hA (by simp)) b9 x1.1 x1.2 r false hx1 (by omega) _) rfl ⟨rfl, rfl, rfl, fun x2 hx2 => ⟨rfl, ?_⟩⟩
          have flen := stepR_len ((c.toNat % 9 : Nat) : Int) r false
          have fdec : dec oneP (n + 1) (c :: r) out.length = if (stepR ((c.toNat % 9 : Nat) : Int) r false).2.2 = true then [] else
              (stepR ((c.toNat % 9 : Nat) : Int) r false).1 :: dec oneP n (stepR ((c.toNat % 9 : Nat) : Int) r false).2.1 (out.length + 1) := by
            rw [dec, if_neg (by omega), if_neg h0, oneP]
            split <;> rename_i e <;> split at e <;> simp_all
          generalize stepR ((c.toNat % 9 : Nat) : Int) r false = z at hx2 flen fdec ⊢
          obtain ⟨s, rest, zbad⟩ := z
          dsimp only at hx2 flen fdec ⊢
          conv => whnf
          intro b6
          conv => whnf
          refine Cond.mk (fun hb => ?_) (fun hb => ?_)
          · rw [if_pos hb] at fdec
            conv => whnf
            refine Ret.grp [] [1, 1] ?_
            conv => whnf
            exact Ret.mk' (oa, oc, all [Own oa oc 33 5 xs, R']) [] [0, 1] (stop fdec) (by rw [leave fdec]; rfl) (by repeat' (first | exact trivial | apply And.intro)) (by repeat' (first | exact trivial | apply And.intro)) ⟨rfl, rfl⟩
          · subst hb
            rw [if_neg (by simp)] at fdec
            conv => whnf
            intro b35
            conv => whnf
            refine append_own (a := oa) (n := out.length) (cap := oc) (xs := xs) (k := 1) (ys := [.int .i64 s.k, .int .i64 s.a, .int .i64 s.b, .int .i64 s.c, .slice x2.2.1 s.t.length x2.2.2.1]) (src := .c (.slc 35 0 1 1)) (.swap _ _ _) hrow.len rfl (by exact Src.slc (Exists.intro [] rfl)) (by simp [Value.oneCell']) (hout (by omega)) (by omega) (by decide) 25 (.inr rfl) ?_
            intro oa' oc' _ _
            conv => whnf
            refine ⟨⟨rest, out ++ [s], x2.1.1, x2.1.2, _, oa', oc', all [x2.2.2.2, R']⟩, ⟨hx2.1, by dsimp only; omega, hrow.snoc (fun x c h => h.ent (Ent.all (by simp))) rfl ⟨x2.2.1, x2.2.2.1, rfl, hx2.2.ent (Ent.all (by simp))⟩, n, by dsimp only; omega, ?_⟩, by simp; omega, ?_⟩
            · rw [← hdec, fdec]; simp
            · refine Wk.grp [] [1, 1] ?_
              conv => whnf
              refine Wk.mk' [9] [1, 0, 0] ⟨⟨rfl, trivial⟩, ⟨?_, trivial⟩, trivial⟩ (by repeat' (first | exact trivial | apply And.intro)) ⟨rfl, rfl⟩
              show _ = Value.slice oa' (out ++ [s]).length oc'
              rw [List.length_append]
              rfl
      · have h0 : dec oneP (n + 1) (c :: r) out.length = [] := by rw [dec, if_pos (by omega)]
        conv => whnf
        refine Ret.grp [] [0, 0] ?_
        conv => whnf
        exact Ret.mk' (oa, oc, all [Own oa oc 33 5 xs, R']) [] [0, 0] (stop h0) (by rw [leave h0]; rfl) (by repeat' (first | exact trivial | apply And.intro)) (by repeat' (first | exact trivial | apply And.intro)) ⟨rfl, rfl⟩
end Go.Proofs.Ytbncidjnjkhpfaa
