/- Pieces: which may be; the program's and the document's. -/
import Derived.Test.YtiimeklgjoclpaaOb
import Derived.Test.YtiimeklgjoclpaaCa
namespace Go.Proofs.Ytiimeklgjoclpaa
open Go.Sx
set_option maxRecDepth 100000
set_option pp.deepTerms false
set_option pp.maxSteps 300
set_option linter.unusedSimpArgs false
set_option linter.unusedVariables false

/-- A piece. -/
structure Pc where
  k : Int
  u : Int
  n : Int
  i : Int
  t : Int
  b : List UInt8
  s : List UInt8
  deriving DecidableEq
abbrev AC := Option Addr × Nat
abbrev Pc.sg (c : Pc) (x y : AC) : List Seg := [.one (.int .i64 c.k), .one (.int .i64 c.u), .one (.int .u32 c.n), .one (.int .i64 c.i), .one (.int .i64 c.t), .one (.rs x.1 c.b.length x.2), .one (.rs y.1 c.s.length y.2)]
def pc0 : Pc := ⟨0, 0, 0, 0, 0, [], []⟩
def Pc.user (c : Pc) : Bool := decide (c.u ≥ 0) && decide (c.u < 8)
def Pc.placed (c : Pc) : Bool := decide (c.t ≥ 1) && decide (c.t ≤ 8) && decide (c.i ≥ 0) && decide (c.i < c.t)
def Pc.bare (c : Pc) : Bool := decide (c.b.length = 0) && decide (c.s.length = 0)
def Pc.may (c : Pc) : Bool := c.user && (if c.k = 1 then c.placed && (decide (c.b.length = 240) || (decide (c.b.length < 240) && decide (c.i = c.t - 1))) && (decide (c.s.length = 0) || decide (c.s.length = 241))
  else if c.k = 2 then c.placed && c.bare else if c.k = 3 then decide (c.i = 0) && decide (c.t = 0) && decide (c.n = 0) && c.bare else false)

theorem suser_c (A : HProp) (u : Int) : Pu Try.prog 38 [.c (.int .i64 u)] A (.c (.bool (decide (u ≥ 0) && decide (u < 8)))) := by
  refine Con.of' tt_ok Try.func38 rfl (by decide) [.c (.int .i64 u)] [] [] rfl rfl trivial (by repeat' (first | exact trivial | rfl | exact hk _ | apply And.intro)) rfl ?_
  conv => whnf
  repeat' first
    | (refine Cond.eqI (fun h => ?_) (fun h => ?_) <;> (conv => whnf))
    | (refine Cond.dec (fun h => ?_) (fun h => ?_) <;> (conv => whnf))
    | (refine Cond.mk (fun h => ?_) (fun h => ?_) <;> (conv => whnf))
  all_goals refine Ret.mk' () [] [0] trivial ?_ (by repeat' (first | exact trivial | rfl | apply And.intro)) (by repeat' (first | exact trivial | rfl | apply And.intro)) ⟨rfl, rfl⟩
  all_goals simp_all [tupOf, SA.sv, ofValue, SV.den, SC.den]
  all_goals omega
theorem clock_c (A : HProp) (u : Int) : Pu Try.prog 44 [.c (.int .i64 u)] A (.c (.bool (decide (u ≥ 0) && decide (u ≤ 1099511627776)))) := by
  refine Con.of' tt_ok Try.func44 rfl (by decide) [.c (.int .i64 u)] [] [] rfl rfl trivial (by repeat' (first | exact trivial | rfl | exact hk _ | apply And.intro)) rfl ?_
  conv => whnf
  repeat' first
    | (refine Cond.eqI (fun h => ?_) (fun h => ?_) <;> (conv => whnf))
    | (refine Cond.dec (fun h => ?_) (fun h => ?_) <;> (conv => whnf))
    | (refine Cond.mk (fun h => ?_) (fun h => ?_) <;> (conv => whnf))
  all_goals refine Ret.mk' () [] [0] trivial ?_ (by repeat' (first | exact trivial | rfl | apply And.intro)) (by repeat' (first | exact trivial | rfl | apply And.intro)) ⟨rfl, rfl⟩
  all_goals simp_all [tupOf, SA.sv, ofValue, SV.den, SC.den]
  all_goals omega
theorem placed_c (A : HProp) (c : Pc) (x y : AC) : Pu Try.prog 39 [.agg (c.sg x y)] A (.c (.bool c.placed)) := by
  refine Con.of' tt_ok Try.func39 rfl (by decide) [.agg (c.sg x y)] [] [] rfl rfl trivial (by repeat' (first | exact trivial | rfl | exact hk _ | apply And.intro)) rfl ?_
  conv => whnf
  intro b1
  conv => whnf
  repeat' first
    | (refine Cond.eqI (fun h => ?_) (fun h => ?_) <;> (conv => whnf))
    | (refine Cond.dec (fun h => ?_) (fun h => ?_) <;> (conv => whnf))
    | (refine Cond.mk (fun h => ?_) (fun h => ?_) <;> (conv => whnf))
  all_goals refine Ret.mk' () [] [0] trivial ?_ (by repeat' (first | exact trivial | rfl | apply And.intro)) (by repeat' (first | exact trivial | rfl | apply And.intro)) ⟨rfl, rfl⟩
  all_goals simp_all [tupOf, SA.sv, ofValue, SV.den, SC.den, Pc.placed]
  all_goals omega
theorem len0 (n : Nat) : (((n : Int) == 0) : Bool) = decide (n = 0) := by
  rw [Bool.beq_eq_decide_eq]; exact decide_eq_decide.2 (by omega)
theorem sbare_c (A : HProp) (c : Pc) (x y : AC) : Pu Try.prog 40 [.agg (c.sg x y)] A (.c (.bool c.bare)) := by
  refine Con.of' tt_ok Try.func40 rfl (by decide) [.agg (c.sg x y)] [] [] rfl rfl trivial (by repeat' (first | exact trivial | rfl | exact hk _ | apply And.intro)) rfl ?_
  conv => whnf
  intro b1
  conv => whnf
  refine Cond.eqI (fun h => ?_) (fun h => ?_)
  · conv => whnf
    exact Ret.mk' () [] [0] trivial (by
      show Value.bool ((c.s.length : Int) == 0) = Value.bool c.bare
      have h' : c.b.length = 0 := by omega
      rw [len0]; simp [Pc.bare, h']) (by repeat' (first | exact trivial | rfl | apply And.intro)) (by repeat' (first | exact trivial | rfl | apply And.intro)) ⟨rfl, rfl⟩
  · conv => whnf
    exact Ret.mk' () [] [0] trivial (by
      show Value.bool false = Value.bool c.bare
      have h' : c.b.length ≠ 0 := by omega
      simp [Pc.bare, h']) (by repeat' (first | exact trivial | rfl | apply And.intro)) (by repeat' (first | exact trivial | rfl | apply And.intro)) ⟨rfl, rfl⟩
theorem wrap_sub {z : Int} (h : 1 ≤ z ∧ z ≤ 9) : IntKind.wrap .i64 (z - 1) = z - 1 := IntWalk.i64_in _ (by omega)
theorem Pc.placed_le {c : Pc} (h : c.placed = true) : 1 ≤ c.t ∧ c.t ≤ 8 ∧ 0 ≤ c.i ∧ c.i < c.t := by
  simp [Pc.placed] at h; omega
/-- May the piece be, if its place is right? -/
def Pc.may1 (c : Pc) : Bool := (decide (c.b.length = 240) || (decide (c.b.length < 240) && decide (c.i = c.t - 1))) && (decide (c.s.length = 0) || decide (c.s.length = 241))
theorem smay_c (A : HProp) (c : Pc) (x y : AC) : Pu Try.prog 16 [.agg (c.sg x y)] A (.c (.bool c.may)) := by
  refine Con.of' tt_ok Try.func16 rfl (by decide) [.agg (c.sg x y)] [] [] rfl rfl trivial (by repeat' (first | exact trivial | rfl | exact hk _ | apply And.intro)) rfl ?_
  conv => whnf
  intro b1
  conv => whnf
  refine CallOb.pu (suser_c _ c.u) rfl ?_
  have eu : (decide (c.u ≥ 0) && decide (c.u < 8)) = c.user := rfl
  rw [eu]
  conv => whnf
  refine Cond.not (Cond.mk (fun hu => ?_) (fun hu => ?_))
  case refine_2 =>
    conv => whnf
    exact Ret.mk' () [] [0] trivial (by simp [tupOf, SA.sv, ofValue, SV.den, SC.den, Pc.may, hu]) (by repeat' (first | exact trivial | rfl | apply And.intro)) (by repeat' (first | exact trivial | rfl | apply And.intro)) ⟨rfl, rfl⟩
  conv => whnf
  refine Cond.eqI (fun hk => ?_) (fun hk => ?_)
  · conv => whnf
    have hw : c.placed = true → IntKind.wrap .i64 (c.t - 1) = c.t - 1 := fun h => wrap_sub (by have := Pc.placed_le h; omega)
    cases hp : c.placed with
    | true =>
      have hle := Pc.placed_le hp
      have hw := hw hp
      repeat' first
        | (refine Ar.wr ?_ <;> (conv => whnf))
        | (refine Cond.eqI (fun h => ?_) (fun h => ?_) <;> (conv => whnf))
        | (refine Cond.dec (fun h => ?_) (fun h => ?_) <;> (conv => whnf))
        | (refine Cond.mk (fun h => ?_) (fun h => ?_) <;> (conv => whnf))
      all_goals refine CallOb.pu (placed_c _ c x y) rfl ?_
      all_goals rw [hp]
      all_goals conv => whnf
      repeat' first
        | (refine Ar.wr ?_ <;> (conv => whnf))
        | (refine Cond.eqI (fun h => ?_) (fun h => ?_) <;> (conv => whnf))
        | (refine Cond.dec (fun h => ?_) (fun h => ?_) <;> (conv => whnf))
        | (refine Cond.mk (fun h => ?_) (fun h => ?_) <;> (conv => whnf))
      all_goals refine Ret.mk' () [] [0] trivial ?_ (by repeat' (first | exact trivial | rfl | apply And.intro)) (by repeat' (first | exact trivial | rfl | apply And.intro)) ⟨rfl, rfl⟩
      all_goals refine congrArg Value.bool (Bool.eq_iff_iff.2 ?_)
      all_goals try simp only [beq_iff_eq, beq_eq_false_iff_ne, ne_eq, reduceCtorEq] at *
      all_goals simp [-List.length_eq_zero_iff, Pc.may, Pc.bare, hu, hk, hp]
      all_goals omega
    | false =>
      repeat' first
        | (refine Ar.wr ?_ <;> (conv => whnf))
        | (refine Cond.eqI (fun h => ?_) (fun h => ?_) <;> (conv => whnf))
        | (refine Cond.dec (fun h => ?_) (fun h => ?_) <;> (conv => whnf))
        | (refine Cond.mk (fun h => ?_) (fun h => ?_) <;> (conv => whnf))
      all_goals refine CallOb.pu (placed_c _ c x y) rfl ?_
      all_goals rw [hp]
      all_goals conv => whnf
      repeat' first
        | (refine Ar.wr ?_ <;> (conv => whnf))
        | (refine Cond.eqI (fun h => ?_) (fun h => ?_) <;> (conv => whnf))
        | (refine Cond.dec (fun h => ?_) (fun h => ?_) <;> (conv => whnf))
        | (refine Cond.mk (fun h => ?_) (fun h => ?_) <;> (conv => whnf))
      all_goals refine Ret.mk' () [] [0] trivial ?_ (by repeat' (first | exact trivial | rfl | apply And.intro)) (by repeat' (first | exact trivial | rfl | apply And.intro)) ⟨rfl, rfl⟩
      all_goals simp_all [tupOf, SA.sv, ofValue, SV.den, SC.den, Pc.may, hu, hk, hp]
  · conv => whnf
    refine Cond.eqI (fun h2 => ?_) (fun h2 => ?_)
    · conv => whnf
      refine CallOb.pu (placed_c _ c x y) rfl ?_
      conv => whnf
      refine Cond.mk (fun hp => ?_) (fun hp => ?_)
      · conv => whnf
        refine CallOb.pu (sbare_c _ c x y) rfl ?_
        conv => whnf
        exact Ret.mk' () [] [0] trivial (by simp [tupOf, SA.sv, ofValue, SV.den, SC.den, Pc.may, hu, hp, h2]) (by repeat' (first | exact trivial | rfl | apply And.intro)) (by repeat' (first | exact trivial | rfl | apply And.intro)) ⟨rfl, rfl⟩
      · conv => whnf
        exact Ret.mk' () [] [0] trivial (by simp [tupOf, SA.sv, ofValue, SV.den, SC.den, Pc.may, hu, hp, h2]) (by repeat' (first | exact trivial | rfl | apply And.intro)) (by repeat' (first | exact trivial | rfl | apply And.intro)) ⟨rfl, rfl⟩
    · conv => whnf
      refine Cond.eqI (fun h3 => ?_) (fun h3 => ?_)
      · conv => whnf
        repeat' first
          | (refine Ar.wr ?_ <;> (conv => whnf))
          | (refine Cond.eqI (fun h => ?_) (fun h => ?_) <;> (conv => whnf))
          | (refine Cond.dec (fun h => ?_) (fun h => ?_) <;> (conv => whnf))
          | (refine Cond.mk (fun h => ?_) (fun h => ?_) <;> (conv => whnf))
        all_goals first
          | (refine CallOb.pu (sbare_c _ c x y) rfl ?_
             conv => whnf
             refine Ret.mk' () [] [0] trivial ?_ (by repeat' (first | exact trivial | rfl | apply And.intro)) (by repeat' (first | exact trivial | rfl | apply And.intro)) ⟨rfl, rfl⟩)
          | refine Ret.mk' () [] [0] trivial ?_ (by repeat' (first | exact trivial | rfl | apply And.intro)) (by repeat' (first | exact trivial | rfl | apply And.intro)) ⟨rfl, rfl⟩
        all_goals simp_all [tupOf, SA.sv, ofValue, SV.den, SC.den, Pc.may]
      · conv => whnf
        exact Ret.mk' () [] [0] trivial (by simp [tupOf, SA.sv, ofValue, SV.den, SC.den, Pc.may, hk, h2, h3]) (by repeat' (first | exact trivial | rfl | apply And.intro)) (by repeat' (first | exact trivial | rfl | apply And.intro)) ⟨rfl, rfl⟩
theorem srmay_c (A : HProp) (c : Pc) (x y : AC) : Pu Try.prog 17 [.agg (c.sg x y)] A (.c (.bool c.may)) := by
  refine Con.of' tt_ok Try.func17 rfl (by decide) [.agg (c.sg x y)] [] [] rfl rfl trivial (by repeat' (first | exact trivial | rfl | exact hk _ | apply And.intro)) rfl ?_
  conv => whnf
  intro b1
  conv => whnf
  have ep : c.placed = (decide (c.t ≥ 1) && decide (c.t ≤ 8) && decide (c.i ≥ 0) && decide (c.i < c.t)) := rfl
  refine Cond.dec (fun hu => ?_) (fun hu => ?_)
  · conv => whnf
    exact Ret.mk' () [] [0] trivial (by
      have hu' : c.user = false := by simp [Pc.user]; omega
      simp [tupOf, SA.sv, ofValue, SV.den, SC.den, Pc.may, hu']) (by repeat' (first | exact trivial | rfl | apply And.intro)) (by repeat' (first | exact trivial | rfl | apply And.intro)) ⟨rfl, rfl⟩
  conv => whnf
  refine Cond.dec (fun hu2 => ?_) (fun hu2 => ?_)
  · conv => whnf
    exact Ret.mk' () [] [0] trivial (by
      have hu' : c.user = false := by simp [Pc.user]; omega
      simp [tupOf, SA.sv, ofValue, SV.den, SC.den, Pc.may, hu']) (by repeat' (first | exact trivial | rfl | apply And.intro)) (by repeat' (first | exact trivial | rfl | apply And.intro)) ⟨rfl, rfl⟩
  have hu' : c.user = true := by simp [Pc.user]; omega
  conv => whnf
  have hw : (1 ≤ c.t ∧ c.t ≤ 8 ∧ IntKind.wrap .i64 (c.t - 1) = c.t - 1) ∨ ¬ (1 ≤ c.t ∧ c.t ≤ 8) := by
    by_cases h : 1 ≤ c.t ∧ c.t ≤ 8
    · exact .inl ⟨h.1, h.2, wrap_sub (by omega)⟩
    · exact .inr h
  repeat' first
    | (refine Ar.wr ?_ <;> (conv => whnf))
    | (refine Cond.eqI (fun h => ?_) (fun h => ?_) <;> (conv => whnf))
    | (refine Cond.dec (fun h => ?_) (fun h => ?_) <;> (conv => whnf))
    | (refine Cond.mk (fun h => ?_) (fun h => ?_) <;> (conv => whnf))
  all_goals refine Ret.mk' () [] [0] trivial ?_ (by repeat' (first | exact trivial | rfl | apply And.intro)) (by repeat' (first | exact trivial | rfl | apply And.intro)) ⟨rfl, rfl⟩
  all_goals refine congrArg Value.bool (Bool.eq_iff_iff.2 ?_)
  all_goals simp only [beq_iff_eq, decide_eq_true_eq, decide_eq_false_iff_not, beq_eq_false_iff_ne, ne_eq, reduceCtorEq] at *
  all_goals unfold Pc.may Pc.bare Pc.placed
  all_goals rw [hu', Bool.true_and]
  all_goals repeat' split
  all_goals simp [-List.length_eq_zero_iff]
  all_goals omega
end Go.Proofs.Ytiimeklgjoclpaa
