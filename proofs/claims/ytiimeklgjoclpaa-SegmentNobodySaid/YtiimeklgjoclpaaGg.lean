/- Pieces: the same one; the law's small functions; the document's pieces of a message. -/
import Derived.Test.YtiimeklgjoclpaaGf
namespace Go.Proofs.Ytiimeklgjoclpaa
open Go.Sx
set_option maxRecDepth 100000
set_option pp.deepTerms false
set_option pp.maxSteps 300
set_option linter.unusedSimpArgs false
set_option linter.unusedVariables false

theorem stheirs_c (A : HProp) (c : Pc) (x y : AC) : Pu Try.prog 12 [.agg (c.sg x y)] A (.agg (c.sg x y)) := by
  refine Con.of' tt_ok Try.func12 rfl (by decide) [.agg (c.sg x y)] [] [] rfl rfl trivial (by repeat' (first | exact trivial | rfl | exact hk _ | apply And.intro)) rfl ?_
  conv => whnf
  intro b1
  conv => whnf
  intro b2
  conv => whnf
  exact Ret.mk' () [] [0] trivial rfl (by repeat' (first | exact trivial | rfl | exact hk _ | apply And.intro)) (by repeat' (first | exact trivial | rfl | apply And.intro)) ⟨rfl, rfl⟩
theorem sours_c (A : HProp) (c : Pc) (x y : AC) : Pu Try.prog 19 [.agg (c.sg x y)] A (.agg (c.sg x y)) := by
  refine Con.of' tt_ok Try.func19 rfl (by decide) [.agg (c.sg x y)] [] [] rfl rfl trivial (by repeat' (first | exact trivial | rfl | exact hk _ | apply And.intro)) rfl ?_
  conv => whnf
  intro b1
  conv => whnf
  intro b2
  conv => whnf
  exact Ret.mk' () [] [0] trivial rfl (by repeat' (first | exact trivial | rfl | exact hk _ | apply And.intro)) (by repeat' (first | exact trivial | rfl | apply And.intro)) ⟨rfl, rfl⟩
def Pc.fits (c : Pc) : Bool := decide (c.b.length ≤ 3000) && decide (c.s.length ≤ 3000)
theorem sfits_c (A : HProp) (c : Pc) (x y : AC) : Pu Try.prog 10 [.agg (c.sg x y)] A (.c (.bool c.fits)) := by
  refine Con.of' tt_ok Try.func10 rfl (by decide) [.agg (c.sg x y)] [] [] rfl rfl trivial (by repeat' (first | exact trivial | rfl | exact hk _ | apply And.intro)) rfl ?_
  conv => whnf
  intro b1
  conv => whnf
  repeat' first
    | (refine Cond.dec (fun h => ?_) (fun h => ?_) <;> (conv => whnf))
  all_goals refine Ret.mk' () [] [0] trivial ?_ (by repeat' (first | exact trivial | rfl | apply And.intro)) (by repeat' (first | exact trivial | rfl | apply And.intro)) ⟨rfl, rfl⟩
  all_goals refine congrArg Value.bool (Bool.eq_iff_iff.2 ?_)
  all_goals simp [Pc.fits]
  all_goals omega
theorem ssame_c (A R1 R2 R3 R4 : HProp) (E1 : Ent A R1) (E2 : Ent A R2) (E3 : Ent A R3) (E4 : Ent A R4) (c d : Pc) (x y x' y' : AC) (h1 : Bts R1 x.1 x.2 c.b) (h2 : Bts R2 y.1 y.2 c.s) (h3 : Bts R3 x'.1 x'.2 d.b) (h4 : Bts R4 y'.1 y'.2 d.s) :
    Pu Try.prog 18 [.agg (c.sg x y), .agg (d.sg x' y')] A (.c (.bool (decide (c = d)))) := by
  refine Con.of' tt_ok Try.func18 rfl (by decide) [.agg (c.sg x y), .agg (d.sg x' y')] [] [] rfl rfl trivial (by repeat' (first | exact trivial | rfl | exact hk _ | apply And.intro)) rfl ?_
  conv => whnf
  intro b1
  conv => whnf
  intro b2
  have no : ∀ {p : Prop}, (c = d → p) → ¬ p → decide (c = d) = false := fun h k => decide_eq_false (fun e => k (h e))
  conv => whnf
  refine Cond.eqI (fun e1 => ?_) (fun e1 => ?_)
  case refine_2 =>
    rw [no (fun e => by rw [e]) e1]
    conv => whnf
    exact Ret.mk' () [] [0] trivial rfl (by repeat' (first | exact trivial | rfl | apply And.intro)) (by repeat' (first | exact trivial | rfl | apply And.intro)) ⟨rfl, rfl⟩
  conv => whnf
  refine Cond.eqI (fun e2 => ?_) (fun e2 => ?_)
  case refine_2 =>
    rw [no (fun e => by rw [e]) e2]
    conv => whnf
    exact Ret.mk' () [] [0] trivial rfl (by repeat' (first | exact trivial | rfl | apply And.intro)) (by repeat' (first | exact trivial | rfl | apply And.intro)) ⟨rfl, rfl⟩
  conv => whnf
  refine Cond.eqI (fun e3 => ?_) (fun e3 => ?_)
  case refine_2 =>
    rw [no (fun e => by rw [e]) e3]
    conv => whnf
    exact Ret.mk' () [] [0] trivial rfl (by repeat' (first | exact trivial | rfl | apply And.intro)) (by repeat' (first | exact trivial | rfl | apply And.intro)) ⟨rfl, rfl⟩
  conv => whnf
  refine Cond.eqI (fun e4 => ?_) (fun e4 => ?_)
  case refine_2 =>
    rw [no (fun e => by rw [e]) e4]
    conv => whnf
    exact Ret.mk' () [] [0] trivial rfl (by repeat' (first | exact trivial | rfl | apply And.intro)) (by repeat' (first | exact trivial | rfl | apply And.intro)) ⟨rfl, rfl⟩
  conv => whnf
  refine Cond.eqI (fun e5 => ?_) (fun e5 => ?_)
  case refine_2 =>
    rw [no (fun e => by rw [e]) e5]
    conv => whnf
    exact Ret.mk' () [] [0] trivial rfl (by repeat' (first | exact trivial | rfl | apply And.intro)) (by repeat' (first | exact trivial | rfl | apply And.intro)) ⟨rfl, rfl⟩
  conv => whnf
  refine conv_str (l := c.b) (k := (c.b).length) (x := .c (.rs x.1 (c.b).length x.2)) Try.underlying23 Try.underlying5 Try.underlying9 (Src.rs (A := A) (by simp) (h1.1.ent E1)) rfl (fun s h => by cases h) ?_
  conv => whnf
  refine conv_str (l := d.b) (k := (d.b).length) (x := .c (.rs x'.1 (d.b).length x'.2)) Try.underlying23 Try.underlying5 Try.underlying9 (Src.rs (A := A) (by simp) (h3.1.ent E3)) rfl (fun s h => by cases h) ?_
  conv => whnf
  refine Cond.str (fun e6 => ?_) (fun e6 => ?_)
  case refine_2 =>
    rw [no (fun e => by rw [e]) e6]
    conv => whnf
    exact Ret.mk' () [] [0] trivial rfl (by repeat' (first | exact trivial | rfl | apply And.intro)) (by repeat' (first | exact trivial | rfl | apply And.intro)) ⟨rfl, rfl⟩
  conv => whnf
  refine conv_str (l := c.s) (k := (c.s).length) (x := .c (.rs y.1 (c.s).length y.2)) Try.underlying23 Try.underlying5 Try.underlying9 (Src.rs (A := A) (by simp) (h2.1.ent E2)) rfl (fun s h => by cases h) ?_
  conv => whnf
  refine conv_str (l := d.s) (k := (d.s).length) (x := .c (.rs y'.1 (d.s).length y'.2)) Try.underlying23 Try.underlying5 Try.underlying9 (Src.rs (A := A) (by simp) (h4.1.ent E4)) rfl (fun s h => by cases h) ?_
  conv => whnf
  have ev : (bs c.s).toList = (bs d.s).toList ↔ c.s = d.s := by rw [bs_toList, bs_toList]
  exact Ret.mk' () [] [0] trivial (by
    show Value.bool ((bs c.s).toList == (bs d.s).toList) = Value.bool (decide (c = d))
    rw [bs_toList, bs_toList, Bool.beq_eq_decide_eq]
    congr 1
    refine decide_eq_decide.2 ⟨fun h => ?_, fun h => by rw [h]⟩
    cases c; cases d; simp_all) (by repeat' (first | exact trivial | rfl | apply And.intro)) (by repeat' (first | exact trivial | rfl | apply And.intro)) ⟨rfl, rfl⟩
end Go.Proofs.Ytiimeklgjoclpaa
