/- The small functions of the script and of the document's answer. -/
import Derived.Test.YtbncidjnjkhpfaaTt
namespace Go.Proofs.Ytbncidjnjkhpfaa
open Go.Sx
set_option maxRecDepth 100000
set_option pp.deepTerms false
set_option pp.maxSteps 300

/-- A step, as told. -/
structure Stp where
  k : Int
  a : Int
  b : Int
  c : Int
  t : List UInt8
  deriving DecidableEq
def Stp.sv (s : Stp) (ta : Option Addr) (tc : Nat) : SV := .agg [.one (.int .i64 s.k), .one (.int .i64 s.a), .one (.int .i64 s.b), .one (.int .i64 s.c), .one (.rs ta s.t.length tc)]

def shp (k : Int) : Nat × Nat × Nat × Nat := if k = 1 then (1, 1, 0, 1) else if k = 5 then (1, 2, 1, 0) else if k = 6 then (0, 0, 0, 0) else (1, 0, 0, 0)
theorem shape_c (A : HProp) (k : Int) : Pu Try.prog 22 [.c (.int .i64 k)] A (.tup [.c (.int .i64 (shp k).1), .c (.int .i64 (shp k).2.1), .c (.int .i64 (shp k).2.2.1), .c (.int .i64 (shp k).2.2.2)]) := by
  refine Con.of' tt_ok Try.func22 rfl (by decide) [.c (.int .i64 k)] [] [] rfl rfl trivial ⟨trivial, trivial⟩ rfl ?_
  conv => whnf
  (repeat' first
    | (refine Cond.dec (fun h => ?_) (fun h => ?_) <;> first | (exfalso; omega) | (conv => whnf))
    | (refine Cond.eqI (fun h => ?_) (fun h => ?_) <;> first | (exfalso; omega) | (conv => whnf))
    | (refine Cond.neI (fun h => ?_) (fun h => ?_) <;> first | (exfalso; omega) | (conv => whnf))
    | (intro b; conv => whnf)
    | refine Cond.not ?_
    | refine Cond.and ?_
    | (refine Ar.i64 (by omega) ?_; conv => whnf)
    | (refine Ar.u8 (by omega) ?_; conv => whnf)
    | (refine And.intro (by omega) ?_; conv => whnf))
  all_goals refine Ret.mk' () [] [0] trivial ?_ (by repeat' (first | exact trivial | apply And.intro)) trivial ⟨rfl, rfl⟩
  all_goals simp [shp, *] <;> rfl

def rm (n s : Int) : Bool := if s = 0 then n == 0 else if s = 1 then decide (n ≥ 0) && decide (n ≤ 255) else decide (n ≥ 0) && decide (n ≤ 65535)
theorem room_c (A : HProp) (n s : Int) : Pu Try.prog 23 [.c (.int .i64 n), .c (.int .i64 s)] A (.c (.bool (rm n s))) := by
  refine Con.of' tt_ok Try.func23 rfl (by decide) [.c (.int .i64 n), .c (.int .i64 s)] [] [] rfl rfl trivial ⟨trivial, trivial, trivial⟩ rfl ?_
  conv => whnf
  (repeat' first
    | (refine Cond.dec (fun h => ?_) (fun h => ?_) <;> first | (exfalso; omega) | (conv => whnf))
    | (refine Cond.eqI (fun h => ?_) (fun h => ?_) <;> first | (exfalso; omega) | (conv => whnf))
    | (refine Cond.neI (fun h => ?_) (fun h => ?_) <;> first | (exfalso; omega) | (conv => whnf))
    | (intro b; conv => whnf)
    | refine Cond.not ?_
    | refine Cond.and ?_
    | (refine Ar.i64 (by omega) ?_; conv => whnf)
    | (refine Ar.u8 (by omega) ?_; conv => whnf)
    | (refine And.intro (by omega) ?_; conv => whnf))
  all_goals refine Ret.mk' () [] [0] trivial ?_ (by repeat' (first | exact trivial | apply And.intro)) trivial ⟨rfl, rfl⟩
  all_goals simp [tupOf, SA.sv, ofValue, SV.den, SC.den, rm, *]

def szr (k : Int) : Nat := if k = 1 then 3 else if k = 5 then 4 else if k = 6 then 0 else 1
theorem size_c (A : HProp) (k : Int) : Pu Try.prog 28 [.c (.int .i64 k)] A (.c (.int .i64 (szr k))) := by
  refine Con.of' tt_ok Try.func28 rfl (by decide) [.c (.int .i64 k)] [] [] rfl rfl trivial ⟨trivial, trivial⟩ rfl ?_
  conv => whnf
  (repeat' first
    | (refine Cond.dec (fun h => ?_) (fun h => ?_) <;> first | (exfalso; omega) | (conv => whnf))
    | (refine Cond.eqI (fun h => ?_) (fun h => ?_) <;> first | (exfalso; omega) | (conv => whnf))
    | (refine Cond.neI (fun h => ?_) (fun h => ?_) <;> first | (exfalso; omega) | (conv => whnf))
    | (intro b; conv => whnf)
    | refine Cond.not ?_
    | refine Cond.and ?_
    | (refine Ar.i64 (by omega) ?_; conv => whnf)
    | (refine Ar.u8 (by omega) ?_; conv => whnf)
    | (refine And.intro (by omega) ?_; conv => whnf))
  all_goals refine Ret.mk' () [] [0] trivial ?_ (by repeat' (first | exact trivial | apply And.intro)) trivial ⟨rfl, rfl⟩
  all_goals simp [tupOf, SA.sv, ofValue, SV.den, SC.den, szr, *]

def Stp.room (s : Stp) : Bool := decide (s.k ≥ 1) && decide (s.k ≤ 8) && decide (s.a ≥ 0) && decide (s.a ≤ 255) && decide (s.b ≥ 0) && decide (s.b ≤ 65535) && decide (s.c ≥ 0) && decide (s.c ≤ 255) && decide ((s.t.length : Int) ≤ 255)
theorem rroom_c (A : HProp) (s : Stp) (ta : Option Addr) (tc : Nat) : Pu Try.prog 24 [s.sv ta tc] A (.c (.bool s.room)) := by
  refine Con.of' tt_ok Try.func24 rfl (by decide) [s.sv ta tc] [] [] rfl rfl trivial (by repeat' (first | exact trivial | apply And.intro)) rfl ?_
  conv => whnf
  (repeat' first
    | (refine Cond.dec (fun h => ?_) (fun h => ?_) <;> first | (exfalso; omega) | (conv => whnf))
    | (refine Cond.eqI (fun h => ?_) (fun h => ?_) <;> first | (exfalso; omega) | (conv => whnf))
    | (refine Cond.neI (fun h => ?_) (fun h => ?_) <;> first | (exfalso; omega) | (conv => whnf))
    | (intro b; conv => whnf)
    | refine Cond.not ?_
    | refine Cond.and ?_
    | (refine Ar.i64 (by omega) ?_; conv => whnf)
    | (refine Ar.u8 (by omega) ?_; conv => whnf)
    | (refine And.intro (by omega) ?_; conv => whnf))
  all_goals refine Ret.mk' () [] [0] trivial ?_ (by repeat' (first | exact trivial | apply And.intro)) trivial ⟨rfl, rfl⟩
  all_goals simp [tupOf, SA.sv, ofValue, SV.den, SC.den, Stp.room, *]

theorem theirs_c (A : HProp) (s : Stp) (ta : Option Addr) (tc : Nat) : Pu Try.prog 12 [s.sv ta tc] A (s.sv ta tc) := by
  refine Con.of' tt_ok Try.func12 rfl (by decide) [s.sv ta tc] [] [] rfl rfl trivial (by repeat' (first | exact trivial | apply And.intro)) rfl ?_
  conv => whnf
  (repeat' first
    | (refine Cond.dec (fun h => ?_) (fun h => ?_) <;> first | (exfalso; omega) | (conv => whnf))
    | (refine Cond.eqI (fun h => ?_) (fun h => ?_) <;> first | (exfalso; omega) | (conv => whnf))
    | (refine Cond.neI (fun h => ?_) (fun h => ?_) <;> first | (exfalso; omega) | (conv => whnf))
    | (intro b; conv => whnf)
    | refine Cond.not ?_
    | refine Cond.and ?_
    | (refine Ar.i64 (by omega) ?_; conv => whnf)
    | (refine Ar.u8 (by omega) ?_; conv => whnf)
    | (refine And.intro (by omega) ?_; conv => whnf))
  exact Ret.mk' () [] [0] trivial rfl (by repeat' (first | exact trivial | apply And.intro)) trivial ⟨rfl, rfl⟩
theorem ours_c (A : HProp) (s : Stp) (ta : Option Addr) (tc : Nat) : Pu Try.prog 18 [s.sv ta tc] A (s.sv ta tc) := by
  refine Con.of' tt_ok Try.func18 rfl (by decide) [s.sv ta tc] [] [] rfl rfl trivial (by repeat' (first | exact trivial | apply And.intro)) rfl ?_
  conv => whnf
  (repeat' first
    | (refine Cond.dec (fun h => ?_) (fun h => ?_) <;> first | (exfalso; omega) | (conv => whnf))
    | (refine Cond.eqI (fun h => ?_) (fun h => ?_) <;> first | (exfalso; omega) | (conv => whnf))
    | (refine Cond.neI (fun h => ?_) (fun h => ?_) <;> first | (exfalso; omega) | (conv => whnf))
    | (intro b; conv => whnf)
    | refine Cond.not ?_
    | refine Cond.and ?_
    | (refine Ar.i64 (by omega) ?_; conv => whnf)
    | (refine Ar.u8 (by omega) ?_; conv => whnf)
    | (refine And.intro (by omega) ?_; conv => whnf))
  exact Ret.mk' () [] [0] trivial rfl (by repeat' (first | exact trivial | apply And.intro)) trivial ⟨rfl, rfl⟩

theorem same_c (A : HProp) (x y : Stp) (ta tb : Option Addr) (tc td : Nat) (hx : Rd A ta (u8s x.t)) (hy : Rd A tb (u8s y.t)) : Pu Try.prog 17 [x.sv ta tc, y.sv tb td] A (.c (.bool (decide (x = y)))) := by
  refine Con.of' tt_ok Try.func17 rfl (by decide) [x.sv ta tc, y.sv tb td] [] [] rfl rfl trivial (by repeat' (first | exact trivial | apply And.intro)) rfl ?_
  conv => whnf
  (repeat' first
    | (refine Cond.dec (fun h => ?_) (fun h => ?_) <;> first | (exfalso; omega) | (conv => whnf))
    | (refine Cond.eqI (fun h => ?_) (fun h => ?_) <;> first | (exfalso; omega) | (conv => whnf))
    | (refine Cond.neI (fun h => ?_) (fun h => ?_) <;> first | (exfalso; omega) | (conv => whnf))
    | (intro b; conv => whnf)
    | refine Cond.not ?_
    | refine Cond.and ?_
    | (refine Ar.i64 (by omega) ?_; conv => whnf)
    | (refine Ar.u8 (by omega) ?_; conv => whnf)
    | (refine And.intro (by omega) ?_; conv => whnf))
  all_goals try (
    refine Ret.mk' () [] [0] trivial ?_ (by repeat' (first | exact trivial | apply And.intro)) trivial ⟨rfl, rfl⟩
    have e : ¬ x = y := fun e => by subst e; contradiction
    simp [tupOf, SA.sv, ofValue, SV.den, SC.den, *])
  refine conv_str (x := .c (.rs ta x.t.length tc)) Try.underlying22 Try.underlying5 Try.underlying9 (Src.rs (A := A) (by simp) hx) rfl (fun s h => by cases h) ?_
  conv => whnf
  refine conv_str (x := .c (.rs tb y.t.length td)) Try.underlying22 Try.underlying5 Try.underlying9 (Src.rs (A := A) (by simp) hy) rfl (fun s h => by cases h) ?_
  conv => whnf
  refine Ret.mk' () [] [0] trivial ?_ (by repeat' (first | exact trivial | apply And.intro)) trivial ⟨rfl, rfl⟩
  have e : x = y ↔ x.t = y.t := by
    cases x; cases y; simp_all
  simp [tupOf, SA.sv, ofValue, SV.den, SC.den, bs_toList, e, *]
  exact (Bool.beq_eq_decide_eq _ _)
end Go.Proofs.Ytbncidjnjkhpfaa
