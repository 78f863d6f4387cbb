/- Commands: which may be, the program's bytes of one. -/
import Derived.Test.YtiimeklgjoclpaaDoorOb
import Derived.Test.YtiimeklgjoclpaaDoorSxc
namespace Go.Proofs.YtiimeklgjoclpaaDoor
open Go.Sx
set_option maxRecDepth 100000
set_option pp.deepTerms false
set_option pp.maxSteps 300
set_option linter.unusedSimpArgs false
set_option linter.unusedVariables false

/-- A command. -/
structure Cmd where
  k : Int
  n : Int
  d : Int
  id : List UInt8
  deriving DecidableEq
abbrev Cmd.sg (c : Cmd) : List Seg := [.one (.int .i64 c.k), .one (.int .i64 c.n), .one (.int .i64 c.d), .many 8 (u8s c.id)]
def id0 : List UInt8 := List.replicate 8 0
def cmd0 : Cmd := ⟨0, 0, 0, id0⟩
def Cmd.user (c : Cmd) : Bool := decide (c.n ≥ 0) && decide (c.n < 8)
def Cmd.bare (c : Cmd) : Bool := decide (c.d = 0) && decide (c.id = id0)
def Cmd.may (c : Cmd) : Bool :=
  if c.k = 1 then decide (c.n ≥ 0) && decide (c.n < 16) && decide (c.d ≥ 0) && decide (c.d ≤ 64) && decide (c.id = id0)
  else if c.k = 2 then c.user && c.bare
  else if c.k = 3 then c.user && decide (c.d = 0)
  else if c.k = 4 then decide (c.n = 0) && c.bare
  else false

theorem fitsBarr8 : Fits Tryd.prog (.barr 8) 38 = true := by simp only [Fits, Tryd.underlying38, Tryd.underlying5]; kernel_rfl
theorem key8 : Tryd.prog.keyTypeAt 5 38 = true := by kernel_rfl
theorem grd8 : Tryd.prog.eqGuardType Tryd.prog.depth 38 = false := by kernel_rfl
theorem good_barr {n : Nat} {l : List UInt8} (h : l.length = n) (R : HProp) : Go.Sx.Good R (.barr n) l (u8s l) := ⟨h, rfl⟩
theorem u8s_zero (n : Nat) : u8s (List.replicate n 0) = List.replicate n (.int .u8 0) := by simp [u8s, u8]
theorem eq_id {l m : List UInt8} {xs ys : List Value} {f : Bool → Prop} (hl : l.length = 8) (hm : m.length = 8) (ex : xs = u8s l) (ey : ys = u8s m) (h : f (decide (l = m))) : EqAgg Tryd.prog 38 xs ys f := by
  subst ex ey
  refine eq_agg (s := .barr 8) (R := fun _ => True) (R' := fun _ => True) ⟨.unit, .unit, .inr ⟨8, .inl rfl⟩⟩ rfl fitsBarr8 key8 (by decide) grd8 (good_barr hl _) (good_barr hm _) fun b hb => ?_
  have : b = decide (l = m) := by
    cases b with
    | true => rw [decide_eq_true (hb.1 rfl)]
    | false => rw [decide_eq_false (fun e => by cases hb.2 e)]
  rw [this]; exact h

theorem user_c (A : HProp) (c : Cmd) (hk8 : c.id.length = 8) : Pu Tryd.prog 48 [.agg c.sg] A (.c (.bool c.user)) := by
  have hk := many_ok hk8
  refine Con.of' tt_ok Tryd.func48 rfl (by decide) [.agg c.sg] [] [] rfl rfl trivial (by repeat' (first | exact trivial | rfl | exact hk _ | apply And.intro)) rfl ?_
  conv => whnf
  intro b1
  conv => whnf
  refine Cond.dec (fun h => ?_) (fun h => ?_)
  · conv => whnf
    exact Ret.mk' () [] [0] trivial (by simp [tupOf, SA.sv, ofValue, SV.den, SC.den, Cmd.user, h]) (by repeat' (first | exact trivial | rfl | apply And.intro)) (by repeat' (first | exact trivial | rfl | apply And.intro)) ⟨rfl, rfl⟩
  · conv => whnf
    exact Ret.mk' () [] [0] trivial (by simp [tupOf, SA.sv, ofValue, SV.den, SC.den, Cmd.user, h]) (by repeat' (first | exact trivial | rfl | apply And.intro)) (by repeat' (first | exact trivial | rfl | apply And.intro)) ⟨rfl, rfl⟩
theorem bare_c (A : HProp) (c : Cmd) (hk8 : c.id.length = 8) : Pu Tryd.prog 49 [.agg c.sg] A (.c (.bool c.bare)) := by
  have hk := many_ok hk8
  refine Con.of' tt_ok Tryd.func49 rfl (by decide) [.agg c.sg] [] [] rfl rfl trivial (by repeat' (first | exact trivial | rfl | exact hk _ | apply And.intro)) rfl ?_
  conv => whnf
  intro b1
  conv => whnf
  refine Cond.eqI (fun h => ?_) (fun h => ?_)
  · conv => whnf
    refine eq_id (l := c.id) (m := id0) hk8 rfl (List.append_nil _) rfl ?_
    conv => whnf
    exact Ret.mk' () [] [0] trivial (by simp [tupOf, SA.sv, ofValue, SV.den, SC.den, Cmd.bare, h]) (by repeat' (first | exact trivial | rfl | apply And.intro)) (by repeat' (first | exact trivial | rfl | apply And.intro)) ⟨rfl, rfl⟩
  · conv => whnf
    exact Ret.mk' () [] [0] trivial (by simp [tupOf, SA.sv, ofValue, SV.den, SC.den, Cmd.bare, h]) (by repeat' (first | exact trivial | rfl | apply And.intro)) (by repeat' (first | exact trivial | rfl | apply And.intro)) ⟨rfl, rfl⟩

theorem may_c (A : HProp) (c : Cmd) (hk8 : c.id.length = 8) : Pu Tryd.prog 26 [.agg c.sg] A (.c (.bool c.may)) := by
  have hk := many_ok hk8
  refine Con.of' tt_ok Tryd.func26 rfl (by decide) [.agg c.sg] [] [] rfl rfl trivial (by repeat' (first | exact trivial | rfl | exact hk _ | apply And.intro)) rfl ?_
  conv => whnf
  intro b1
  conv => whnf
  refine Cond.eqI (fun h => ?_) (fun h => ?_)
  · conv => whnf
    refine Cond.dec (fun h1 => ?_) (fun h1 => ?_)
    · conv => whnf
      refine Cond.dec (fun h2 => ?_) (fun h2 => ?_)
      · conv => whnf
        refine Cond.dec (fun h3 => ?_) (fun h3 => ?_)
        · conv => whnf
          refine Cond.dec (fun h4 => ?_) (fun h4 => ?_)
          · conv => whnf
            refine eq_id (l := c.id) (m := id0) hk8 rfl (List.append_nil _) rfl ?_
            conv => whnf
            exact Ret.mk' () [] [0] trivial (by simp [tupOf, SA.sv, ofValue, SV.den, SC.den, Cmd.may, h, h1, h2, h3, h4]) (by repeat' (first | exact trivial | rfl | apply And.intro)) (by repeat' (first | exact trivial | rfl | apply And.intro)) ⟨rfl, rfl⟩
          · conv => whnf
            exact Ret.mk' () [] [0] trivial (by simp [tupOf, SA.sv, ofValue, SV.den, SC.den, Cmd.may, h, h1, h2, h3, h4]) (by repeat' (first | exact trivial | rfl | apply And.intro)) (by repeat' (first | exact trivial | rfl | apply And.intro)) ⟨rfl, rfl⟩
        · conv => whnf
          exact Ret.mk' () [] [0] trivial (by simp [tupOf, SA.sv, ofValue, SV.den, SC.den, Cmd.may, h, h1, h2, h3]) (by repeat' (first | exact trivial | rfl | apply And.intro)) (by repeat' (first | exact trivial | rfl | apply And.intro)) ⟨rfl, rfl⟩
      · conv => whnf
        exact Ret.mk' () [] [0] trivial (by simp [tupOf, SA.sv, ofValue, SV.den, SC.den, Cmd.may, h, h1, h2]) (by repeat' (first | exact trivial | rfl | apply And.intro)) (by repeat' (first | exact trivial | rfl | apply And.intro)) ⟨rfl, rfl⟩
    · conv => whnf
      exact Ret.mk' () [] [0] trivial (by simp [tupOf, SA.sv, ofValue, SV.den, SC.den, Cmd.may, h, h1]) (by repeat' (first | exact trivial | rfl | apply And.intro)) (by repeat' (first | exact trivial | rfl | apply And.intro)) ⟨rfl, rfl⟩
  conv => whnf
  refine Cond.eqI (fun h2 => ?_) (fun h2 => ?_)
  · have e : c.may = (c.user && c.bare) := by unfold Cmd.may; rw [if_neg h, if_pos h2]
    rw [e]
    conv => whnf
    refine CallOb.pu (user_c _ c hk8) rfl ?_
    conv => whnf
    refine Cond.mk (fun hu => ?_) (fun hu => ?_)
    · conv => whnf
      refine CallOb.pu (bare_c _ c hk8) rfl ?_
      conv => whnf
      exact Ret.mk' () [] [0] trivial (by rw [hu]; rfl) (by repeat' (first | exact trivial | rfl | apply And.intro)) (by repeat' (first | exact trivial | rfl | apply And.intro)) ⟨rfl, rfl⟩
    · conv => whnf
      exact Ret.mk' () [] [0] trivial (by rw [hu]; rfl) (by repeat' (first | exact trivial | rfl | apply And.intro)) (by repeat' (first | exact trivial | rfl | apply And.intro)) ⟨rfl, rfl⟩
  conv => whnf
  refine Cond.eqI (fun h3 => ?_) (fun h3 => ?_)
  · have e : c.may = (c.user && decide (c.d = 0)) := by unfold Cmd.may; rw [if_neg h, if_neg h2, if_pos h3]
    rw [e]
    conv => whnf
    refine CallOb.pu (user_c _ c hk8) rfl ?_
    conv => whnf
    refine Cond.mk (fun hu => ?_) (fun hu => ?_)
    · conv => whnf
      exact Ret.mk' () [] [0] trivial (by simp [tupOf, SA.sv, ofValue, SV.den, SC.den, hu]; exact Bool.beq_eq_decide_eq _ _) (by repeat' (first | exact trivial | rfl | apply And.intro)) (by repeat' (first | exact trivial | rfl | apply And.intro)) ⟨rfl, rfl⟩
    · conv => whnf
      exact Ret.mk' () [] [0] trivial (by rw [hu]; rfl) (by repeat' (first | exact trivial | rfl | apply And.intro)) (by repeat' (first | exact trivial | rfl | apply And.intro)) ⟨rfl, rfl⟩
  conv => whnf
  refine Cond.eqI (fun h4 => ?_) (fun h4 => ?_)
  · have e : c.may = (decide (c.n = 0) && c.bare) := by unfold Cmd.may; rw [if_neg h, if_neg h2, if_neg h3, if_pos h4]
    rw [e]
    conv => whnf
    refine Cond.eqI (fun h5 => ?_) (fun h5 => ?_)
    · conv => whnf
      refine CallOb.pu (bare_c _ c hk8) rfl ?_
      conv => whnf
      exact Ret.mk' () [] [0] trivial (by simp [tupOf, SA.sv, ofValue, SV.den, SC.den, h5]) (by repeat' (first | exact trivial | rfl | apply And.intro)) (by repeat' (first | exact trivial | rfl | apply And.intro)) ⟨rfl, rfl⟩
    · conv => whnf
      exact Ret.mk' () [] [0] trivial (by simp [tupOf, SA.sv, ofValue, SV.den, SC.den, h5]) (by repeat' (first | exact trivial | rfl | apply And.intro)) (by repeat' (first | exact trivial | rfl | apply And.intro)) ⟨rfl, rfl⟩
  · have e : c.may = false := by unfold Cmd.may; rw [if_neg h, if_neg h2, if_neg h3, if_neg h4]
    rw [e]
    conv => whnf
    exact Ret.mk' () [] [0] trivial rfl (by repeat' (first | exact trivial | rfl | apply And.intro)) (by repeat' (first | exact trivial | rfl | apply And.intro)) ⟨rfl, rfl⟩

/-- A command's bytes. -/
def Cmd.bytes (c : Cmd) : List UInt8 := beb c.k 1 ++ beb c.n 1 ++ beb c.d 2 ++ c.id ++ [0, 0, 0, 0]
theorem lay_ok {s : WS} {b : List UInt8} (h : s.e = 0) (hb : (b.length : Int) ≤ s.room - s.l.length) : s.lay b = ({ s with l := s.l ++ b }, 0) := by
  unfold WS.lay; rw [if_pos h, if_neg (by omega)]
theorem num_ok {s : WS} {n : Int} {k : Nat} (h : s.e = 0) (hf : fitsN n k = true) (hb : (k : Int) ≤ s.room - s.l.length) : s.num n k = ({ s with l := s.l ++ beb n k }, 0) := by
  unfold WS.num; rw [hf, Int.toNat_natCast]; exact lay_ok h (by rw [beb_len]; exact hb)
theorem Cmd.may_le {c : Cmd} (h : c.may = true) : (1 ≤ c.k ∧ c.k ≤ 4) ∧ (0 ≤ c.n ∧ c.n < 16) ∧ 0 ≤ c.d ∧ c.d ≤ 64 := by
  unfold Cmd.may Cmd.user Cmd.bare at h
  repeat' split at h
  all_goals simp at h
  all_goals omega
def Cmd.enc (c : Cmd) : List UInt8 × Int := if c.may then (c.bytes, 0) else (List.replicate 16 0, 2)
theorem Cmd.bytes_len {c : Cmd} (h : c.id.length = 8) : c.bytes.length = 16 := by simp [Cmd.bytes, beb_len, h]
theorem Cmd.enc_len {c : Cmd} (h : c.id.length = 8) : c.enc.1.length = 16 := by
  unfold Cmd.enc; split
  · exact Cmd.bytes_len h
  · simp
end Go.Proofs.YtiimeklgjoclpaaDoor
