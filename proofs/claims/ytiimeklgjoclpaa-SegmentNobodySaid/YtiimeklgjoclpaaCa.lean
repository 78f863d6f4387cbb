/- Commands: which may be, the program's bytes of one. -/
import Derived.Test.YtiimeklgjoclpaaOb
import Derived.Test.YtiimeklgjoclpaaSxc
namespace Go.Proofs.Ytiimeklgjoclpaa
open Go.Sx
set_option maxRecDepth 100000
set_option pp.deepTerms false
set_option pp.maxSteps 300
set_option linter.unusedSimpArgs false
set_option linter.unusedVariables false

/-- A command. -/
structure Cmd where
  k : Int
  n : Int
  d : Int
  id : List UInt8
  deriving DecidableEq
abbrev Cmd.sg (c : Cmd) : List Seg := [.one (.int .i64 c.k), .one (.int .i64 c.n), .one (.int .i64 c.d), .many 8 (u8s c.id)]
def id0 : List UInt8 := List.replicate 8 0
def cmd0 : Cmd := ⟨0, 0, 0, id0⟩
def Cmd.user (c : Cmd) : Bool := decide (c.n ≥ 0) && decide (c.n < 8)
def Cmd.bare (c : Cmd) : Bool := decide (c.d = 0) && decide (c.id = id0)
def Cmd.may (c : Cmd) : Bool :=
  if c.k = 1 then decide (c.n ≥ 0) && decide (c.n < 16) && decide (c.d ≥ 0) && decide (c.d ≤ 64) && decide (c.id = id0)
  else if c.k = 2 then c.user && c.bare
  else if c.k = 3 then c.user && decide (c.d = 0)
  else if c.k = 4 then decide (c.n = 0) && c.bare
  else false

theorem good_barr {n : Nat} {l : List UInt8} (h : l.length = n) (R : HProp) : Go.Sx.Good R (.barr n) l (u8s l) := ⟨h, rfl⟩
theorem u8s_zero (n : Nat) : u8s (List.replicate n 0) = List.replicate n (.int .u8 0) := by simp [u8s, u8]
/-- A command's bytes. -/
def Cmd.bytes (c : Cmd) : List UInt8 := beb c.k 1 ++ beb c.n 1 ++ beb c.d 2 ++ c.id ++ [0, 0, 0, 0]
theorem lay_ok {s : WS} {b : List UInt8} (h : s.e = 0) (hb : (b.length : Int) ≤ s.room - s.l.length) : s.lay b = ({ s with l := s.l ++ b }, 0) := by
  unfold WS.lay; rw [if_pos h, if_neg (by omega)]
theorem num_ok {s : WS} {n : Int} {k : Nat} (h : s.e = 0) (hf : fitsN n k = true) (hb : (k : Int) ≤ s.room - s.l.length) : s.num n k = ({ s with l := s.l ++ beb n k }, 0) := by
  unfold WS.num; rw [hf, Int.toNat_natCast]; exact lay_ok h (by rw [beb_len]; exact hb)
theorem Cmd.may_le {c : Cmd} (h : c.may = true) : (1 ≤ c.k ∧ c.k ≤ 4) ∧ (0 ≤ c.n ∧ c.n < 16) ∧ 0 ≤ c.d ∧ c.d ≤ 64 := by
  unfold Cmd.may Cmd.user Cmd.bare at h
  repeat' split at h
  all_goals simp at h
  all_goals omega
def Cmd.enc (c : Cmd) : List UInt8 × Int := if c.may then (c.bytes, 0) else (List.replicate 16 0, 2)
theorem Cmd.bytes_len {c : Cmd} (h : c.id.length = 8) : c.bytes.length = 16 := by simp [Cmd.bytes, beb_len, h]
theorem Cmd.enc_len {c : Cmd} (h : c.id.length = 8) : c.enc.1.length = 16 := by
  unfold Cmd.enc; split
  · exact Cmd.bytes_len h
  · simp
end Go.Proofs.Ytiimeklgjoclpaa
