/- Commands out of bytes: the program's answer, the document's. -/
import Derived.Test.YtiimeklgjoclpaaCb
import Derived.Test.YtiimeklgjoclpaaOd
namespace Go.Proofs.Ytiimeklgjoclpaa
open Go.Sx
set_option maxRecDepth 100000
set_option pp.deepTerms false
set_option pp.maxSteps 300
set_option linter.unusedSimpArgs false
set_option linter.unusedVariables false

theorem rnum1 (x : UInt8) (r : List UInt8) : (⟨0, x :: r⟩ : RS).num 1 = (⟨0, r⟩, (x.toNat : Int), 0) := by
  unfold RS.num RS.take
  rw [if_neg (by decide), if_pos rfl, if_neg (by simp)]
  simp [big]
theorem rnum2 (x y : UInt8) (r : List UInt8) : (⟨0, x :: y :: r⟩ : RS).num 2 = (⟨0, r⟩, (x.toNat : Int) * 256 + (y.toNat : Int), 0) := by
  unfold RS.num RS.take
  rw [if_neg (by decide), if_pos rfl, if_neg (by simp)]
  simp [big]
theorem rbytes_ok (l : List UInt8) (n : Nat) (h : n ≤ l.length) : (⟨0, l⟩ : RS).bytes n = (⟨0, l.drop n⟩, l.take n, 0) := by
  unfold RS.bytes RS.take
  rw [if_neg (by omega), if_pos rfl, if_neg (by simp; omega)]
  simp

def cmdOf (b : List UInt8) : Cmd := ⟨gd b 0, gd b 1, 256 * gd b 2 + gd b 3, (b.drop 4).take 8⟩
def decC (b : List UInt8) : Cmd × Int := if (b.drop 12).any (· != 0) = false ∧ (cmdOf b).may = true then (cmdOf b, 0) else (cmd0, 5)
theorem cmdOf_len {b : List UInt8} (h : b.length = 16) : (cmdOf b).id.length = 8 := by simp [cmdOf, h]
theorem decC_len {b : List UInt8} (h : b.length = 16) : (decC b).1.id.length = 8 := by
  unfold decC; split
  · exact cmdOf_len h
  · rfl
theorem split4 {b : List UInt8} (h : b.length = 16) : ∃ x0 x1 x2 x3 r, b = x0 :: x1 :: x2 :: x3 :: r ∧ r.length = 12 := by
  match b, h with
  | x0 :: x1 :: x2 :: x3 :: r, h => exact ⟨x0, x1, x2, x3, r, rfl, by simpa using h⟩

end Go.Proofs.Ytiimeklgjoclpaa
