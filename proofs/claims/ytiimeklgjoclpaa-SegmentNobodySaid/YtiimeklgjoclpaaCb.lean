/- Commands: the program's bytes of one; the document's; the same command. -/
import Derived.Test.YtiimeklgjoclpaaCa
import Derived.Test.YtiimeklgjoclpaaOb
namespace Go.Proofs.Ytiimeklgjoclpaa
open Go.Sx
set_option maxRecDepth 100000
set_option pp.deepTerms false
set_option pp.maxSteps 300
set_option linter.unusedSimpArgs false
set_option linter.unusedVariables false

theorem fits1 {n : Int} (h : 0 ≤ n ∧ n < 256) : fitsN n (1 : Nat) = true := by simp [fitsN]; omega
theorem fits2 {n : Int} (h : 0 ≤ n ∧ n < 65536) : fitsN n (2 : Nat) = true := by simp [fitsN]; omega

/-! The document's. -/
theorem bool_iff {b : Bool} {p : Prop} [Decidable p] (h : b = true ↔ p) : b = decide p := by
  cases b with
  | true => rw [decide_eq_true (h.1 rfl)]
  | false => rw [decide_eq_false (fun e => by cases h.2 e)]
theorem u8_val {n : Int} (h : 0 ≤ n ∧ n < 256) : u8 (by8 n) = .int .u8 n := by
  show Value.int .u8 ((by8 n).toNat : Int) = _
  rw [by8_toNat n (by omega)]
theorem u8s_beb1 {n : Int} (h : 0 ≤ n ∧ n < 256) : u8s (beb n 1) = [.int .u8 n] := by
  have e : beb n 1 = [by8 n] := by simp [beb]
  rw [e]; exact congrArg (fun x => [x]) (u8_val h)
theorem u8s_beb2 {n : Int} (h : 0 ≤ n ∧ n < 65536) : u8s (beb n 2) = [.int .u8 (n.tdiv 256), .int .u8 (n.tmod 256)] := by
  have e1 : n.tdiv 256 = n / 256 := Int.tdiv_eq_ediv_of_nonneg h.1
  have e2 : n.tmod 256 = n % 256 := Int.tmod_eq_emod_of_nonneg h.1
  have e3 : n.fdiv 256 = n / 256 := Int.fdiv_eq_ediv_of_nonneg _ (by decide)
  have e : beb n 2 = [by8 (n / 256), by8 n] := by simp [beb, e3]
  have e4 : by8 n = by8 (n % 256) := by unfold by8; congr 2; omega
  rw [e, e4, e1, e2]
  show [u8 _, u8 _] = _
  rw [u8_val (by omega), u8_val (by omega)]
def byL (c : Cmd) (i : Nat) : List Value := [.int .u8 c.k, .int .u8 c.n, .int .u8 (c.d.tdiv 256), .int .u8 (c.d.tmod 256)] ++ (u8s (c.id.take i) ++ List.replicate (12 - i) (.int .u8 0))
theorem byL_len {c : Cmd} (h : c.id.length = 8) {i : Nat} (hi : i ≤ 8) : (byL c i).length = 16 := by simp [byL, u8s_length, h]; omega
theorem byL_set {c : Cmd} (h : c.id.length = 8) {i : Nat} (hi : i < 8) (v : Value) (hv : v = u8 (c.id[i]'(by omega))) : (byL c i).take (4 + i) ++ ([v] ++ (byL c i).drop (4 + i + 1)) = byL c (i + 1) := by
  have e1 : (u8s (c.id.take i)).length = i := by rw [u8s_length, List.length_take]; omega
  have e2 : c.id.take (i + 1) = c.id.take i ++ [c.id[i]'(by omega)] := List.take_succ_eq_append_getElem (by omega)
  obtain ⟨k, hk⟩ : ∃ k, 12 - i = k + 1 := ⟨11 - i, by omega⟩
  have hk' : 12 - (i + 1) = k := by omega
  have e3 : u8s [c.id[i]'(by omega)] = [v] := by rw [hv]; rfl
  unfold byL
  rw [hk, hk', e2, u8s_append, e3, List.replicate_succ]
  clear e3 e2 hv
  generalize u8s (c.id.take i) = L at e1 ⊢
  clear hk hk' hi
  subst e1
  simp [List.take_append, List.drop_append, show 4 + L.length = L.length + 4 by omega, show L.length + 4 + 1 = L.length + 1 + 4 by omega]
theorem byL_all {c : Cmd} (h : c.id.length = 8) (hm : c.may = true) : byL c 8 = u8s c.bytes := by
  have hle := Cmd.may_le hm
  unfold byL Cmd.bytes
  rw [u8s_append, u8s_append, u8s_append, u8s_append, u8s_beb1 (by omega), u8s_beb1 (by omega), u8s_beb2 (by omega), List.take_of_length_le (by omega)]
  simp [u8s, u8]

end Go.Proofs.Ytiimeklgjoclpaa
