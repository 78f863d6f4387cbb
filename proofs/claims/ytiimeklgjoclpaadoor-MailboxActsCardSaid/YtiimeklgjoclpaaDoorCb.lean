/- Commands: the program's bytes of one; the document's; the same command. -/
import Derived.Test.YtiimeklgjoclpaaDoorCa
import Derived.Test.YtiimeklgjoclpaaDoorOb
namespace Go.Proofs.YtiimeklgjoclpaaDoor
open Go.Sx
set_option maxRecDepth 100000
set_option pp.deepTerms false
set_option pp.maxSteps 300
set_option linter.unusedSimpArgs false
set_option linter.unusedVariables false

theorem fits1 {n : Int} (h : 0 ≤ n ∧ n < 256) : fitsN n (1 : Nat) = true := by simp [fitsN]; omega
theorem fits2 {n : Int} (h : 0 ≤ n ∧ n < 65536) : fitsN n (2 : Nat) = true := by simp [fitsN]; omega

/-! The document's. -/
theorem fitsBarr8' : Fits Tryd.prog (.barr 8) 31 = true := by simp only [Fits, Tryd.underlying31, Tryd.underlying5]; kernel_rfl
theorem key8' : Tryd.prog.keyTypeAt 5 31 = true := by kernel_rfl
theorem grd8' : Tryd.prog.eqGuardType Tryd.prog.depth 31 = false := by kernel_rfl
theorem bool_iff {b : Bool} {p : Prop} [Decidable p] (h : b = true ↔ p) : b = decide p := by
  cases b with
  | true => rw [decide_eq_true (h.1 rfl)]
  | false => rw [decide_eq_false (fun e => by cases h.2 e)]
theorem eq_id' {l m : List UInt8} {xs ys : List Value} {f : Bool → Prop} (hl : l.length = 8) (hm : m.length = 8) (ex : xs = u8s l) (ey : ys = u8s m) (h : f (decide (l = m))) : EqAgg Tryd.prog 31 xs ys f := by
  subst ex ey
  refine eq_agg (s := .barr 8) (R := fun _ => True) (R' := fun _ => True) ⟨.unit, .unit, .inr ⟨8, .inl rfl⟩⟩ rfl fitsBarr8' key8' (by decide) grd8' (good_barr hl _) (good_barr hm _) fun b hb => ?_
  rw [bool_iff hb]; exact h

theorem rmay_c (A : HProp) (c : Cmd) (hk8 : c.id.length = 8) : Pu Tryd.prog 47 [.agg c.sg] A (.c (.bool c.may)) := by
  have hk := many_ok hk8
  refine Con.of' tt_ok Tryd.func47 rfl (by decide) [.agg c.sg] [] [] rfl rfl trivial (by repeat' (first | exact trivial | rfl | exact hk _ | apply And.intro)) rfl ?_
  conv => whnf
  intro b1
  conv => whnf
  refine eq_id' (l := c.id) (m := id0) hk8 rfl (List.append_nil _) rfl ?_
  conv => whnf
  repeat' first
    | (refine Cond.eqI (fun h => ?_) (fun h => ?_) <;> (conv => whnf))
    | (refine Cond.dec (fun h => ?_) (fun h => ?_) <;> (conv => whnf))
    | (refine Cond.mk (fun h => ?_) (fun h => ?_) <;> (conv => whnf))
  all_goals refine Ret.mk' () [] [0] trivial ?_ (by repeat' (first | exact trivial | rfl | apply And.intro)) (by repeat' (first | exact trivial | rfl | apply And.intro)) ⟨rfl, rfl⟩
  all_goals simp_all [tupOf, SA.sv, ofValue, SV.den, SC.den, Cmd.may, Cmd.user, Cmd.bare]
  all_goals first
    | omega
    | (have h8 : c.n < 8 := by omega
       rw [decide_eq_true h8, Bool.true_and]; exact Bool.beq_eq_decide_eq _ _)

theorem u8_val {n : Int} (h : 0 ≤ n ∧ n < 256) : u8 (by8 n) = .int .u8 n := by
  show Value.int .u8 ((by8 n).toNat : Int) = _
  rw [by8_toNat n (by omega)]
theorem u8s_beb1 {n : Int} (h : 0 ≤ n ∧ n < 256) : u8s (beb n 1) = [.int .u8 n] := by
  have e : beb n 1 = [by8 n] := by simp [beb]
  rw [e]; exact congrArg (fun x => [x]) (u8_val h)
theorem u8s_beb2 {n : Int} (h : 0 ≤ n ∧ n < 65536) : u8s (beb n 2) = [.int .u8 (n.tdiv 256), .int .u8 (n.tmod 256)] := by
  have e1 : n.tdiv 256 = n / 256 := Int.tdiv_eq_ediv_of_nonneg h.1
  have e2 : n.tmod 256 = n % 256 := Int.tmod_eq_emod_of_nonneg h.1
  have e3 : n.fdiv 256 = n / 256 := Int.fdiv_eq_ediv_of_nonneg _ (by decide)
  have e : beb n 2 = [by8 (n / 256), by8 n] := by simp [beb, e3]
  have e4 : by8 n = by8 (n % 256) := by unfold by8; congr 2; omega
  rw [e, e4, e1, e2]
  show [u8 _, u8 _] = _
  rw [u8_val (by omega), u8_val (by omega)]
def byL (c : Cmd) (i : Nat) : List Value := [.int .u8 c.k, .int .u8 c.n, .int .u8 (c.d.tdiv 256), .int .u8 (c.d.tmod 256)] ++ (u8s (c.id.take i) ++ List.replicate (12 - i) (.int .u8 0))
theorem byL_len {c : Cmd} (h : c.id.length = 8) {i : Nat} (hi : i ≤ 8) : (byL c i).length = 16 := by simp [byL, u8s_length, h]; omega
theorem byL_set {c : Cmd} (h : c.id.length = 8) {i : Nat} (hi : i < 8) (v : Value) (hv : v = u8 (c.id[i]'(by omega))) : (byL c i).take (4 + i) ++ ([v] ++ (byL c i).drop (4 + i + 1)) = byL c (i + 1) := by
  have e1 : (u8s (c.id.take i)).length = i := by rw [u8s_length, List.length_take]; omega
  have e2 : c.id.take (i + 1) = c.id.take i ++ [c.id[i]'(by omega)] := List.take_succ_eq_append_getElem (by omega)
  obtain ⟨k, hk⟩ : ∃ k, 12 - i = k + 1 := ⟨11 - i, by omega⟩
  have hk' : 12 - (i + 1) = k := by omega
  have e3 : u8s [c.id[i]'(by omega)] = [v] := by rw [hv]; rfl
  unfold byL
  rw [hk, hk', e2, u8s_append, e3, List.replicate_succ]
  clear e3 e2 hv
  generalize u8s (c.id.take i) = L at e1 ⊢
  clear hk hk' hi
  subst e1
  simp [List.take_append, List.drop_append, show 4 + L.length = L.length + 4 by omega, show L.length + 4 + 1 = L.length + 1 + 4 by omega]
theorem byL_all {c : Cmd} (h : c.id.length = 8) (hm : c.may = true) : byL c 8 = u8s c.bytes := by
  have hle := Cmd.may_le hm
  unfold byL Cmd.bytes
  rw [u8s_append, u8s_append, u8s_append, u8s_append, u8s_beb1 (by omega), u8s_beb1 (by omega), u8s_beb2 (by omega), List.take_of_length_le (by omega)]
  simp [u8s, u8]

end Go.Proofs.YtiimeklgjoclpaaDoor
