/- The four laws at any arguments. -/
import Derived.Test.YtbncidjnjkhpfaaSo
namespace Go.Proofs.Ytbncidjnjkhpfaa
open Go.Sx
open Go.RowKit (Below)
set_option maxRecDepth 100000

def stepSh : Sh := .pair (.int .i64) (.pair (.int .i64) (.pair (.int .i64) (.pair (.int .i64) (.pair .bytes .unit))))
def stpOf : stepSh.T → Stp := fun x => ⟨x.1, x.2.1, x.2.2.1, x.2.2.2.1, x.2.2.2.2.1⟩
theorem stp_good {R : HProp} (x : stepSh.T) (cs : List Value) (h : Go.Sx.Good R stepSh x cs) : StepE R (stpOf x) cs := by
  obtain ⟨k, a, b, c, t, u⟩ := x
  obtain ⟨c1, c2, rfl, ⟨rfl, _⟩, c3, c4, rfl, ⟨rfl, _⟩, c5, c6, rfl, ⟨rfl, _⟩, c7, c8, rfl, ⟨rfl, _⟩, c9, c10, rfl, ⟨ta, tc, rfl, h1, h2⟩, rfl⟩ := h
  exact ⟨ta, tc, rfl, h2, h1.1, h1.2.2⟩
theorem fits22 : Fits Try.prog .bytes 22 = true := by simp only [Fits, Try.underlying22, Try.underlying5]; kernel_rfl
theorem fits45 : Fits Try.prog (.int .u16) 45 = true := by simp only [Fits, Try.underlying45]; rfl
theorem fits27 : Fits Try.prog (.slice stepSh) 27 = true := by simp only [Fits, FitsFs, stepSh, Try.underlying27, Try.underlying32, Try.underlying3, Try.underlying22, Try.underlying5]; kernel_rfl
section
variable {H : Type} {enc : TypeId × Value → H} {base : Nat} {v0 v1 : Value} {d0 d1 : DataW H} {p0 p1 : List MemPlace}
theorem arg_steps (W : World) (ok0 : Value.okWide Try.prog W .any base 27 v0) (h0 : DataW.Trod enc Try.prog W 0 (fun _ => true) true 27 v0 d0 p0) :
    ∃ a cap l, v0 = .slice a l.length cap ∧ Row (old W) a 5 (StepE (old W)) l := by
  obtain ⟨a, cap, l, rfl, _, h⟩ := arg_slice (s := stepSh) fits27 ok0 h0
  refine ⟨a, cap, l.map stpOf, by rw [List.length_map], ?_⟩
  exact (Vals.row h).map stpOf stp_good
theorem arg_bts (W : World) (ok0 : Value.okWide Try.prog W .any base 22 v0) (h0 : DataW.Trod enc Try.prog W 0 (fun _ => true) true 22 v0 d0 p0) :
    ∃ a cap l, v0 = .slice a l.length cap ∧ Bts (old W) a cap l := by
  obtain ⟨a, cap, l, rfl, h1, h⟩ := arg_bytes fits22 ok0 h0
  exact ⟨a, cap, l, rfl, h, h1.1, h1.2.2⟩
theorem scriptDecodes_law (W : World) (ok0 : Value.okWide Try.prog W .any base 22 v0) (h0 : DataW.Trod enc Try.prog W 0 (fun _ => true) true 22 v0 d0 p0) :
    Calls Try.prog 3 #[v0] W fun e w' => e = .returned (.bool true) ∧ Below W.heap.size W w' := by
  obtain ⟨a, cap, l, rfl, h⟩ := arg_bts W ok0 h0
  exact law_calls (decodes_c W a cap l h) rfl
theorem scriptEncodes_law (W : World) (ok0 : Value.okWide Try.prog W .any base 27 v0) (h0 : DataW.Trod enc Try.prog W 0 (fun _ => true) true 27 v0 d0 p0) :
    Calls Try.prog 4 #[v0] W fun e w' => e = .returned (.bool true) ∧ Below W.heap.size W w' := by
  obtain ⟨a, cap, l, rfl, h⟩ := arg_steps W ok0 h0
  exact law_calls (encodes_c W a cap l h) rfl
theorem scriptBack_law (W : World) (ok0 : Value.okWide Try.prog W .any base 27 v0) (ok1 : Value.okWide Try.prog W .any base 22 v1) (h0 : DataW.Trod enc Try.prog W 0 (fun _ => true) true 27 v0 d0 p0) (h1 : DataW.Trod enc Try.prog W 0 (fun _ => true) true 22 v1 d1 p1) :
    Calls Try.prog 5 #[v0, v1] W fun e w' => e = .returned (.bool true) ∧ Below W.heap.size W w' := by
  obtain ⟨a, cap, l, rfl, h⟩ := arg_steps W ok0 h0
  obtain ⟨b, bcap, m, rfl, h'⟩ := arg_bts W ok1 h1
  exact law_calls (backs_c W a cap l h b bcap m h') rfl
theorem scriptShort_law (W : World) (ok0 : Value.okWide Try.prog W .any base 22 v0) (ok1 : Value.okWide Try.prog W .any base 45 v1) (h0 : DataW.Trod enc Try.prog W 0 (fun _ => true) true 22 v0 d0 p0) (h1 : DataW.Trod enc Try.prog W 0 (fun _ => true) true 45 v1 d1 p1) :
    Calls Try.prog 6 #[v0, v1] W fun e w' => e = .returned (.bool true) ∧ Below W.heap.size W w' := by
  obtain ⟨a, cap, l, rfl, h⟩ := arg_bts W ok0 h0
  obtain ⟨n, rfl, hn⟩ := arg_int (k := .u16) fits45 ok1 h1
  have hn : 0 ≤ n ∧ n ≤ 65535 := by simpa [Lit.wf, IntKind.min, IntKind.max, IntKind.signed, IntKind.bits] using hn
  exact law_calls (short_c W a cap l h n hn) rfl
end
end Go.Proofs.Ytbncidjnjkhpfaa
