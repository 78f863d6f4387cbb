/- The five laws at any arguments. -/
import Derived.Test.YthmopeddbpoakaaOi
namespace Go.Proofs.Ythmopeddbpoakaa
open Go.Sx
open Go.RowKit (Below)
set_option maxRecDepth 100000

def actSh : Sh := .pair (.int .u8) (.pair (.int .u64) (.pair (.int .i64) (.pair .bytes .unit)))
def actOf : actSh.T → Act := fun x => ⟨x.1, x.2.1, x.2.2.1, x.2.2.2.1⟩
theorem act_good {R : HProp} (x : actSh.T) (cs : List Value) (h : Go.Sx.Good R actSh x cs) : ActE R (actOf x) cs := by
  obtain ⟨k, a, b, t, u⟩ := x
  obtain ⟨c1, c2, rfl, ⟨rfl, w1⟩, c3, c4, rfl, ⟨rfl, w2⟩, c5, c6, rfl, ⟨rfl, w3⟩, c9, c10, rfl, ⟨ta, tc, rfl, h1, h2⟩, rfl⟩ := h
  refine ⟨ta, tc, rfl, ⟨h2, h1.1, h1.2.2⟩, ?_, ?_, ?_⟩
  · show 0 ≤ k ∧ k ≤ 255
    simpa [Lit.wf, IntKind.min, IntKind.max, IntKind.signed, IntKind.bits] using w1
  · have : 0 ≤ a ∧ a ≤ 18446744073709551615 := by simpa [Lit.wf, IntKind.min, IntKind.max, IntKind.signed, IntKind.bits] using w2
    show 0 ≤ a ∧ a < 18446744073709551616
    exact ⟨this.1, Int.lt_of_le_of_lt this.2 (by decide)⟩
  · show -9223372036854775808 ≤ b ∧ b ≤ 9223372036854775807
    simpa [Lit.wf, IntKind.min, IntKind.max, IntKind.signed, IntKind.bits] using w3
theorem fitsB : Fits Try.prog .bytes 26 = true := by simp only [Fits, Try.underlying26, Try.underlying5]; kernel_rfl
theorem fitsI : Fits Try.prog (.int .i64) 3 = true := by simp only [Fits, Try.underlying3]; rfl
theorem fitsA : Fits Try.prog actSh 31 = true := by simp only [Fits, FitsFs, actSh, Try.underlying31, Try.underlying29, Try.underlying3, Try.underlying26, Try.underlying5]; kernel_rfl
theorem fitsL : Fits Try.prog (.slice actSh) 22 = true := by simp only [Fits, FitsFs, actSh, Try.underlying22, Try.underlying31, Try.underlying29, Try.underlying3, Try.underlying26, Try.underlying5]; kernel_rfl
section
variable {H : Type} {enc : TypeId × Value → H} {base : Nat} {v0 v1 v2 : Value} {d0 d1 d2 : DataW H} {p0 p1 p2 : List MemPlace}
theorem arg_acts (W : World) (ok0 : Value.okWide Try.prog W .any base 22 v0) (h0 : DataW.Trod enc Try.prog W 0 (fun _ => true) true 22 v0 d0 p0) :
    ∃ a cap l, v0 = .slice a l.length cap ∧ Row (old W) a 4 (ActE (old W)) l := by
  obtain ⟨a, cap, l, rfl, _, h⟩ := arg_slice (s := actSh) fitsL ok0 h0
  refine ⟨a, cap, l.map actOf, by rw [List.length_map], ?_⟩
  exact (Vals.row h).map actOf act_good
theorem arg_act (W : World) (ok0 : Value.okWide Try.prog W .any base 31 v0) (h0 : DataW.Trod enc Try.prog W 0 (fun _ => true) true 31 v0 d0 p0) :
    ∃ x ta tc, v0 = (SV.agg (Act.sg x ta tc)).den [] ∧ Bts (old W) ta tc x.b ∧ x.ok := by
  obtain ⟨x, cs, rfl, h⟩ := arg_agg (s := actSh) ⟨_, _, .inl rfl⟩ fitsA ok0 h0
  obtain ⟨ta, tc, rfl, h1, h2⟩ := act_good x cs h
  exact ⟨actOf x, ta, tc, rfl, h1, h2⟩
theorem arg_bts (W : World) (ok0 : Value.okWide Try.prog W .any base 26 v0) (h0 : DataW.Trod enc Try.prog W 0 (fun _ => true) true 26 v0 d0 p0) :
    ∃ a cap l, v0 = .slice a l.length cap ∧ Bts (old W) a cap l := by
  obtain ⟨a, cap, l, rfl, h1, h⟩ := arg_bytes fitsB ok0 h0
  exact ⟨a, cap, l, rfl, h, h1.1, h1.2.2⟩
theorem octetWrites_law (W : World) (ok0 : Value.okWide Try.prog W .any base 3 v0) (ok1 : Value.okWide Try.prog W .any base 22 v1) (h0 : DataW.Trod enc Try.prog W 0 (fun _ => true) true 3 v0 d0 p0) (h1 : DataW.Trod enc Try.prog W 0 (fun _ => true) true 22 v1 d1 p1) :
    Calls Try.prog 3 #[v0, v1] W fun e w' => e = .returned (.bool true) ∧ Below W.heap.size W w' := by
  obtain ⟨n, rfl, _⟩ := arg_int (k := .i64) fitsI ok0 h0
  obtain ⟨a, cap, l, rfl, h⟩ := arg_acts W ok1 h1
  exact law_calls (writes_c W n a cap l h) rfl
theorem octetReads_law (W : World) (ok0 : Value.okWide Try.prog W .any base 26 v0) (ok1 : Value.okWide Try.prog W .any base 22 v1) (h0 : DataW.Trod enc Try.prog W 0 (fun _ => true) true 26 v0 d0 p0) (h1 : DataW.Trod enc Try.prog W 0 (fun _ => true) true 22 v1 d1 p1) :
    Calls Try.prog 4 #[v0, v1] W fun e w' => e = .returned (.bool true) ∧ Below W.heap.size W w' := by
  obtain ⟨a, cap, l, rfl, h⟩ := arg_bts W ok0 h0
  obtain ⟨a', cap', l', rfl, h'⟩ := arg_acts W ok1 h1
  exact law_calls (reads_c W a cap l h a' cap' l' h') rfl
theorem octetBack_law (W : World) (ok0 : Value.okWide Try.prog W .any base 22 v0) (h0 : DataW.Trod enc Try.prog W 0 (fun _ => true) true 22 v0 d0 p0) :
    Calls Try.prog 5 #[v0] W fun e w' => e = .returned (.bool true) ∧ Below W.heap.size W w' := by
  obtain ⟨a, cap, l, rfl, h⟩ := arg_acts W ok0 h0
  exact law_calls (back_c W a cap l h) rfl
theorem octetNobody_law (W : World) (ok0 : Value.okWide Try.prog W .any base 31 v0) (h0 : DataW.Trod enc Try.prog W 0 (fun _ => true) true 31 v0 d0 p0) :
    Calls Try.prog 6 #[v0] W fun e w' => e = .returned (.bool true) ∧ Below W.heap.size W w' := by
  obtain ⟨x, ta, tc, rfl, h⟩ := arg_act W ok0 h0
  exact law_calls (nobody_c W x ta tc) rfl
theorem octetStops_law (W : World) (ok0 : Value.okWide Try.prog W .any base 31 v0) (ok1 : Value.okWide Try.prog W .any base 31 v1) (ok2 : Value.okWide Try.prog W .any base 26 v2) (h0 : DataW.Trod enc Try.prog W 0 (fun _ => true) true 31 v0 d0 p0) (h1 : DataW.Trod enc Try.prog W 0 (fun _ => true) true 31 v1 d1 p1) (h2 : DataW.Trod enc Try.prog W 0 (fun _ => true) true 26 v2 d2 p2) :
    Calls Try.prog 7 #[v0, v1, v2] W fun e w' => e = .returned (.bool true) ∧ Below W.heap.size W w' := by
  obtain ⟨x, ta, tc, rfl, h, k⟩ := arg_act W ok0 h0
  obtain ⟨y, tb, td, rfl, _, k'⟩ := arg_act W ok1 h1
  obtain ⟨a, cap, l, rfl, h''⟩ := arg_bts W ok2 h2
  exact law_calls (stops_c W x y ta tb tc td h k k' a cap l h'') rfl
end
end Go.Proofs.Ythmopeddbpoakaa
