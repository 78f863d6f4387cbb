/- Segment: three more laws at any arguments. -/
import Derived.Test.YtiimeklgjoclpaaId
namespace Go.Proofs.Ytiimeklgjoclpaa
open Go.Sx
open Go.RowKit (Below)
set_option maxRecDepth 100000

def actSh : Sh := .pair (.int .u8) (.pair (.int .i64) (.pair pcSh .unit))
theorem w8 {n : Int} (h : (Lit.int .u8 n).wf = true) : 0 ≤ n ∧ n ≤ 255 := by
  simpa [Lit.wf, IntKind.min, IntKind.max, IntKind.signed, IntKind.bits] using h
theorem act_good {R : HProp} (z : actSh.T) (cs : List Value) (h : Go.Sx.Good R actSh z cs) : ∃ t : Act, ActR R t cs := by
  obtain ⟨k, now, p, e⟩ := z
  obtain ⟨c1, c2, rfl, ⟨rfl, w1⟩, c3, c4, rfl, ⟨rfl, w2⟩, c5, c6, rfl, hp, rfl⟩ := h
  obtain ⟨c, x, y, rfl, hw, hx, hy⟩ := pc_good p c5 hp
  exact ⟨⟨k, now, c⟩, x, y, rfl, hx, hy, hw, (w8 w1).1, (w8 w1).2⟩
noncomputable def actOf (z : actSh.T) : Act := ⟨z.1, z.2.1, ⟨z.2.2.1.1, z.2.2.1.2.1, z.2.2.1.2.2.1, z.2.2.1.2.2.2.1, z.2.2.1.2.2.2.2.1, z.2.2.1.2.2.2.2.2.1, z.2.2.1.2.2.2.2.2.2.1⟩⟩
theorem act_of {R : HProp} (z : actSh.T) (cs : List Value) (h : Go.Sx.Good R actSh z cs) : ActR R (actOf z) cs := by
  obtain ⟨k, now, ⟨pk, u, n, i, t, b, s, e2⟩, e⟩ := z
  obtain ⟨c1, c2, rfl, ⟨rfl, w1⟩, c3, c4, rfl, ⟨rfl, w2⟩, c5, c6, rfl, hp, rfl⟩ := h
  obtain ⟨d1, d2, rfl, ⟨rfl, v1⟩, d3, d4, rfl, ⟨rfl, v2⟩, d5, d6, rfl, ⟨rfl, v3⟩, d7, d8, rfl, ⟨rfl, v4⟩, d9, d10, rfl, ⟨rfl, v5⟩, d11, d12, rfl, ⟨ta, tc, rfl, h1, h2⟩, d13, d14, rfl, ⟨ta', tc', rfl, h3, h4⟩, rfl⟩ := hp
  exact ⟨(ta, tc), (ta', tc'), rfl, ⟨h2, h1.1, h1.2.2⟩, ⟨h4, h3.1, h3.2.2⟩, ⟨w64 v1, w64 v2, wu32 v3, w64 v4, w64 v5⟩, (w8 w1).1, (w8 w1).2⟩
theorem fitsAct : Fits Try.prog actSh 62 = true := by simp only [Fits, FitsFs, actSh, pcSh, Try.underlying62, Try.underlying25, Try.underlying22, Try.underlying3, Try.underlying23, Try.underlying5]; kernel_rfl
theorem fitsActs : Fits Try.prog (.slice actSh) 57 = true := by simp only [Fits, FitsFs, actSh, pcSh, Try.underlying57, Try.underlying62, Try.underlying25, Try.underlying22, Try.underlying3, Try.underlying23, Try.underlying5]; kernel_rfl
section
variable {H : Type} {enc : TypeId × Value → H} {base : Nat} {v0 v1 v2 : Value} {d0 d1 d2 : DataW H} {p0 p1 p2 : List MemPlace}
theorem arg_acts (W : World) (ok0 : Value.okWide Try.prog W .any base 57 v0) (h0 : DataW.Trod enc Try.prog W 0 (fun _ => true) true 57 v0 d0 p0) :
    ∃ a cap l, v0 = .slice a l.length cap ∧ Row (old W) a 9 (ActR (old W)) l := by
  obtain ⟨a, cap, l, rfl, _, h⟩ := arg_slice (s := actSh) fitsActs ok0 h0
  refine ⟨a, cap, l.map actOf, by rw [List.length_map], ?_⟩
  exact (Vals.row h).map actOf act_of
theorem segmentTakes_law (W : World) (ok0 : Value.okWide Try.prog W .any base 3 v0) (ok1 : Value.okWide Try.prog W .any base 57 v1) (h0 : DataW.Trod enc Try.prog W 0 (fun _ => true) true 3 v0 d0 p0) (h1 : DataW.Trod enc Try.prog W 0 (fun _ => true) true 57 v1 d1 p1) :
    Calls Try.prog 7 #[v0, v1] W fun e w' => e = .returned (.bool true) ∧ Below W.heap.size W w' := by
  obtain ⟨n, rfl, _⟩ := arg_int (k := .i64) fitsI ok0 h0
  obtain ⟨a, cap, l, rfl, h⟩ := arg_acts W ok1 h1
  exact law_calls (takes_c W n a cap l h) rfl
theorem segmentWhole_law (W : World) (ok0 : Value.okWide Try.prog W .any base 23 v0) (ok1 : Value.okWide Try.prog W .any base 23 v1) (h0 : DataW.Trod enc Try.prog W 0 (fun _ => true) true 23 v0 d0 p0) (h1 : DataW.Trod enc Try.prog W 0 (fun _ => true) true 23 v1 d1 p1) :
    Calls Try.prog 6 #[v0, v1] W fun e w' => e = .returned (.bool true) ∧ Below W.heap.size W w' := by
  obtain ⟨a, b, rfl, hb⟩ := arg_bts W ok0 h0
  obtain ⟨a', o, rfl, ho⟩ := arg_bts W ok1 h1
  exact law_calls (wholes_c W a b hb a' o ho) rfl
theorem segmentNobody_law (W : World) (ok0 : Value.okWide Try.prog W .any base 62 v0) (h0 : DataW.Trod enc Try.prog W 0 (fun _ => true) true 62 v0 d0 p0) :
    Calls Try.prog 8 #[v0] W fun e w' => e = .returned (.bool true) ∧ Below W.heap.size W w' := by
  obtain ⟨z, cs, rfl, h⟩ := arg_agg (s := actSh) ⟨_, _, .inl rfl⟩ fitsAct ok0 h0
  obtain ⟨x, y, rfl, hx, hy, _⟩ := act_of z cs h
  exact law_calls (nobody_c W (actOf z) x y hx hy) rfl
end
end Go.Proofs.Ytiimeklgjoclpaa
