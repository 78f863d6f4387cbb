/- Segment: three laws at any arguments. -/
import Derived.Test.YtiimeklgjoclpaaGs
namespace Go.Proofs.Ytiimeklgjoclpaa
open Go.Sx
open Go.RowKit (Below)
set_option maxRecDepth 100000

def pcSh : Sh := .pair (.int .i64) (.pair (.int .i64) (.pair (.int .u32) (.pair (.int .i64) (.pair (.int .i64) (.pair .bytes (.pair .bytes .unit))))))
theorem w64 {n : Int} (h : (Lit.int .i64 n).wf = true) : -9223372036854775808 ≤ n ∧ n ≤ 9223372036854775807 := by
  simpa [Lit.wf, IntKind.min, IntKind.max, IntKind.signed, IntKind.bits] using h
theorem wu32 {n : Int} (h : (Lit.int .u32 n).wf = true) : 0 ≤ n ∧ n ≤ 4294967295 := by
  simpa [Lit.wf, IntKind.min, IntKind.max, IntKind.signed, IntKind.bits] using h
theorem pc_good {R : HProp} (z : pcSh.T) (cs : List Value) (h : Go.Sx.Good R pcSh z cs) : ∃ (c : Pc) (x y : AC), cs = dens [] (c.sg x y) ∧ c.wf ∧ Bts R x.1 x.2 c.b ∧ Bts R y.1 y.2 c.s := by
  obtain ⟨k, u, n, i, t, b, s, e⟩ := z
  obtain ⟨c1, c2, rfl, ⟨rfl, w1⟩, c3, c4, rfl, ⟨rfl, w2⟩, c5, c6, rfl, ⟨rfl, w3⟩, c7, c8, rfl, ⟨rfl, w4⟩, c9, c10, rfl, ⟨rfl, w5⟩, c11, c12, rfl, ⟨ta, tc, rfl, h1, h2⟩, c13, c14, rfl, ⟨ta', tc', rfl, h3, h4⟩, rfl⟩ := h
  exact ⟨⟨k, u, n, i, t, b, s⟩, (ta, tc), (ta', tc'), rfl, ⟨w64 w1, w64 w2, wu32 w3, w64 w4, w64 w5⟩, ⟨h2, h1.1, h1.2.2⟩, ⟨h4, h3.1, h3.2.2⟩⟩
theorem fitsB : Fits Try.prog .bytes 23 = true := by simp only [Fits, Try.underlying23, Try.underlying5]; kernel_rfl
theorem fitsI : Fits Try.prog (.int .i64) 3 = true := by simp only [Fits, Try.underlying3]; rfl
theorem fitsU : Fits Try.prog (.int .u32) 22 = true := by simp only [Fits, Try.underlying22]; rfl
theorem fitsP : Fits Try.prog pcSh 25 = true := by simp only [Fits, FitsFs, pcSh, Try.underlying25, Try.underlying22, Try.underlying3, Try.underlying23, Try.underlying5]; kernel_rfl
section
variable {H : Type} {enc : TypeId × Value → H} {base : Nat} {v0 v1 v2 : Value} {d0 d1 d2 : DataW H} {p0 p1 p2 : List MemPlace}
theorem arg_pc (W : World) (ok0 : Value.okWide Try.prog W .any base 25 v0) (h0 : DataW.Trod enc Try.prog W 0 (fun _ => true) true 25 v0 d0 p0) :
    ∃ (c : Pc) (x y : AC), v0 = (SV.agg (c.sg x y)).den [] ∧ c.wf ∧ Bts (old W) x.1 x.2 c.b ∧ Bts (old W) y.1 y.2 c.s := by
  obtain ⟨z, cs, rfl, h⟩ := arg_agg (s := pcSh) ⟨_, _, .inl rfl⟩ fitsP ok0 h0
  obtain ⟨c, x, y, rfl, h2⟩ := pc_good z cs h
  exact ⟨c, x, y, rfl, h2⟩
theorem arg_bts (W : World) (ok0 : Value.okWide Try.prog W .any base 23 v0) (h0 : DataW.Trod enc Try.prog W 0 (fun _ => true) true 23 v0 d0 p0) :
    ∃ (a : AC) (l : List UInt8), v0 = .slice a.1 l.length a.2 ∧ Bts (old W) a.1 a.2 l := by
  obtain ⟨a, cap, l, rfl, h1, h⟩ := arg_bytes fitsB ok0 h0
  exact ⟨(a, cap), l, rfl, h, h1.1, h1.2.2⟩
theorem segmentRooms_law (W : World) (ok0 : Value.okWide Try.prog W .any base 25 v0) (ok1 : Value.okWide Try.prog W .any base 23 v1) (h0 : DataW.Trod enc Try.prog W 0 (fun _ => true) true 25 v0 d0 p0) (h1 : DataW.Trod enc Try.prog W 0 (fun _ => true) true 23 v1 d1 p1) :
    Calls Try.prog 3 #[v0, v1] W fun e w' => e = .returned (.bool true) ∧ Below W.heap.size W w' := by
  obtain ⟨c, x, y, rfl, hw, hx, hy⟩ := arg_pc W ok0 h0
  obtain ⟨a, b, rfl, hb⟩ := arg_bts W ok1 h1
  exact law_calls (rooms_c W c x y hw hx hy a b hb) rfl
theorem segmentBack_law (W : World) (ok0 : Value.okWide Try.prog W .any base 25 v0) (ok1 : Value.okWide Try.prog W .any base 23 v1) (h0 : DataW.Trod enc Try.prog W 0 (fun _ => true) true 25 v0 d0 p0) (h1 : DataW.Trod enc Try.prog W 0 (fun _ => true) true 23 v1 d1 p1) :
    Calls Try.prog 5 #[v0, v1] W fun e w' => e = .returned (.bool true) ∧ Below W.heap.size W w' := by
  obtain ⟨c, x, y, rfl, hw, hx, hy⟩ := arg_pc W ok0 h0
  obtain ⟨a, b, rfl, hb⟩ := arg_bts W ok1 h1
  exact law_calls (back_c W c x y hw hx hy a b hb) rfl
theorem segmentCuts_law (W : World) (ok0 : Value.okWide Try.prog W .any base 3 v0) (ok1 : Value.okWide Try.prog W .any base 22 v1) (ok2 : Value.okWide Try.prog W .any base 23 v2) (h0 : DataW.Trod enc Try.prog W 0 (fun _ => true) true 3 v0 d0 p0) (h1 : DataW.Trod enc Try.prog W 0 (fun _ => true) true 22 v1 d1 p1) (h2 : DataW.Trod enc Try.prog W 0 (fun _ => true) true 23 v2 d2 p2) :
    Calls Try.prog 4 #[v0, v1, v2] W fun e w' => e = .returned (.bool true) ∧ Below W.heap.size W w' := by
  obtain ⟨u, rfl, _⟩ := arg_int (k := .i64) fitsI ok0 h0
  obtain ⟨n, rfl, hn⟩ := arg_int (k := .u32) fitsU ok1 h1
  obtain ⟨a, b, rfl, hb⟩ := arg_bts W ok2 h2
  exact law_calls (cuts_c W u n (wu32 hn) a b hb) rfl
end
end Go.Proofs.Ytiimeklgjoclpaa
