/- The four laws of commands at any arguments. -/
import Derived.Test.YthmopeddbpoakaaCe
namespace Go.Proofs.Ythmopeddbpoakaa
open Go.Sx
open Go.RowKit (Below)
set_option maxRecDepth 100000

section
variable {H : Type} {enc : TypeId × Value → H} {base : Nat} {v0 v1 : Value} {d0 d1 : DataW H} {p0 p1 : List MemPlace}
theorem arg_cmd (W : World) (ok0 : Value.okWide Try.prog W .any base 72 v0) (h0 : DataW.Trod enc Try.prog W 0 (fun _ => true) true 72 v0 d0 p0) :
    ∃ c : Cmd, v0 = (SV.agg c.sg).den [] ∧ c.ok := by
  obtain ⟨x, cs, rfl, h⟩ := arg_agg (s := cmdSh) ⟨_, _, .inl rfl⟩ fitsCmd ok0 h0
  obtain ⟨k, n, d, id, u⟩ := x
  obtain ⟨c1, c2, rfl, ⟨rfl, w1⟩, c3, c4, rfl, ⟨rfl, w2⟩, c5, c6, rfl, ⟨rfl, w3⟩, c7, c8, rfl, ⟨h4, rfl⟩, rfl⟩ := h
  exact ⟨⟨k, n, d, id⟩, rfl, ⟨w1, w2, w3⟩, h4⟩
theorem arg_16 (W : World) (ok0 : Value.okWide Try.prog W .any base 73 v0) (h0 : DataW.Trod enc Try.prog W 0 (fun _ => true) true 73 v0 d0 p0) :
    ∃ b : List UInt8, v0 = (SV.agg [.many 16 (u8s b)]).den [] ∧ b.length = 16 := by
  obtain ⟨x, cs, rfl, h⟩ := arg_agg (s := .barr 16) ⟨.unit, .unit, .inr ⟨16, .inl rfl⟩⟩ fitsBarr16 ok0 h0
  obtain ⟨h1, rfl⟩ := h
  exact ⟨x, by show _ = Value.agg (u8s x ++ []).toArray; rw [List.append_nil], h1⟩
theorem commandEncodes_law (W : World) (ok0 : Value.okWide Try.prog W .any base 72 v0) (h0 : DataW.Trod enc Try.prog W 0 (fun _ => true) true 72 v0 d0 p0) :
    Calls Try.prog 8 #[v0] W fun e w' => e = .returned (.bool true) ∧ Below W.heap.size W w' := by
  obtain ⟨c, rfl, h⟩ := arg_cmd W ok0 h0
  exact law_calls (encodes9_c W c h) rfl
theorem commandDecodes_law (W : World) (ok0 : Value.okWide Try.prog W .any base 73 v0) (h0 : DataW.Trod enc Try.prog W 0 (fun _ => true) true 73 v0 d0 p0) :
    Calls Try.prog 9 #[v0] W fun e w' => e = .returned (.bool true) ∧ Below W.heap.size W w' := by
  obtain ⟨b, rfl, h⟩ := arg_16 W ok0 h0
  exact law_calls (decodes9_c W b h) rfl
theorem commandBack_law (W : World) (ok0 : Value.okWide Try.prog W .any base 72 v0) (ok1 : Value.okWide Try.prog W .any base 73 v1) (h0 : DataW.Trod enc Try.prog W 0 (fun _ => true) true 72 v0 d0 p0) (h1 : DataW.Trod enc Try.prog W 0 (fun _ => true) true 73 v1 d1 p1) :
    Calls Try.prog 10 #[v0, v1] W fun e w' => e = .returned (.bool true) ∧ Below W.heap.size W w' := by
  obtain ⟨c, rfl, h⟩ := arg_cmd W ok0 h0
  obtain ⟨b, rfl, h'⟩ := arg_16 W ok1 h1
  exact law_calls (back9_c W c h b h') rfl
theorem commandApart_law (W : World) (ok0 : Value.okWide Try.prog W .any base 72 v0) (ok1 : Value.okWide Try.prog W .any base 72 v1) (h0 : DataW.Trod enc Try.prog W 0 (fun _ => true) true 72 v0 d0 p0) (h1 : DataW.Trod enc Try.prog W 0 (fun _ => true) true 72 v1 d1 p1) :
    Calls Try.prog 11 #[v0, v1] W fun e w' => e = .returned (.bool true) ∧ Below W.heap.size W w' := by
  obtain ⟨c, rfl, h⟩ := arg_cmd W ok0 h0
  obtain ⟨d, rfl, h'⟩ := arg_cmd W ok1 h1
  exact law_calls (apart9_c W c d h h') rfl
end
end Go.Proofs.Ythmopeddbpoakaa
