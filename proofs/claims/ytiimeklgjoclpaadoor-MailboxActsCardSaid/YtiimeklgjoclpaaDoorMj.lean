/- The law at any argument: bytes that were put, or fetched, may be written over. -/
import Derived.Test.YtiimeklgjoclpaaDoorMi
namespace Go.Proofs.YtiimeklgjoclpaaDoor
open Go.Sx
open Go.RowKit (Below)
set_option maxRecDepth 100000
set_option linter.unusedVariables false

section
variable {H : Type} {enc : TypeId × Value → H} {base : Nat} {v0 v1 v2 : Value} {d0 d1 d2 : DataW H} {p0 p1 p2 : List MemPlace}
theorem arg_mac (W : World) (ok0 : Value.okWide Tryd.prog W .any base 36 v0) (h0 : DataW.Trod enc Tryd.prog W 0 (fun _ => true) true 36 v0 d0 p0) :
    ∃ (y : Ma) (ta : Option Addr) (tc : Nat), v0 = (SV.agg (y.sg ta tc)).den [] ∧ Bts (old W) ta tc y.b ∧ y.ok := by
  obtain ⟨x, cs, rfl, h⟩ := arg_agg (s := macSh) ⟨_, _, .inl rfl⟩ fitsMac ok0 h0
  obtain ⟨ta, tc, h1, h2, h3⟩ := mac_good x cs h
  exact ⟨macOf x, ta, tc, by rw [h1]; rfl, h2, h3⟩
theorem mailboxOwn_law (W : World) (hL : laidMetH Tryd.prog kLaid W) (ok0 : Value.okWide Tryd.prog W .any base 36 v0)
    (h0 : DataW.Trod enc Tryd.prog W 0 (fun _ => true) true 36 v0 d0 p0) :
    Calls Tryd.prog 6 #[v0] W fun e w' => e = .returned (.bool true) ∧ Below W.heap.size W w' := by
  obtain ⟨y, ta, tc, rfl, hb, hok⟩ := arg_mac W ok0 h0
  exact law_calls (own_c W (gl_of_laid hL) y ta tc hb hok) rfl
end
end Go.Proofs.YtiimeklgjoclpaaDoor
