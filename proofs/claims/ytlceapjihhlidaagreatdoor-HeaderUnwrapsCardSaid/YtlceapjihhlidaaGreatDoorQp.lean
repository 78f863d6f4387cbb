import Derived.Test.YtlceapjihhlidaaGreatDoorQo
import Derived.Test.YtlceapjihhlidaaGreatDoorQm
namespace Go.Proofs.YtlceapjihhlidaaGreatDoor
open Go.Sx
set_option maxRecDepth 100000
set_option pp.deepTerms false
set_option pp.maxSteps 300
set_option linter.unusedSimpArgs false
set_option linter.unusedVariables false
section
/- header: the law Bytes, walked: bytes that are a header (printed by gen/bytes10.py ok). -/
attribute [local irreducible] macD deriveS strS streamH sharedS chainS timesS pointS publicS blindH openB proofH decC routeS fillerH buildS unwrapS tagH leB unwrap1 unwrap2 unwrap3 agreeS
end
section
/- header: the law Bytes, walked: other bytes (printed by gen/bytes10.py no). -/
attribute [local irreducible] macD deriveS strS streamH sharedS chainS timesS pointS publicS blindH openB proofH decC routeS fillerH buildS unwrapS tagH leB unwrap1 unwrap2 unwrap3 agreeS
end
section
/- header: the laws Builds, Unwraps, Bytes at any arguments. -/
open Go.RowKit (Below)
section
variable {H : Type} {enc : TypeId × Value → H} {base : Nat} {v0 v1 v2 : Value} {d0 d1 d2 : DataW H} {p0 p1 p2 : List MemPlace}
theorem headerUnwraps_law (W : World) (hL : laidMetH Tryz.prog kLaid W) (ok0 : Value.okWide Tryz.prog W .any base 23 v0) (ok1 : Value.okWide Tryz.prog W .any base 31 v1)
    (h0 : DataW.Trod enc Tryz.prog W 0 (fun _ => true) true 23 v0 d0 p0) (h1 : DataW.Trod enc Tryz.prog W 0 (fun _ => true) true 31 v1 d1 p1) :
    Calls Tryz.prog 4 #[v0, v1] W fun e w' => e = .returned (.bool true) ∧ Below W.heap.size W w' := by
  obtain ⟨k, rfl, hk⟩ := arg_key W ok0 h0
  obtain ⟨h, rfl, ho⟩ := arg_hdr W ok1 h1
  exact law_calls (unwraps_c W (gl_of_laid hL) k hk h ho) rfl
end
end
end Go.Proofs.YtlceapjihhlidaaGreatDoor
