import Derived.Test.YtfehjfoajlfhfaaGreatDoorQn
import Derived.Test.YtfehjfoajlfhfaaGreatDoorQm
namespace Go.Proofs.YtfehjfoajlfhfaaGreatDoor
open Go.Sx
set_option maxRecDepth 100000
set_option pp.deepTerms false
set_option pp.maxSteps 300
set_option linter.unusedSimpArgs false
set_option linter.unusedVariables false
section
attribute [local irreducible] macD q01 strS q05 q00 q03 q0h q07 q06 q08 openB q0p decC tagH q0w q0x q0v q0f
theorem Con.map {P : Program} {f : Nat} {args : List SV} {qc : List Cel} {pre : List HP} {A : HP} {τ τ' : Type} {p : τ → Prop} {val : τ → SV} {qc' : τ → List Cel} {post : τ → List HP}
    {p2 : τ' → Prop} {val2 : τ' → SV} {qc2 : τ' → List Cel} {post2 : τ' → List HP} (C : Con P f args qc pre A p val qc' post) (g : τ → τ') (h : ∀ t,p t → p2 (g t) ∧ val t = val2 (g t) ∧ qc' t = qc2 (g t) ∧ post t = post2 (g t)) :
    Con P f args qc pre A p2 val2 qc2 post2 :=
  ⟨C.runs,fun w hs=>(C.h w hs).mono (by
    rintro e w' ⟨t,hp,he,hv,hq,hs'⟩;obtain ⟨h1,h2,h3,h4⟩:=h t hp;exact ⟨g t,h1,by rw [← h2];exact he,by rw [← h2];exact hv,by rw [← h3];exact hq,by rw [← h3,← h4];exact hs'⟩)⟩
end
section
end
section
attribute [local irreducible] macD q01 strS q05 q00 q03 q0h q07 q06 q08 openB q0p decC q0j q13 q0g q0f tagH leB q0w q0x q0v q0a
theorem qfp {R : HP} {a : Option Addr} : Rd R a []:=fun _ _=>.inl rfl
end
section
attribute [local irreducible] macD q01 strS q05 q00 q03 q0h q07 q06 q08 openB q0p decC q0j q13 q0g q0f tagH leB q0w q0x q0v q0a
end
end Go.Proofs.YtfehjfoajlfhfaaGreatDoor
