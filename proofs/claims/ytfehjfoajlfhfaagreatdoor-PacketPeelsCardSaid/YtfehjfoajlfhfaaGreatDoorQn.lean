import Derived.Test.YtfehjfoajlfhfaaGreatDoorQl
import Derived.Test.YtfehjfoajlfhfaaGreatDoorQm
import Derived.Test.YtfehjfoajlfhfaaGreatDoorQb
namespace Go.Proofs.YtfehjfoajlfhfaaGreatDoor
open Go.Sx
set_option maxRecDepth 100000
set_option pp.deepTerms false
set_option pp.maxSteps 300
set_option linter.unusedSimpArgs false
set_option linter.unusedVariables false
section
attribute [local irreducible] macD q02 strS q05
end
section
attribute [local irreducible] macD q02 strS q05 q00 q04 q0f q06 q0a q08
end
section
attribute [local irreducible] macD q02 strS q05 q00 q04 q0f q06 q0a q08 q0e q0s
end
end Go.Proofs.YtfehjfoajlfhfaaGreatDoor
