import Derived.Test.YtfehjfoajlfhfaaGreatDoorQl
import Derived.Test.YtfehjfoajlfhfaaGreatDoorQm
import Derived.Test.YtfehjfoajlfhfaaGreatDoorQb
namespace Go.Proofs.YtfehjfoajlfhfaaGreatDoor
open Go.Sx
set_option maxRecDepth 100000
set_option pp.deepTerms false
set_option pp.maxSteps 300
set_option linter.unusedSimpArgs false
set_option linter.unusedVariables false
section
attribute [local irreducible] macD q01 strS q05
end
section
attribute [local irreducible] macD q01 strS q05 q00 q03 q0h q07 q06 q08
end
section
attribute [local irreducible] macD q01 strS q05 q00 q03 q0h q07 q06 q08 q0a q0j
end
end Go.Proofs.YtfehjfoajlfhfaaGreatDoor
