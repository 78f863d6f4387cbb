import Derived.Test.YtfehjfoajlfhfaaGreatDoorQl
import Derived.Test.YtfehjfoajlfhfaaGreatDoorQm
import Derived.Test.YtfehjfoajlfhfaaGreatDoorQb
namespace Go.Proofs.YtfehjfoajlfhfaaGreatDoor
open Go.Sx
set_option maxRecDepth 100000
set_option pp.deepTerms false
set_option pp.maxSteps 300
set_option linter.unusedSimpArgs false
set_option linter.unusedVariables false
section
/- The document's header: filler, bytes of a command. -/
attribute [local irreducible] macD deriveS strS streamH
end
section
/- The document's header: bytes of a command; secrets. -/
attribute [local irreducible] macD deriveS strS streamH sharedS chainS timesS pointS publicS blindH
end
section
/- The document's header: Build. -/
attribute [local irreducible] macD deriveS strS streamH sharedS chainS timesS pointS publicS blindH agreeS routeS
end
end Go.Proofs.YtfehjfoajlfhfaaGreatDoor
