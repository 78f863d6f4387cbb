/-
  DERIVED. GIVEN WITH THE SEED: THE CARDS: each row of YtckkhagclfmmdaaDoorRows.lean that lists a variable, with what it lists TIED to the program's text (the seventh form; the later family's looks); each row that meets fmt, with fmt's text TOLD by the authors' own Lean function (tested against real Go, not proved from fmt's source: count such statements apart). THE CARD IS WHAT COUNTS. Prove the row's statement (the work); the ties are given (YtckkhagclfmmdaaDoorTie.lean); close each card by the builder's one call (the guide's Derived/Test/ToyasCard.lean, 'card_holds'). Laid BY PROGRAM, IN A SANDBOX (cutbox-door.mjs). By AI agents, Wed Nov 11 2026. No macro, syntax, notation, axiom, sorry.
-/
import Derived.Test.YtckkhagclfmmdaaDoorRows
import GoSem.ClaimSeven
namespace Go.Proofs.YtckkhagclfmmdaaDoor
namespace Rows

/-- THE TIED CARD OF 'pigeonrylaw10.HeaderRoute'. -/
def headerRouteCard : Claim7 := { stood := { row := headerRouteRow, standIns := [], harness := (true, "609aeeb6e42ce3a7c7309bf5266934949b1eb47d9e6bca65311d66a69d796fd3"), looks := false }, kinds := [], alts := [], laidByText := true, laidKinds := [.data], laidTests := true, laidLooks := .later }
def HeaderRouteCardSaid : Prop := Claim7.holds Tryd.pinned (.plain (OpenSpec.ofChange headerRouteSpec)) headerRouteCard

/-- THE SECOND FORM's CARD OF 'pigeonrylaw10.HeaderRoute'. -/
def headerRouteUptoCard : Claim7 := { stood := { row := headerRouteUptoRow, standIns := [], harness := (true, "609aeeb6e42ce3a7c7309bf5266934949b1eb47d9e6bca65311d66a69d796fd3"), looks := false }, kinds := [], alts := [], laidByText := true, laidKinds := [.data], laidTests := true, laidLooks := .later }
def HeaderRouteUptoCardSaid : Prop := Claim7.holds Tryd.pinned (.plain (OpenSpec.upto headerRouteSpec)) headerRouteUptoCard
end Rows
end Go.Proofs.YtckkhagclfmmdaaDoor
