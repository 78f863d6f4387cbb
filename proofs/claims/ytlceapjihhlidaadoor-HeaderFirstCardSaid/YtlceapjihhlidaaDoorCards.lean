/-
  DERIVED. GIVEN WITH THE SEED: THE CARDS: each row of YtlceapjihhlidaaDoorRows.lean that lists a variable, with what it lists TIED to the program's text (the seventh form; the later family's looks); each row that meets fmt, with fmt's text TOLD by the authors' own Lean function (tested against real Go, not proved from fmt's source: count such statements apart). THE CARD IS WHAT COUNTS. Prove the row's statement (the work); the ties are given (YtlceapjihhlidaaDoorTie.lean); close each card by the builder's one call (the guide's Derived/Test/ToyasCard.lean, 'card_holds'). Laid BY PROGRAM, IN A SANDBOX (cutbox-door.mjs). By AI agents, Wed Nov 11 2026. No macro, syntax, notation, axiom, sorry.
-/
import Derived.Test.YtlceapjihhlidaaDoorRows
import GoSem.ClaimSeven
namespace Go.Proofs.YtlceapjihhlidaaDoor
namespace Rows

/-- THE TIED CARD OF 'pigeonrylaw10.HeaderOne'. -/
def headerOneCard : Claim7 := { stood := { row := headerOneRow, standIns := [], harness := (true, "9868fb72a235932e373ad4de33ac7bfe0bc9dde8266ddca4eeb2ae97d6a11191"), looks := false }, kinds := [], alts := [], laidByText := true, laidKinds := [.data], laidTests := true, laidLooks := .later }
def HeaderOneCardSaid : Prop := Claim7.holds Tryd.pinned (.plain (OpenSpec.ofChange headerOneSpec)) headerOneCard

/-- THE TIED CARD OF 'pigeonrylaw10.HeaderProved'. -/
def headerProvedCard : Claim7 := { stood := { row := headerProvedRow, standIns := [], harness := (true, "9868fb72a235932e373ad4de33ac7bfe0bc9dde8266ddca4eeb2ae97d6a11191"), looks := false }, kinds := [], alts := [], laidByText := true, laidKinds := [.data], laidTests := true, laidLooks := .later }
def HeaderProvedCardSaid : Prop := Claim7.holds Tryd.pinned (.plain (OpenSpec.ofChange headerProvedSpec)) headerProvedCard

/-- THE TIED CARD OF 'pigeonrylaw10.HeaderFirst'. -/
def headerFirstCard : Claim7 := { stood := { row := headerFirstRow, standIns := [], harness := (true, "9868fb72a235932e373ad4de33ac7bfe0bc9dde8266ddca4eeb2ae97d6a11191"), looks := false }, kinds := [], alts := [], laidByText := true, laidKinds := [.data], laidTests := true, laidLooks := .later }
def HeaderFirstCardSaid : Prop := Claim7.holds Tryd.pinned (.plain (OpenSpec.ofChange headerFirstSpec)) headerFirstCard

/-- THE SECOND FORM's CARD OF 'pigeonrylaw10.HeaderOne'. -/
def headerOneUptoCard : Claim7 := { stood := { row := headerOneUptoRow, standIns := [], harness := (true, "9868fb72a235932e373ad4de33ac7bfe0bc9dde8266ddca4eeb2ae97d6a11191"), looks := false }, kinds := [], alts := [], laidByText := true, laidKinds := [.data], laidTests := true, laidLooks := .later }
def HeaderOneUptoCardSaid : Prop := Claim7.holds Tryd.pinned (.plain (OpenSpec.upto headerOneSpec)) headerOneUptoCard

/-- THE SECOND FORM's CARD OF 'pigeonrylaw10.HeaderProved'. -/
def headerProvedUptoCard : Claim7 := { stood := { row := headerProvedUptoRow, standIns := [], harness := (true, "9868fb72a235932e373ad4de33ac7bfe0bc9dde8266ddca4eeb2ae97d6a11191"), looks := false }, kinds := [], alts := [], laidByText := true, laidKinds := [.data], laidTests := true, laidLooks := .later }
def HeaderProvedUptoCardSaid : Prop := Claim7.holds Tryd.pinned (.plain (OpenSpec.upto headerProvedSpec)) headerProvedUptoCard

/-- THE SECOND FORM's CARD OF 'pigeonrylaw10.HeaderFirst'. -/
def headerFirstUptoCard : Claim7 := { stood := { row := headerFirstUptoRow, standIns := [], harness := (true, "9868fb72a235932e373ad4de33ac7bfe0bc9dde8266ddca4eeb2ae97d6a11191"), looks := false }, kinds := [], alts := [], laidByText := true, laidKinds := [.data], laidTests := true, laidLooks := .later }
def HeaderFirstUptoCardSaid : Prop := Claim7.holds Tryd.pinned (.plain (OpenSpec.upto headerFirstSpec)) headerFirstUptoCard
end Rows
end Go.Proofs.YtlceapjihhlidaaDoor
