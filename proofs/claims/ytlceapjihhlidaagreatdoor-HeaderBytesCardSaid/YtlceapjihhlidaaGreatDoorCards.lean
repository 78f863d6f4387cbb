/-
  DERIVED. GIVEN WITH THE SEED: THE CARDS: each row of YtlceapjihhlidaaGreatDoorRows.lean that lists a variable, with what it lists TIED to the program's text (the seventh form; the later family's looks); each row that meets fmt, with fmt's text TOLD by the authors' own Lean function (tested against real Go, not proved from fmt's source: count such statements apart). THE CARD IS WHAT COUNTS. Prove the row's statement (the work); the ties are given (YtlceapjihhlidaaGreatDoorTie.lean); close each card by the builder's one call (the guide's Derived/Test/ToyasCard.lean, 'card_holds'). Laid BY PROGRAM, IN A SANDBOX (cutbox-door.mjs). By AI agents, Wed Nov 11 2026. No macro, syntax, notation, axiom, sorry.
-/
import Derived.Test.YtlceapjihhlidaaGreatDoorRows
import GoSem.ClaimSeven
namespace Go.Proofs.YtlceapjihhlidaaGreatDoor
namespace Rows

/-- THE TIED CARD OF 'pigeonrylaw10.HeaderBuilds'. -/
def headerBuildsCard : Claim7 := { stood := { row := headerBuildsRow, standIns := [], harness := (true, "ea51c9fcbced7d0f35863dcaab3a8d343c4e3b122ee538b1d415a15e6f197276"), looks := false }, kinds := [], alts := [], laidByText := true, laidKinds := [.data], laidTests := true, laidLooks := .later }
def HeaderBuildsCardSaid : Prop := Claim7.holds Tryz.pinned (.plain (OpenSpec.ofChange headerBuildsSpec)) headerBuildsCard

/-- THE TIED CARD OF 'pigeonrylaw10.HeaderUnwraps'. -/
def headerUnwrapsCard : Claim7 := { stood := { row := headerUnwrapsRow, standIns := [], harness := (true, "ea51c9fcbced7d0f35863dcaab3a8d343c4e3b122ee538b1d415a15e6f197276"), looks := false }, kinds := [], alts := [], laidByText := true, laidKinds := [.data], laidTests := true, laidLooks := .later }
def HeaderUnwrapsCardSaid : Prop := Claim7.holds Tryz.pinned (.plain (OpenSpec.ofChange headerUnwrapsSpec)) headerUnwrapsCard

/-- THE TIED CARD OF 'pigeonrylaw10.HeaderBytes'. -/
def headerBytesCard : Claim7 := { stood := { row := headerBytesRow, standIns := [], harness := (true, "ea51c9fcbced7d0f35863dcaab3a8d343c4e3b122ee538b1d415a15e6f197276"), looks := false }, kinds := [], alts := [], laidByText := true, laidKinds := [.data], laidTests := true, laidLooks := .later }
def HeaderBytesCardSaid : Prop := Claim7.holds Tryz.pinned (.plain (OpenSpec.ofChange headerBytesSpec)) headerBytesCard

/-- THE SECOND FORM's CARD OF 'pigeonrylaw10.HeaderBuilds'. -/
def headerBuildsUptoCard : Claim7 := { stood := { row := headerBuildsUptoRow, standIns := [], harness := (true, "ea51c9fcbced7d0f35863dcaab3a8d343c4e3b122ee538b1d415a15e6f197276"), looks := false }, kinds := [], alts := [], laidByText := true, laidKinds := [.data], laidTests := true, laidLooks := .later }
def HeaderBuildsUptoCardSaid : Prop := Claim7.holds Tryz.pinned (.plain (OpenSpec.upto headerBuildsSpec)) headerBuildsUptoCard

/-- THE SECOND FORM's CARD OF 'pigeonrylaw10.HeaderUnwraps'. -/
def headerUnwrapsUptoCard : Claim7 := { stood := { row := headerUnwrapsUptoRow, standIns := [], harness := (true, "ea51c9fcbced7d0f35863dcaab3a8d343c4e3b122ee538b1d415a15e6f197276"), looks := false }, kinds := [], alts := [], laidByText := true, laidKinds := [.data], laidTests := true, laidLooks := .later }
def HeaderUnwrapsUptoCardSaid : Prop := Claim7.holds Tryz.pinned (.plain (OpenSpec.upto headerUnwrapsSpec)) headerUnwrapsUptoCard

/-- THE SECOND FORM's CARD OF 'pigeonrylaw10.HeaderBytes'. -/
def headerBytesUptoCard : Claim7 := { stood := { row := headerBytesUptoRow, standIns := [], harness := (true, "ea51c9fcbced7d0f35863dcaab3a8d343c4e3b122ee538b1d415a15e6f197276"), looks := false }, kinds := [], alts := [], laidByText := true, laidKinds := [.data], laidTests := true, laidLooks := .later }
def HeaderBytesUptoCardSaid : Prop := Claim7.holds Tryz.pinned (.plain (OpenSpec.upto headerBytesSpec)) headerBytesUptoCard
end Rows
end Go.Proofs.YtlceapjihhlidaaGreatDoor
