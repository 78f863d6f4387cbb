/-
  DERIVED. GIVEN WITH THE SEED: THE CARDS: each row of YtfehjfoajlfhfaaGreatDoorRows.lean that lists a variable, with what it lists TIED to the program's text (the seventh form; the later family's looks); each row that meets fmt, with fmt's text TOLD by the authors' own Lean function (tested against real Go, not proved from fmt's source: count such statements apart). THE CARD IS WHAT COUNTS. Prove the row's statement (the work); the ties are given (YtfehjfoajlfhfaaGreatDoorTie.lean); close each card by the builder's one call (the guide's Derived/Test/ToyasCard.lean, 'card_holds'). Laid BY PROGRAM, IN A SANDBOX (cutbox-door.mjs). By AI agents, Wed Nov 11 2026. No macro, syntax, notation, axiom, sorry.
-/
import Derived.Test.YtfehjfoajlfhfaaGreatDoorRows
import GoSem.ClaimSeven
namespace Go.Proofs.YtfehjfoajlfhfaaGreatDoor
namespace Rows

/-- THE TIED CARD OF 'pigeonrylaw11.PacketPeels'. -/
def packetPeelsCard : Claim7 := { stood := { row := packetPeelsRow, standIns := [], harness := (true, "b404c56c0a96a94769529961166fe952f62f820631f6ce8be8375fbfe7c93e35"), looks := false }, kinds := [], alts := [], laidByText := true, laidKinds := [.data], laidTests := true, laidLooks := .later }
def PacketPeelsCardSaid : Prop := Claim7.holds Tryz.pinned (.plain (OpenSpec.ofChange packetPeelsSpec)) packetPeelsCard

/-- THE TIED CARD OF 'pigeonrylaw11.PacketSizes'. -/
def packetSizesCard : Claim7 := { stood := { row := packetSizesRow, standIns := [], harness := (true, "b404c56c0a96a94769529961166fe952f62f820631f6ce8be8375fbfe7c93e35"), looks := false }, kinds := [], alts := [], laidByText := true, laidKinds := [.data], laidTests := true, laidLooks := .later }
def PacketSizesCardSaid : Prop := Claim7.holds Tryz.pinned (.plain (OpenSpec.ofChange packetSizesSpec)) packetSizesCard

/-- THE TIED CARD OF 'pigeonrylaw11.PacketMakes'. -/
def packetMakesCard : Claim7 := { stood := { row := packetMakesRow, standIns := [], harness := (true, "b404c56c0a96a94769529961166fe952f62f820631f6ce8be8375fbfe7c93e35"), looks := false }, kinds := [], alts := [], laidByText := true, laidKinds := [.data], laidTests := true, laidLooks := .later }
def PacketMakesCardSaid : Prop := Claim7.holds Tryz.pinned (.plain (OpenSpec.ofChange packetMakesSpec)) packetMakesCard

/-- THE TIED CARD OF 'pigeonrylaw11.PacketBodies'. -/
def packetBodiesCard : Claim7 := { stood := { row := packetBodiesRow, standIns := [], harness := (true, "b404c56c0a96a94769529961166fe952f62f820631f6ce8be8375fbfe7c93e35"), looks := false }, kinds := [], alts := [], laidByText := true, laidKinds := [.data], laidTests := true, laidLooks := .later }
def PacketBodiesCardSaid : Prop := Claim7.holds Tryz.pinned (.plain (OpenSpec.ofChange packetBodiesSpec)) packetBodiesCard

/-- THE TIED CARD OF 'pigeonrylaw11.PacketUnlocks'. -/
def packetUnlocksCard : Claim7 := { stood := { row := packetUnlocksRow, standIns := [], harness := (true, "b404c56c0a96a94769529961166fe952f62f820631f6ce8be8375fbfe7c93e35"), looks := false }, kinds := [], alts := [], laidByText := true, laidKinds := [.data], laidTests := true, laidLooks := .later }
def PacketUnlocksCardSaid : Prop := Claim7.holds Tryz.pinned (.plain (OpenSpec.ofChange packetUnlocksSpec)) packetUnlocksCard

/-- THE TIED CARD OF 'pigeonrylaw12.SurbMakes'. -/
def surbMakesCard : Claim7 := { stood := { row := surbMakesRow, standIns := [], harness := (true, "b404c56c0a96a94769529961166fe952f62f820631f6ce8be8375fbfe7c93e35"), looks := false }, kinds := [], alts := [], laidByText := true, laidKinds := [.data], laidTests := true, laidLooks := .later }
def SurbMakesCardSaid : Prop := Claim7.holds Tryz.pinned (.plain (OpenSpec.ofChange surbMakesSpec)) surbMakesCard

/-- THE TIED CARD OF 'pigeonrylaw12.SurbUses'. -/
def surbUsesCard : Claim7 := { stood := { row := surbUsesRow, standIns := [], harness := (true, "b404c56c0a96a94769529961166fe952f62f820631f6ce8be8375fbfe7c93e35"), looks := false }, kinds := [], alts := [], laidByText := true, laidKinds := [.data], laidTests := true, laidLooks := .later }
def SurbUsesCardSaid : Prop := Claim7.holds Tryz.pinned (.plain (OpenSpec.ofChange surbUsesSpec)) surbUsesCard

/-- THE TIED CARD OF 'pigeonrylaw12.SurbOpens'. -/
def surbOpensCard : Claim7 := { stood := { row := surbOpensRow, standIns := [], harness := (true, "b404c56c0a96a94769529961166fe952f62f820631f6ce8be8375fbfe7c93e35"), looks := false }, kinds := [], alts := [], laidByText := true, laidKinds := [.data], laidTests := true, laidLooks := .later }
def SurbOpensCardSaid : Prop := Claim7.holds Tryz.pinned (.plain (OpenSpec.ofChange surbOpensSpec)) surbOpensCard

/-- THE TIED CARD OF 'pigeonrylaw12.SurbHeads'. -/
def surbHeadsCard : Claim7 := { stood := { row := surbHeadsRow, standIns := [], harness := (true, "b404c56c0a96a94769529961166fe952f62f820631f6ce8be8375fbfe7c93e35"), looks := false }, kinds := [], alts := [], laidByText := true, laidKinds := [.data], laidTests := true, laidLooks := .later }
def SurbHeadsCardSaid : Prop := Claim7.holds Tryz.pinned (.plain (OpenSpec.ofChange surbHeadsSpec)) surbHeadsCard

/-- THE TIED CARD OF 'pigeonrylaw12.SurbBytes'. -/
def surbBytesCard : Claim7 := { stood := { row := surbBytesRow, standIns := [], harness := (true, "b404c56c0a96a94769529961166fe952f62f820631f6ce8be8375fbfe7c93e35"), looks := false }, kinds := [], alts := [], laidByText := true, laidKinds := [.data], laidTests := true, laidLooks := .later }
def SurbBytesCardSaid : Prop := Claim7.holds Tryz.pinned (.plain (OpenSpec.ofChange surbBytesSpec)) surbBytesCard

/-- THE SECOND FORM's CARD OF 'pigeonrylaw11.PacketPeels'. -/
def packetPeelsUptoCard : Claim7 := { stood := { row := packetPeelsUptoRow, standIns := [], harness := (true, "b404c56c0a96a94769529961166fe952f62f820631f6ce8be8375fbfe7c93e35"), looks := false }, kinds := [], alts := [], laidByText := true, laidKinds := [.data], laidTests := true, laidLooks := .later }
def PacketPeelsUptoCardSaid : Prop := Claim7.holds Tryz.pinned (.plain (OpenSpec.upto packetPeelsSpec)) packetPeelsUptoCard

/-- THE SECOND FORM's CARD OF 'pigeonrylaw11.PacketSizes'. -/
def packetSizesUptoCard : Claim7 := { stood := { row := packetSizesUptoRow, standIns := [], harness := (true, "b404c56c0a96a94769529961166fe952f62f820631f6ce8be8375fbfe7c93e35"), looks := false }, kinds := [], alts := [], laidByText := true, laidKinds := [.data], laidTests := true, laidLooks := .later }
def PacketSizesUptoCardSaid : Prop := Claim7.holds Tryz.pinned (.plain (OpenSpec.upto packetSizesSpec)) packetSizesUptoCard

/-- THE SECOND FORM's CARD OF 'pigeonrylaw11.PacketMakes'. -/
def packetMakesUptoCard : Claim7 := { stood := { row := packetMakesUptoRow, standIns := [], harness := (true, "b404c56c0a96a94769529961166fe952f62f820631f6ce8be8375fbfe7c93e35"), looks := false }, kinds := [], alts := [], laidByText := true, laidKinds := [.data], laidTests := true, laidLooks := .later }
def PacketMakesUptoCardSaid : Prop := Claim7.holds Tryz.pinned (.plain (OpenSpec.upto packetMakesSpec)) packetMakesUptoCard

/-- THE SECOND FORM's CARD OF 'pigeonrylaw11.PacketBodies'. -/
def packetBodiesUptoCard : Claim7 := { stood := { row := packetBodiesUptoRow, standIns := [], harness := (true, "b404c56c0a96a94769529961166fe952f62f820631f6ce8be8375fbfe7c93e35"), looks := false }, kinds := [], alts := [], laidByText := true, laidKinds := [.data], laidTests := true, laidLooks := .later }
def PacketBodiesUptoCardSaid : Prop := Claim7.holds Tryz.pinned (.plain (OpenSpec.upto packetBodiesSpec)) packetBodiesUptoCard

/-- THE SECOND FORM's CARD OF 'pigeonrylaw11.PacketUnlocks'. -/
def packetUnlocksUptoCard : Claim7 := { stood := { row := packetUnlocksUptoRow, standIns := [], harness := (true, "b404c56c0a96a94769529961166fe952f62f820631f6ce8be8375fbfe7c93e35"), looks := false }, kinds := [], alts := [], laidByText := true, laidKinds := [.data], laidTests := true, laidLooks := .later }
def PacketUnlocksUptoCardSaid : Prop := Claim7.holds Tryz.pinned (.plain (OpenSpec.upto packetUnlocksSpec)) packetUnlocksUptoCard

/-- THE SECOND FORM's CARD OF 'pigeonrylaw12.SurbMakes'. -/
def surbMakesUptoCard : Claim7 := { stood := { row := surbMakesUptoRow, standIns := [], harness := (true, "b404c56c0a96a94769529961166fe952f62f820631f6ce8be8375fbfe7c93e35"), looks := false }, kinds := [], alts := [], laidByText := true, laidKinds := [.data], laidTests := true, laidLooks := .later }
def SurbMakesUptoCardSaid : Prop := Claim7.holds Tryz.pinned (.plain (OpenSpec.upto surbMakesSpec)) surbMakesUptoCard

/-- THE SECOND FORM's CARD OF 'pigeonrylaw12.SurbUses'. -/
def surbUsesUptoCard : Claim7 := { stood := { row := surbUsesUptoRow, standIns := [], harness := (true, "b404c56c0a96a94769529961166fe952f62f820631f6ce8be8375fbfe7c93e35"), looks := false }, kinds := [], alts := [], laidByText := true, laidKinds := [.data], laidTests := true, laidLooks := .later }
def SurbUsesUptoCardSaid : Prop := Claim7.holds Tryz.pinned (.plain (OpenSpec.upto surbUsesSpec)) surbUsesUptoCard

/-- THE SECOND FORM's CARD OF 'pigeonrylaw12.SurbOpens'. -/
def surbOpensUptoCard : Claim7 := { stood := { row := surbOpensUptoRow, standIns := [], harness := (true, "b404c56c0a96a94769529961166fe952f62f820631f6ce8be8375fbfe7c93e35"), looks := false }, kinds := [], alts := [], laidByText := true, laidKinds := [.data], laidTests := true, laidLooks := .later }
def SurbOpensUptoCardSaid : Prop := Claim7.holds Tryz.pinned (.plain (OpenSpec.upto surbOpensSpec)) surbOpensUptoCard

/-- THE SECOND FORM's CARD OF 'pigeonrylaw12.SurbHeads'. -/
def surbHeadsUptoCard : Claim7 := { stood := { row := surbHeadsUptoRow, standIns := [], harness := (true, "b404c56c0a96a94769529961166fe952f62f820631f6ce8be8375fbfe7c93e35"), looks := false }, kinds := [], alts := [], laidByText := true, laidKinds := [.data], laidTests := true, laidLooks := .later }
def SurbHeadsUptoCardSaid : Prop := Claim7.holds Tryz.pinned (.plain (OpenSpec.upto surbHeadsSpec)) surbHeadsUptoCard

/-- THE SECOND FORM's CARD OF 'pigeonrylaw12.SurbBytes'. -/
def surbBytesUptoCard : Claim7 := { stood := { row := surbBytesUptoRow, standIns := [], harness := (true, "b404c56c0a96a94769529961166fe952f62f820631f6ce8be8375fbfe7c93e35"), looks := false }, kinds := [], alts := [], laidByText := true, laidKinds := [.data], laidTests := true, laidLooks := .later }
def SurbBytesUptoCardSaid : Prop := Claim7.holds Tryz.pinned (.plain (OpenSpec.upto surbBytesSpec)) surbBytesUptoCard
end Rows
end Go.Proofs.YtfehjfoajlfhfaaGreatDoor
