/-
  DERIVED. GIVEN WITH THE SEED: THE CARDS: each row of YtiimeklgjoclpaaDoorRows.lean that lists a variable, with what it lists TIED to the program's text (the seventh form; the later family's looks); each row that meets fmt, with fmt's text TOLD by the authors' own Lean function (tested against real Go, not proved from fmt's source: count such statements apart). THE CARD IS WHAT COUNTS. Prove the row's statement (the work); the ties are given (YtiimeklgjoclpaaDoorTie.lean); close each card by the builder's one call (the guide's Derived/Test/ToyasCard.lean, 'card_holds'). Laid BY PROGRAM, IN A SANDBOX (cutbox-door.mjs). By AI agents, Wed Nov 11 2026. No macro, syntax, notation, axiom, sorry.
-/
import Derived.Test.YtiimeklgjoclpaaDoorRows
import GoSem.ClaimSeven
namespace Go.Proofs.YtiimeklgjoclpaaDoor
namespace Rows

/-- THE TIED CARD OF 'pigeonrylaw22.MailboxKept'. -/
def mailboxKeptCard : Claim7 := { stood := { row := mailboxKeptRow, standIns := [], harness := (true, "101917570f073162eb3e3b4248501c319047c2227aae9960f49b4615ae3282ca"), looks := false }, kinds := [], alts := [], laidByText := true, laidKinds := [.data], laidTests := true, laidLooks := .later }
def MailboxKeptCardSaid : Prop := Claim7.holds Tryd.pinned (.plain (OpenSpec.ofChange mailboxKeptSpec)) mailboxKeptCard

/-- THE TIED CARD OF 'pigeonrylaw22.MailboxRefuses'. -/
def mailboxRefusesCard : Claim7 := { stood := { row := mailboxRefusesRow, standIns := [], harness := (true, "101917570f073162eb3e3b4248501c319047c2227aae9960f49b4615ae3282ca"), looks := false }, kinds := [], alts := [], laidByText := true, laidKinds := [.data], laidTests := true, laidLooks := .later }
def MailboxRefusesCardSaid : Prop := Claim7.holds Tryd.pinned (.plain (OpenSpec.ofChange mailboxRefusesSpec)) mailboxRefusesCard

/-- THE TIED CARD OF 'pigeonrylaw22.MailboxActs'. -/
def mailboxActsCard : Claim7 := { stood := { row := mailboxActsRow, standIns := [], harness := (true, "101917570f073162eb3e3b4248501c319047c2227aae9960f49b4615ae3282ca"), looks := false }, kinds := [], alts := [], laidByText := true, laidKinds := [.data], laidTests := true, laidLooks := .later }
def MailboxActsCardSaid : Prop := Claim7.holds Tryd.pinned (.plain (OpenSpec.ofChange mailboxActsSpec)) mailboxActsCard

/-- THE TIED CARD OF 'pigeonrylaw22.MailboxOwn'. -/
def mailboxOwnCard : Claim7 := { stood := { row := mailboxOwnRow, standIns := [], harness := (true, "101917570f073162eb3e3b4248501c319047c2227aae9960f49b4615ae3282ca"), looks := false }, kinds := [], alts := [], laidByText := true, laidKinds := [.data], laidTests := true, laidLooks := .later }
def MailboxOwnCardSaid : Prop := Claim7.holds Tryd.pinned (.plain (OpenSpec.ofChange mailboxOwnSpec)) mailboxOwnCard

/-- THE SECOND FORM's CARD OF 'pigeonrylaw22.MailboxKept'. -/
def mailboxKeptUptoCard : Claim7 := { stood := { row := mailboxKeptUptoRow, standIns := [], harness := (true, "101917570f073162eb3e3b4248501c319047c2227aae9960f49b4615ae3282ca"), looks := false }, kinds := [], alts := [], laidByText := true, laidKinds := [.data], laidTests := true, laidLooks := .later }
def MailboxKeptUptoCardSaid : Prop := Claim7.holds Tryd.pinned (.plain (OpenSpec.upto mailboxKeptSpec)) mailboxKeptUptoCard

/-- THE SECOND FORM's CARD OF 'pigeonrylaw22.MailboxRefuses'. -/
def mailboxRefusesUptoCard : Claim7 := { stood := { row := mailboxRefusesUptoRow, standIns := [], harness := (true, "101917570f073162eb3e3b4248501c319047c2227aae9960f49b4615ae3282ca"), looks := false }, kinds := [], alts := [], laidByText := true, laidKinds := [.data], laidTests := true, laidLooks := .later }
def MailboxRefusesUptoCardSaid : Prop := Claim7.holds Tryd.pinned (.plain (OpenSpec.upto mailboxRefusesSpec)) mailboxRefusesUptoCard

/-- THE SECOND FORM's CARD OF 'pigeonrylaw22.MailboxActs'. -/
def mailboxActsUptoCard : Claim7 := { stood := { row := mailboxActsUptoRow, standIns := [], harness := (true, "101917570f073162eb3e3b4248501c319047c2227aae9960f49b4615ae3282ca"), looks := false }, kinds := [], alts := [], laidByText := true, laidKinds := [.data], laidTests := true, laidLooks := .later }
def MailboxActsUptoCardSaid : Prop := Claim7.holds Tryd.pinned (.plain (OpenSpec.upto mailboxActsSpec)) mailboxActsUptoCard

/-- THE SECOND FORM's CARD OF 'pigeonrylaw22.MailboxOwn'. -/
def mailboxOwnUptoCard : Claim7 := { stood := { row := mailboxOwnUptoRow, standIns := [], harness := (true, "101917570f073162eb3e3b4248501c319047c2227aae9960f49b4615ae3282ca"), looks := false }, kinds := [], alts := [], laidByText := true, laidKinds := [.data], laidTests := true, laidLooks := .later }
def MailboxOwnUptoCardSaid : Prop := Claim7.holds Tryd.pinned (.plain (OpenSpec.upto mailboxOwnSpec)) mailboxOwnUptoCard
end Rows
end Go.Proofs.YtiimeklgjoclpaaDoor
