/-
  NARROWER THAN 'FOR EVERY INPUT', by the rows' own cells (each row's printed sentence says how): PacketPeels: laid · PacketSizes: laid · PacketMakes: laid · PacketBodies: laid · PacketUnlocks: laid · SurbMakes: laid · SurbUses: laid · SurbOpens: laid · SurbHeads: laid · SurbBytes: laid.
  DERIVED. THE GIVEN ROWS OF THIS SEAT. 10 by the template 'for every input the law returns true; each argument reads behind the call as it read before'; 0 by the template 'total and deterministic' (their statements: YtfehjfoajlfhfaaGreatDoorTotals.lean).
  GIVEN WITH THE SEED: the statements are not yours to turn. If you find one false, say at which input.
  Laid BY PROGRAM, IN A SANDBOX (cutbox-rows.mjs): the forced cells as the released guide's own fill.sh prints them over the translation 40824d3d76d184cb… (all of the seat's roots in one cut). By AI agents, Wed Nov 11 2026. No macro, syntax, notation, axiom, sorry.
-/
import Derived.Test.YtfehjfoajlfhfaaGreatDoorChecked
import GoSem.Claim
import GoSem.ClaimJoined
import GoSem.ClaimMapViews
import Derived.JoinedTies
import Derived.KernelRfl
namespace Go.Proofs.YtfehjfoajlfhfaaGreatDoor
/- THE CELL 'sum', in the pinned program and in every row, IS THE sha256 OF THE DUMP (.gsa) THAT YtfehjfoajlfhfaaGreatDoorProg.lean LOADS. Nothing in Lean hashes anything: it is a label: what it is worth is what the hold of that sum in a sandbox is worth. -/
noncomputable def Tryz.pinned : Pinned := { name := "ytfehjfoajlfhfaagreatdoor", sum := "40824d3d76d184cbc7dcf42a19552608415899476902956fe05349b45d530e3f", checked := Tryz.checked }
namespace Rows
def none {H : Type} : Left H := { results := [], args := [] }

/- WHAT THE LISTED PACKAGE-LEVEL VARIABLES READ AS WHEN THE CALL BEGINS. Each datum BY PROGRAM (the guide's laid-datum.mjs) off the statement by which the dump's own 'gosem.cut.vars' lays the variable. In a bare row this is a premise. The card (YtfehjfoajlfhfaaGreatDoorCards.lean) ties it to the program's text. -/
def laid_pigeonry_sha_k {H : Type} : DataW H := .agg [.lit (.int .u32 1116352408), .lit (.int .u32 1899447441), .lit (.int .u32 3049323471), .lit (.int .u32 3921009573), .lit (.int .u32 961987163), .lit (.int .u32 1508970993), .lit (.int .u32 2453635748), .lit (.int .u32 2870763221), .lit (.int .u32 3624381080), .lit (.int .u32 310598401), .lit (.int .u32 607225278), .lit (.int .u32 1426881987), .lit (.int .u32 1925078388), .lit (.int .u32 2162078206), .lit (.int .u32 2614888103), .lit (.int .u32 3248222580), .lit (.int .u32 3835390401), .lit (.int .u32 4022224774), .lit (.int .u32 264347078), .lit (.int .u32 604807628), .lit (.int .u32 770255983), .lit (.int .u32 1249150122), .lit (.int .u32 1555081692), .lit (.int .u32 1996064986), .lit (.int .u32 2554220882), .lit (.int .u32 2821834349), .lit (.int .u32 2952996808), .lit (.int .u32 3210313671), .lit (.int .u32 3336571891), .lit (.int .u32 3584528711), .lit (.int .u32 113926993), .lit (.int .u32 338241895), .lit (.int .u32 666307205), .lit (.int .u32 773529912), .lit (.int .u32 1294757372), .lit (.int .u32 1396182291), .lit (.int .u32 1695183700), .lit (.int .u32 1986661051), .lit (.int .u32 2177026350), .lit (.int .u32 2456956037), .lit (.int .u32 2730485921), .lit (.int .u32 2820302411), .lit (.int .u32 3259730800), .lit (.int .u32 3345764771), .lit (.int .u32 3516065817), .lit (.int .u32 3600352804), .lit (.int .u32 4094571909), .lit (.int .u32 275423344), .lit (.int .u32 430227734), .lit (.int .u32 506948616), .lit (.int .u32 659060556), .lit (.int .u32 883997877), .lit (.int .u32 958139571), .lit (.int .u32 1322822218), .lit (.int .u32 1537002063), .lit (.int .u32 1747873779), .lit (.int .u32 1955562222), .lit (.int .u32 2024104815), .lit (.int .u32 2227730452), .lit (.int .u32 2361852424), .lit (.int .u32 2428436474), .lit (.int .u32 2756734187), .lit (.int .u32 3204031479), .lit (.int .u32 3329325298)]

/-- 'pigeonrylaw11.PacketPeels': WHATEVER THE INPUT: true; the input reads as it did. -/
def packetPeelsSpec : ChangeSpec := { name := "packetPeels", fn := fun _ => fun
  | [d1, d2] => { results := [.lit (.bool true)], args := [d1, d2] }
  | _ => none }
def packetPeelsRow : OpenClaim := { program := "ytfehjfoajlfhfaagreatdoor", sum := "40824d3d76d184cbc7dcf42a19552608415899476902956fe05349b45d530e3f", func := "pigeonry/pigeonrylaw11.PacketPeels", spec := "packetPeels", inPlace := ["math/bits.Add64", "math/bits.Sub64"], unfollowed := true, recurses := true, named := ["pigeonry/sha.k"], apart := false, laid := [("pigeonry/sha.k", laid_pigeonry_sha_k)] }
def PacketPeelsSaid : Prop := packetPeelsRow.holds Tryz.pinned (OpenSpec.ofChange packetPeelsSpec)

/-- ITS FALSE NEIGHBOUR: 'it returns false'. Refute it at one input. -/
def packetPeelsWrong : ChangeSpec := { name := "packetPeels", fn := fun _ => fun
  | [d1, d2] => { results := [.lit (.bool false)], args := [d1, d2] }
  | _ => none }
def PacketPeelsWrongFalsely : Prop := packetPeelsRow.holds Tryz.pinned (OpenSpec.ofChange packetPeelsWrong)

/-- 'pigeonrylaw11.PacketSizes': WHATEVER THE INPUT: true; the input reads as it did. -/
def packetSizesSpec : ChangeSpec := { name := "packetSizes", fn := fun _ => fun
  | [d1, d2] => { results := [.lit (.bool true)], args := [d1, d2] }
  | _ => none }
def packetSizesRow : OpenClaim := { program := "ytfehjfoajlfhfaagreatdoor", sum := "40824d3d76d184cbc7dcf42a19552608415899476902956fe05349b45d530e3f", func := "pigeonry/pigeonrylaw11.PacketSizes", spec := "packetSizes", inPlace := ["math/bits.Add64", "math/bits.Sub64"], unfollowed := true, recurses := true, named := ["pigeonry/sha.k"], apart := false, laid := [("pigeonry/sha.k", laid_pigeonry_sha_k)] }
def PacketSizesSaid : Prop := packetSizesRow.holds Tryz.pinned (OpenSpec.ofChange packetSizesSpec)

/-- ITS FALSE NEIGHBOUR: 'it returns false'. Refute it at one input. -/
def packetSizesWrong : ChangeSpec := { name := "packetSizes", fn := fun _ => fun
  | [d1, d2] => { results := [.lit (.bool false)], args := [d1, d2] }
  | _ => none }
def PacketSizesWrongFalsely : Prop := packetSizesRow.holds Tryz.pinned (OpenSpec.ofChange packetSizesWrong)

/-- 'pigeonrylaw11.PacketMakes': WHATEVER THE INPUT: true; the input reads as it did. -/
def packetMakesSpec : ChangeSpec := { name := "packetMakes", fn := fun _ => fun
  | [d1, d2, d3] => { results := [.lit (.bool true)], args := [d1, d2, d3] }
  | _ => none }
def packetMakesRow : OpenClaim := { program := "ytfehjfoajlfhfaagreatdoor", sum := "40824d3d76d184cbc7dcf42a19552608415899476902956fe05349b45d530e3f", func := "pigeonry/pigeonrylaw11.PacketMakes", spec := "packetMakes", inPlace := ["math/bits.Add64", "math/bits.Sub64"], unfollowed := true, recurses := true, named := ["pigeonry/sha.k"], apart := false, laid := [("pigeonry/sha.k", laid_pigeonry_sha_k)] }
def PacketMakesSaid : Prop := packetMakesRow.holds Tryz.pinned (OpenSpec.ofChange packetMakesSpec)

/-- ITS FALSE NEIGHBOUR: 'it returns false'. Refute it at one input. -/
def packetMakesWrong : ChangeSpec := { name := "packetMakes", fn := fun _ => fun
  | [d1, d2, d3] => { results := [.lit (.bool false)], args := [d1, d2, d3] }
  | _ => none }
def PacketMakesWrongFalsely : Prop := packetMakesRow.holds Tryz.pinned (OpenSpec.ofChange packetMakesWrong)

/-- 'pigeonrylaw11.PacketBodies': WHATEVER THE INPUT: true; the input reads as it did. -/
def packetBodiesSpec : ChangeSpec := { name := "packetBodies", fn := fun _ => fun
  | [d1, d2, d3] => { results := [.lit (.bool true)], args := [d1, d2, d3] }
  | _ => none }
def packetBodiesRow : OpenClaim := { program := "ytfehjfoajlfhfaagreatdoor", sum := "40824d3d76d184cbc7dcf42a19552608415899476902956fe05349b45d530e3f", func := "pigeonry/pigeonrylaw11.PacketBodies", spec := "packetBodies", inPlace := ["math/bits.Add64", "math/bits.Sub64"], unfollowed := true, recurses := true, named := ["pigeonry/sha.k"], apart := false, laid := [("pigeonry/sha.k", laid_pigeonry_sha_k)] }
def PacketBodiesSaid : Prop := packetBodiesRow.holds Tryz.pinned (OpenSpec.ofChange packetBodiesSpec)

/-- ITS FALSE NEIGHBOUR: 'it returns false'. Refute it at one input. -/
def packetBodiesWrong : ChangeSpec := { name := "packetBodies", fn := fun _ => fun
  | [d1, d2, d3] => { results := [.lit (.bool false)], args := [d1, d2, d3] }
  | _ => none }
def PacketBodiesWrongFalsely : Prop := packetBodiesRow.holds Tryz.pinned (OpenSpec.ofChange packetBodiesWrong)

/-- 'pigeonrylaw11.PacketUnlocks': WHATEVER THE INPUT: true; the input reads as it did. -/
def packetUnlocksSpec : ChangeSpec := { name := "packetUnlocks", fn := fun _ => fun
  | [d1, d2, d3] => { results := [.lit (.bool true)], args := [d1, d2, d3] }
  | _ => none }
def packetUnlocksRow : OpenClaim := { program := "ytfehjfoajlfhfaagreatdoor", sum := "40824d3d76d184cbc7dcf42a19552608415899476902956fe05349b45d530e3f", func := "pigeonry/pigeonrylaw11.PacketUnlocks", spec := "packetUnlocks", inPlace := ["math/bits.Add64", "math/bits.Sub64"], unfollowed := true, recurses := true, named := ["pigeonry/sha.k"], apart := false, laid := [("pigeonry/sha.k", laid_pigeonry_sha_k)] }
def PacketUnlocksSaid : Prop := packetUnlocksRow.holds Tryz.pinned (OpenSpec.ofChange packetUnlocksSpec)

/-- ITS FALSE NEIGHBOUR: 'it returns false'. Refute it at one input. -/
def packetUnlocksWrong : ChangeSpec := { name := "packetUnlocks", fn := fun _ => fun
  | [d1, d2, d3] => { results := [.lit (.bool false)], args := [d1, d2, d3] }
  | _ => none }
def PacketUnlocksWrongFalsely : Prop := packetUnlocksRow.holds Tryz.pinned (OpenSpec.ofChange packetUnlocksWrong)

/-- 'pigeonrylaw12.SurbMakes': WHATEVER THE INPUT: true; the input reads as it did. -/
def surbMakesSpec : ChangeSpec := { name := "surbMakes", fn := fun _ => fun
  | [d1, d2, d3] => { results := [.lit (.bool true)], args := [d1, d2, d3] }
  | _ => none }
def surbMakesRow : OpenClaim := { program := "ytfehjfoajlfhfaagreatdoor", sum := "40824d3d76d184cbc7dcf42a19552608415899476902956fe05349b45d530e3f", func := "pigeonry/pigeonrylaw12.SurbMakes", spec := "surbMakes", inPlace := ["math/bits.Add64", "math/bits.Sub64"], unfollowed := true, recurses := true, named := ["pigeonry/sha.k"], apart := false, laid := [("pigeonry/sha.k", laid_pigeonry_sha_k)] }
def SurbMakesSaid : Prop := surbMakesRow.holds Tryz.pinned (OpenSpec.ofChange surbMakesSpec)

/-- ITS FALSE NEIGHBOUR: 'it returns false'. Refute it at one input. -/
def surbMakesWrong : ChangeSpec := { name := "surbMakes", fn := fun _ => fun
  | [d1, d2, d3] => { results := [.lit (.bool false)], args := [d1, d2, d3] }
  | _ => none }
def SurbMakesWrongFalsely : Prop := surbMakesRow.holds Tryz.pinned (OpenSpec.ofChange surbMakesWrong)

/-- 'pigeonrylaw12.SurbUses': WHATEVER THE INPUT: true; the input reads as it did. -/
def surbUsesSpec : ChangeSpec := { name := "surbUses", fn := fun _ => fun
  | [d1, d2] => { results := [.lit (.bool true)], args := [d1, d2] }
  | _ => none }
def surbUsesRow : OpenClaim := { program := "ytfehjfoajlfhfaagreatdoor", sum := "40824d3d76d184cbc7dcf42a19552608415899476902956fe05349b45d530e3f", func := "pigeonry/pigeonrylaw12.SurbUses", spec := "surbUses", inPlace := ["math/bits.Add64", "math/bits.Sub64"], unfollowed := true, recurses := true, named := ["pigeonry/sha.k"], apart := false, laid := [("pigeonry/sha.k", laid_pigeonry_sha_k)] }
def SurbUsesSaid : Prop := surbUsesRow.holds Tryz.pinned (OpenSpec.ofChange surbUsesSpec)

/-- ITS FALSE NEIGHBOUR: 'it returns false'. Refute it at one input. -/
def surbUsesWrong : ChangeSpec := { name := "surbUses", fn := fun _ => fun
  | [d1, d2] => { results := [.lit (.bool false)], args := [d1, d2] }
  | _ => none }
def SurbUsesWrongFalsely : Prop := surbUsesRow.holds Tryz.pinned (OpenSpec.ofChange surbUsesWrong)

/-- 'pigeonrylaw12.SurbOpens': WHATEVER THE INPUT: true; the input reads as it did. -/
def surbOpensSpec : ChangeSpec := { name := "surbOpens", fn := fun _ => fun
  | [d1, d2, d3] => { results := [.lit (.bool true)], args := [d1, d2, d3] }
  | _ => none }
def surbOpensRow : OpenClaim := { program := "ytfehjfoajlfhfaagreatdoor", sum := "40824d3d76d184cbc7dcf42a19552608415899476902956fe05349b45d530e3f", func := "pigeonry/pigeonrylaw12.SurbOpens", spec := "surbOpens", inPlace := ["math/bits.Add64", "math/bits.Sub64"], unfollowed := true, recurses := true, named := ["pigeonry/sha.k"], apart := false, laid := [("pigeonry/sha.k", laid_pigeonry_sha_k)] }
def SurbOpensSaid : Prop := surbOpensRow.holds Tryz.pinned (OpenSpec.ofChange surbOpensSpec)

/-- ITS FALSE NEIGHBOUR: 'it returns false'. Refute it at one input. -/
def surbOpensWrong : ChangeSpec := { name := "surbOpens", fn := fun _ => fun
  | [d1, d2, d3] => { results := [.lit (.bool false)], args := [d1, d2, d3] }
  | _ => none }
def SurbOpensWrongFalsely : Prop := surbOpensRow.holds Tryz.pinned (OpenSpec.ofChange surbOpensWrong)

/-- 'pigeonrylaw12.SurbHeads': WHATEVER THE INPUT: true; the input reads as it did. -/
def surbHeadsSpec : ChangeSpec := { name := "surbHeads", fn := fun _ => fun
  | [d1, d2] => { results := [.lit (.bool true)], args := [d1, d2] }
  | _ => none }
def surbHeadsRow : OpenClaim := { program := "ytfehjfoajlfhfaagreatdoor", sum := "40824d3d76d184cbc7dcf42a19552608415899476902956fe05349b45d530e3f", func := "pigeonry/pigeonrylaw12.SurbHeads", spec := "surbHeads", inPlace := ["math/bits.Add64", "math/bits.Sub64"], unfollowed := true, recurses := true, named := ["pigeonry/sha.k"], apart := false, laid := [("pigeonry/sha.k", laid_pigeonry_sha_k)] }
def SurbHeadsSaid : Prop := surbHeadsRow.holds Tryz.pinned (OpenSpec.ofChange surbHeadsSpec)

/-- ITS FALSE NEIGHBOUR: 'it returns false'. Refute it at one input. -/
def surbHeadsWrong : ChangeSpec := { name := "surbHeads", fn := fun _ => fun
  | [d1, d2] => { results := [.lit (.bool false)], args := [d1, d2] }
  | _ => none }
def SurbHeadsWrongFalsely : Prop := surbHeadsRow.holds Tryz.pinned (OpenSpec.ofChange surbHeadsWrong)

/-- 'pigeonrylaw12.SurbBytes': WHATEVER THE INPUT: true; the input reads as it did. -/
def surbBytesSpec : ChangeSpec := { name := "surbBytes", fn := fun _ => fun
  | [d1, d2] => { results := [.lit (.bool true)], args := [d1, d2] }
  | _ => none }
def surbBytesRow : OpenClaim := { program := "ytfehjfoajlfhfaagreatdoor", sum := "40824d3d76d184cbc7dcf42a19552608415899476902956fe05349b45d530e3f", func := "pigeonry/pigeonrylaw12.SurbBytes", spec := "surbBytes", inPlace := ["math/bits.Add64", "math/bits.Sub64"], unfollowed := true, recurses := true, named := ["pigeonry/sha.k"], apart := false, laid := [("pigeonry/sha.k", laid_pigeonry_sha_k)] }
def SurbBytesSaid : Prop := surbBytesRow.holds Tryz.pinned (OpenSpec.ofChange surbBytesSpec)

/-- ITS FALSE NEIGHBOUR: 'it returns false'. Refute it at one input. -/
def surbBytesWrong : ChangeSpec := { name := "surbBytes", fn := fun _ => fun
  | [d1, d2] => { results := [.lit (.bool false)], args := [d1, d2] }
  | _ => none }
def SurbBytesWrongFalsely : Prop := surbBytesRow.holds Tryz.pinned (OpenSpec.ofChange surbBytesWrong)

/- THE SECOND FORM. 'bulk': how many values and letters a reading holds, each counted each time it is reached (what is shared counts as often as it is met; a slice's spare places count too). A statement '..UptoSaid' is the law's where the arguments, and the package variables that the reading takes, are together of bulk at most 1048576: NARROWER than '..Said'. Prove '..Said' where nothing that the law and all that it calls make is longer than what came in: it says more and counts as full. Else prove '..UptoSaid'. A law counts once. -/
mutual
def uptoBulk {H : Type} : DataW H → Nat
  | .lit (.string bytes) => bytes.length + 1
  | .lit _ => 1
  | .nil => 1
  | .ptr d => uptoBulk d + 1
  | .slice elems spare => uptoBulkAll elems + uptoBulkAll spare + 1
  | .agg parts => uptoBulkAll parts + 1
  | .iface _ d => uptoBulk d + 1
  | .map entries => uptoBulkEntries entries + 1
  | .held _ => 1
def uptoBulkAll {H : Type} : List (DataW H) → Nat
  | [] => 0
  | d :: r => uptoBulk d + uptoBulkAll r
def uptoBulkEntries {H : Type} : List (Lit × DataW H) → Nat
  | [] => 0
  | x :: r => uptoBulkEntry x + uptoBulkEntries r
def uptoBulkEntry {H : Type} : Lit × DataW H → Nat
  | (.string bytes, d) => bytes.length + uptoBulk d + 1
  | (_, d) => uptoBulk d + 1
 end
def uptoSmall : (H : Type) → List (DataW H) → Bool := fun _ ds => decide (uptoBulkAll ds ≤ 1048576)
def OpenSpec.upto (s : _root_.Go.ChangeSpec) : _root_.Go.OpenSpec := { _root_.Go.OpenSpec.ofChange s with cond := some uptoSmall }

/-- 'pigeonrylaw11.PacketPeels', WHERE WHAT IT READS IS OF BULK AT MOST 1048576: true; the input reads as it did. -/
def packetPeelsUptoRow : OpenClaim := { program := "ytfehjfoajlfhfaagreatdoor", sum := "40824d3d76d184cbc7dcf42a19552608415899476902956fe05349b45d530e3f", func := "pigeonry/pigeonrylaw11.PacketPeels", spec := "packetPeels", inPlace := ["math/bits.Add64", "math/bits.Sub64"], unfollowed := true, recurses := true, named := ["pigeonry/sha.k"], apart := false, laid := [("pigeonry/sha.k", laid_pigeonry_sha_k)], narrowed := true }
def PacketPeelsUptoSaid : Prop := packetPeelsUptoRow.holds Tryz.pinned (OpenSpec.upto packetPeelsSpec)

/-- 'pigeonrylaw11.PacketSizes', WHERE WHAT IT READS IS OF BULK AT MOST 1048576: true; the input reads as it did. -/
def packetSizesUptoRow : OpenClaim := { program := "ytfehjfoajlfhfaagreatdoor", sum := "40824d3d76d184cbc7dcf42a19552608415899476902956fe05349b45d530e3f", func := "pigeonry/pigeonrylaw11.PacketSizes", spec := "packetSizes", inPlace := ["math/bits.Add64", "math/bits.Sub64"], unfollowed := true, recurses := true, named := ["pigeonry/sha.k"], apart := false, laid := [("pigeonry/sha.k", laid_pigeonry_sha_k)], narrowed := true }
def PacketSizesUptoSaid : Prop := packetSizesUptoRow.holds Tryz.pinned (OpenSpec.upto packetSizesSpec)

/-- 'pigeonrylaw11.PacketMakes', WHERE WHAT IT READS IS OF BULK AT MOST 1048576: true; the input reads as it did. -/
def packetMakesUptoRow : OpenClaim := { program := "ytfehjfoajlfhfaagreatdoor", sum := "40824d3d76d184cbc7dcf42a19552608415899476902956fe05349b45d530e3f", func := "pigeonry/pigeonrylaw11.PacketMakes", spec := "packetMakes", inPlace := ["math/bits.Add64", "math/bits.Sub64"], unfollowed := true, recurses := true, named := ["pigeonry/sha.k"], apart := false, laid := [("pigeonry/sha.k", laid_pigeonry_sha_k)], narrowed := true }
def PacketMakesUptoSaid : Prop := packetMakesUptoRow.holds Tryz.pinned (OpenSpec.upto packetMakesSpec)

/-- 'pigeonrylaw11.PacketBodies', WHERE WHAT IT READS IS OF BULK AT MOST 1048576: true; the input reads as it did. -/
def packetBodiesUptoRow : OpenClaim := { program := "ytfehjfoajlfhfaagreatdoor", sum := "40824d3d76d184cbc7dcf42a19552608415899476902956fe05349b45d530e3f", func := "pigeonry/pigeonrylaw11.PacketBodies", spec := "packetBodies", inPlace := ["math/bits.Add64", "math/bits.Sub64"], unfollowed := true, recurses := true, named := ["pigeonry/sha.k"], apart := false, laid := [("pigeonry/sha.k", laid_pigeonry_sha_k)], narrowed := true }
def PacketBodiesUptoSaid : Prop := packetBodiesUptoRow.holds Tryz.pinned (OpenSpec.upto packetBodiesSpec)

/-- 'pigeonrylaw11.PacketUnlocks', WHERE WHAT IT READS IS OF BULK AT MOST 1048576: true; the input reads as it did. -/
def packetUnlocksUptoRow : OpenClaim := { program := "ytfehjfoajlfhfaagreatdoor", sum := "40824d3d76d184cbc7dcf42a19552608415899476902956fe05349b45d530e3f", func := "pigeonry/pigeonrylaw11.PacketUnlocks", spec := "packetUnlocks", inPlace := ["math/bits.Add64", "math/bits.Sub64"], unfollowed := true, recurses := true, named := ["pigeonry/sha.k"], apart := false, laid := [("pigeonry/sha.k", laid_pigeonry_sha_k)], narrowed := true }
def PacketUnlocksUptoSaid : Prop := packetUnlocksUptoRow.holds Tryz.pinned (OpenSpec.upto packetUnlocksSpec)

/-- 'pigeonrylaw12.SurbMakes', WHERE WHAT IT READS IS OF BULK AT MOST 1048576: true; the input reads as it did. -/
def surbMakesUptoRow : OpenClaim := { program := "ytfehjfoajlfhfaagreatdoor", sum := "40824d3d76d184cbc7dcf42a19552608415899476902956fe05349b45d530e3f", func := "pigeonry/pigeonrylaw12.SurbMakes", spec := "surbMakes", inPlace := ["math/bits.Add64", "math/bits.Sub64"], unfollowed := true, recurses := true, named := ["pigeonry/sha.k"], apart := false, laid := [("pigeonry/sha.k", laid_pigeonry_sha_k)], narrowed := true }
def SurbMakesUptoSaid : Prop := surbMakesUptoRow.holds Tryz.pinned (OpenSpec.upto surbMakesSpec)

/-- 'pigeonrylaw12.SurbUses', WHERE WHAT IT READS IS OF BULK AT MOST 1048576: true; the input reads as it did. -/
def surbUsesUptoRow : OpenClaim := { program := "ytfehjfoajlfhfaagreatdoor", sum := "40824d3d76d184cbc7dcf42a19552608415899476902956fe05349b45d530e3f", func := "pigeonry/pigeonrylaw12.SurbUses", spec := "surbUses", inPlace := ["math/bits.Add64", "math/bits.Sub64"], unfollowed := true, recurses := true, named := ["pigeonry/sha.k"], apart := false, laid := [("pigeonry/sha.k", laid_pigeonry_sha_k)], narrowed := true }
def SurbUsesUptoSaid : Prop := surbUsesUptoRow.holds Tryz.pinned (OpenSpec.upto surbUsesSpec)

/-- 'pigeonrylaw12.SurbOpens', WHERE WHAT IT READS IS OF BULK AT MOST 1048576: true; the input reads as it did. -/
def surbOpensUptoRow : OpenClaim := { program := "ytfehjfoajlfhfaagreatdoor", sum := "40824d3d76d184cbc7dcf42a19552608415899476902956fe05349b45d530e3f", func := "pigeonry/pigeonrylaw12.SurbOpens", spec := "surbOpens", inPlace := ["math/bits.Add64", "math/bits.Sub64"], unfollowed := true, recurses := true, named := ["pigeonry/sha.k"], apart := false, laid := [("pigeonry/sha.k", laid_pigeonry_sha_k)], narrowed := true }
def SurbOpensUptoSaid : Prop := surbOpensUptoRow.holds Tryz.pinned (OpenSpec.upto surbOpensSpec)

/-- 'pigeonrylaw12.SurbHeads', WHERE WHAT IT READS IS OF BULK AT MOST 1048576: true; the input reads as it did. -/
def surbHeadsUptoRow : OpenClaim := { program := "ytfehjfoajlfhfaagreatdoor", sum := "40824d3d76d184cbc7dcf42a19552608415899476902956fe05349b45d530e3f", func := "pigeonry/pigeonrylaw12.SurbHeads", spec := "surbHeads", inPlace := ["math/bits.Add64", "math/bits.Sub64"], unfollowed := true, recurses := true, named := ["pigeonry/sha.k"], apart := false, laid := [("pigeonry/sha.k", laid_pigeonry_sha_k)], narrowed := true }
def SurbHeadsUptoSaid : Prop := surbHeadsUptoRow.holds Tryz.pinned (OpenSpec.upto surbHeadsSpec)

/-- 'pigeonrylaw12.SurbBytes', WHERE WHAT IT READS IS OF BULK AT MOST 1048576: true; the input reads as it did. -/
def surbBytesUptoRow : OpenClaim := { program := "ytfehjfoajlfhfaagreatdoor", sum := "40824d3d76d184cbc7dcf42a19552608415899476902956fe05349b45d530e3f", func := "pigeonry/pigeonrylaw12.SurbBytes", spec := "surbBytes", inPlace := ["math/bits.Add64", "math/bits.Sub64"], unfollowed := true, recurses := true, named := ["pigeonry/sha.k"], apart := false, laid := [("pigeonry/sha.k", laid_pigeonry_sha_k)], narrowed := true }
def SurbBytesUptoSaid : Prop := surbBytesUptoRow.holds Tryz.pinned (OpenSpec.upto surbBytesSpec)

end Rows
end Go.Proofs.YtfehjfoajlfhfaaGreatDoor
