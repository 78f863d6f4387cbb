/-
  No cell of these rows narrows 'for every input' (looked for: loops, veiled, ifaces, maps, wideKeys, modest, calm, conditions, laid).
  DERIVED. THE GIVEN ROWS OF THIS SEAT. 6 by the template 'for every input the law returns true; each argument reads behind the call as it read before'; 0 by the template 'total and deterministic' (their statements: YtiimeklgjoclpaaTotals.lean).
  GIVEN WITH THE SEED: the statements are not yours to turn. If you find one false, say at which input.
  Laid BY PROGRAM, IN A SANDBOX (cutbox-rows.mjs): the forced cells as the released guide's own fill.sh prints them over the translation 3182e25267932e8a… (all of the seat's roots in one cut). By AI agents, Wed Nov 11 2026. No macro, syntax, notation, axiom, sorry.
-/
import Derived.Test.YtiimeklgjoclpaaChecked
import GoSem.Claim
import GoSem.ClaimJoined
import GoSem.ClaimMapViews
import Derived.JoinedTies
import Derived.KernelRfl
namespace Go.Proofs.Ytiimeklgjoclpaa
/- THE CELL 'sum', in the pinned program and in every row, IS THE sha256 OF THE DUMP (.gsa) THAT YtiimeklgjoclpaaProg.lean LOADS. Nothing in Lean hashes anything: it is a label: what it is worth is what the hold of that sum in a sandbox is worth. -/
noncomputable def Try.pinned : Pinned := { name := "ytiimeklgjoclpaa", sum := "3182e25267932e8ae686125e9200db0fc385ec1ed2ae2ec662d94fb455eafea5", checked := Try.checked }
namespace Rows
def none {H : Type} : Left H := { results := [], args := [] }

/-- 'pigeonrylaw21.SegmentRooms': WHATEVER THE INPUT: true; the input reads as it did. -/
def segmentRoomsSpec : ChangeSpec := { name := "segmentRooms", fn := fun _ => fun
  | [d1, d2] => { results := [.lit (.bool true)], args := [d1, d2] }
  | _ => none }
def segmentRoomsRow : OpenClaim := { program := "ytiimeklgjoclpaa", sum := "3182e25267932e8ae686125e9200db0fc385ec1ed2ae2ec662d94fb455eafea5", func := "pigeonry/pigeonrylaw21.SegmentRooms", spec := "segmentRooms", unfollowed := true, recurses := true, apart := false }
def SegmentRoomsSaid : Prop := segmentRoomsRow.holds Try.pinned (OpenSpec.ofChange segmentRoomsSpec)

/-- ITS FALSE NEIGHBOUR: 'it returns false'. Refute it at one input. -/
def segmentRoomsWrong : ChangeSpec := { name := "segmentRooms", fn := fun _ => fun
  | [d1, d2] => { results := [.lit (.bool false)], args := [d1, d2] }
  | _ => none }
def SegmentRoomsWrongFalsely : Prop := segmentRoomsRow.holds Try.pinned (OpenSpec.ofChange segmentRoomsWrong)

/-- 'pigeonrylaw21.SegmentCuts': WHATEVER THE INPUT: true; the input reads as it did. -/
def segmentCutsSpec : ChangeSpec := { name := "segmentCuts", fn := fun _ => fun
  | [d1, d2, d3] => { results := [.lit (.bool true)], args := [d1, d2, d3] }
  | _ => none }
def segmentCutsRow : OpenClaim := { program := "ytiimeklgjoclpaa", sum := "3182e25267932e8ae686125e9200db0fc385ec1ed2ae2ec662d94fb455eafea5", func := "pigeonry/pigeonrylaw21.SegmentCuts", spec := "segmentCuts", unfollowed := true, recurses := true, apart := false }
def SegmentCutsSaid : Prop := segmentCutsRow.holds Try.pinned (OpenSpec.ofChange segmentCutsSpec)

/-- ITS FALSE NEIGHBOUR: 'it returns false'. Refute it at one input. -/
def segmentCutsWrong : ChangeSpec := { name := "segmentCuts", fn := fun _ => fun
  | [d1, d2, d3] => { results := [.lit (.bool false)], args := [d1, d2, d3] }
  | _ => none }
def SegmentCutsWrongFalsely : Prop := segmentCutsRow.holds Try.pinned (OpenSpec.ofChange segmentCutsWrong)

/-- 'pigeonrylaw21.SegmentBack': WHATEVER THE INPUT: true; the input reads as it did. -/
def segmentBackSpec : ChangeSpec := { name := "segmentBack", fn := fun _ => fun
  | [d1, d2] => { results := [.lit (.bool true)], args := [d1, d2] }
  | _ => none }
def segmentBackRow : OpenClaim := { program := "ytiimeklgjoclpaa", sum := "3182e25267932e8ae686125e9200db0fc385ec1ed2ae2ec662d94fb455eafea5", func := "pigeonry/pigeonrylaw21.SegmentBack", spec := "segmentBack", unfollowed := true, recurses := true, apart := false }
def SegmentBackSaid : Prop := segmentBackRow.holds Try.pinned (OpenSpec.ofChange segmentBackSpec)

/-- ITS FALSE NEIGHBOUR: 'it returns false'. Refute it at one input. -/
def segmentBackWrong : ChangeSpec := { name := "segmentBack", fn := fun _ => fun
  | [d1, d2] => { results := [.lit (.bool false)], args := [d1, d2] }
  | _ => none }
def SegmentBackWrongFalsely : Prop := segmentBackRow.holds Try.pinned (OpenSpec.ofChange segmentBackWrong)

/-- 'pigeonrylaw21.SegmentWhole': WHATEVER THE INPUT: true; the input reads as it did. -/
def segmentWholeSpec : ChangeSpec := { name := "segmentWhole", fn := fun _ => fun
  | [d1, d2] => { results := [.lit (.bool true)], args := [d1, d2] }
  | _ => none }
def segmentWholeRow : OpenClaim := { program := "ytiimeklgjoclpaa", sum := "3182e25267932e8ae686125e9200db0fc385ec1ed2ae2ec662d94fb455eafea5", func := "pigeonry/pigeonrylaw21.SegmentWhole", spec := "segmentWhole", unfollowed := true, recurses := true, apart := false }
def SegmentWholeSaid : Prop := segmentWholeRow.holds Try.pinned (OpenSpec.ofChange segmentWholeSpec)

/-- ITS FALSE NEIGHBOUR: 'it returns false'. Refute it at one input. -/
def segmentWholeWrong : ChangeSpec := { name := "segmentWhole", fn := fun _ => fun
  | [d1, d2] => { results := [.lit (.bool false)], args := [d1, d2] }
  | _ => none }
def SegmentWholeWrongFalsely : Prop := segmentWholeRow.holds Try.pinned (OpenSpec.ofChange segmentWholeWrong)

/-- 'pigeonrylaw21.SegmentTakes': WHATEVER THE INPUT: true; the input reads as it did. -/
def segmentTakesSpec : ChangeSpec := { name := "segmentTakes", fn := fun _ => fun
  | [d1, d2] => { results := [.lit (.bool true)], args := [d1, d2] }
  | _ => none }
def segmentTakesRow : OpenClaim := { program := "ytiimeklgjoclpaa", sum := "3182e25267932e8ae686125e9200db0fc385ec1ed2ae2ec662d94fb455eafea5", func := "pigeonry/pigeonrylaw21.SegmentTakes", spec := "segmentTakes", unfollowed := true, recurses := true, apart := false }
def SegmentTakesSaid : Prop := segmentTakesRow.holds Try.pinned (OpenSpec.ofChange segmentTakesSpec)

/-- ITS FALSE NEIGHBOUR: 'it returns false'. Refute it at one input. -/
def segmentTakesWrong : ChangeSpec := { name := "segmentTakes", fn := fun _ => fun
  | [d1, d2] => { results := [.lit (.bool false)], args := [d1, d2] }
  | _ => none }
def SegmentTakesWrongFalsely : Prop := segmentTakesRow.holds Try.pinned (OpenSpec.ofChange segmentTakesWrong)

/-- 'pigeonrylaw21.SegmentNobody': WHATEVER THE INPUT: true; the input reads as it did. -/
def segmentNobodySpec : ChangeSpec := { name := "segmentNobody", fn := fun _ => fun
  | [d] => { results := [.lit (.bool true)], args := [d] }
  | _ => none }
def segmentNobodyRow : OpenClaim := { program := "ytiimeklgjoclpaa", sum := "3182e25267932e8ae686125e9200db0fc385ec1ed2ae2ec662d94fb455eafea5", func := "pigeonry/pigeonrylaw21.SegmentNobody", spec := "segmentNobody", unfollowed := true, recurses := true, apart := false }
def SegmentNobodySaid : Prop := segmentNobodyRow.holds Try.pinned (OpenSpec.ofChange segmentNobodySpec)

/-- ITS FALSE NEIGHBOUR: 'it returns false'. Refute it at one input. -/
def segmentNobodyWrong : ChangeSpec := { name := "segmentNobody", fn := fun _ => fun
  | [d] => { results := [.lit (.bool false)], args := [d] }
  | _ => none }
def SegmentNobodyWrongFalsely : Prop := segmentNobodyRow.holds Try.pinned (OpenSpec.ofChange segmentNobodyWrong)

/- THE SECOND FORM. 'bulk': how many values and letters a reading holds, each counted each time it is reached (what is shared counts as often as it is met; a slice's spare places count too). A statement '..UptoSaid' is the law's where the arguments, and the package variables that the reading takes, are together of bulk at most 1048576: NARROWER than '..Said'. Prove '..Said' where nothing that the law and all that it calls make is longer than what came in: it says more and counts as full. Else prove '..UptoSaid'. A law counts once. -/
mutual
def uptoBulk {H : Type} : DataW H → Nat
  | .lit (.string bytes) => bytes.length + 1
  | .lit _ => 1
  | .nil => 1
  | .ptr d => uptoBulk d + 1
  | .slice elems spare => uptoBulkAll elems + uptoBulkAll spare + 1
  | .agg parts => uptoBulkAll parts + 1
  | .iface _ d => uptoBulk d + 1
  | .map entries => uptoBulkEntries entries + 1
  | .held _ => 1
def uptoBulkAll {H : Type} : List (DataW H) → Nat
  | [] => 0
  | d :: r => uptoBulk d + uptoBulkAll r
def uptoBulkEntries {H : Type} : List (Lit × DataW H) → Nat
  | [] => 0
  | x :: r => uptoBulkEntry x + uptoBulkEntries r
def uptoBulkEntry {H : Type} : Lit × DataW H → Nat
  | (.string bytes, d) => bytes.length + uptoBulk d + 1
  | (_, d) => uptoBulk d + 1
 end
def uptoSmall : (H : Type) → List (DataW H) → Bool := fun _ ds => decide (uptoBulkAll ds ≤ 1048576)
def OpenSpec.upto (s : _root_.Go.ChangeSpec) : _root_.Go.OpenSpec := { _root_.Go.OpenSpec.ofChange s with cond := some uptoSmall }

/-- 'pigeonrylaw21.SegmentRooms', WHERE WHAT IT READS IS OF BULK AT MOST 1048576: true; the input reads as it did. -/
def segmentRoomsUptoRow : OpenClaim := { program := "ytiimeklgjoclpaa", sum := "3182e25267932e8ae686125e9200db0fc385ec1ed2ae2ec662d94fb455eafea5", func := "pigeonry/pigeonrylaw21.SegmentRooms", spec := "segmentRooms", unfollowed := true, recurses := true, apart := false, narrowed := true }
def SegmentRoomsUptoSaid : Prop := segmentRoomsUptoRow.holds Try.pinned (OpenSpec.upto segmentRoomsSpec)

/-- 'pigeonrylaw21.SegmentCuts', WHERE WHAT IT READS IS OF BULK AT MOST 1048576: true; the input reads as it did. -/
def segmentCutsUptoRow : OpenClaim := { program := "ytiimeklgjoclpaa", sum := "3182e25267932e8ae686125e9200db0fc385ec1ed2ae2ec662d94fb455eafea5", func := "pigeonry/pigeonrylaw21.SegmentCuts", spec := "segmentCuts", unfollowed := true, recurses := true, apart := false, narrowed := true }
def SegmentCutsUptoSaid : Prop := segmentCutsUptoRow.holds Try.pinned (OpenSpec.upto segmentCutsSpec)

/-- 'pigeonrylaw21.SegmentBack', WHERE WHAT IT READS IS OF BULK AT MOST 1048576: true; the input reads as it did. -/
def segmentBackUptoRow : OpenClaim := { program := "ytiimeklgjoclpaa", sum := "3182e25267932e8ae686125e9200db0fc385ec1ed2ae2ec662d94fb455eafea5", func := "pigeonry/pigeonrylaw21.SegmentBack", spec := "segmentBack", unfollowed := true, recurses := true, apart := false, narrowed := true }
def SegmentBackUptoSaid : Prop := segmentBackUptoRow.holds Try.pinned (OpenSpec.upto segmentBackSpec)

/-- 'pigeonrylaw21.SegmentWhole', WHERE WHAT IT READS IS OF BULK AT MOST 1048576: true; the input reads as it did. -/
def segmentWholeUptoRow : OpenClaim := { program := "ytiimeklgjoclpaa", sum := "3182e25267932e8ae686125e9200db0fc385ec1ed2ae2ec662d94fb455eafea5", func := "pigeonry/pigeonrylaw21.SegmentWhole", spec := "segmentWhole", unfollowed := true, recurses := true, apart := false, narrowed := true }
def SegmentWholeUptoSaid : Prop := segmentWholeUptoRow.holds Try.pinned (OpenSpec.upto segmentWholeSpec)

/-- 'pigeonrylaw21.SegmentTakes', WHERE WHAT IT READS IS OF BULK AT MOST 1048576: true; the input reads as it did. -/
def segmentTakesUptoRow : OpenClaim := { program := "ytiimeklgjoclpaa", sum := "3182e25267932e8ae686125e9200db0fc385ec1ed2ae2ec662d94fb455eafea5", func := "pigeonry/pigeonrylaw21.SegmentTakes", spec := "segmentTakes", unfollowed := true, recurses := true, apart := false, narrowed := true }
def SegmentTakesUptoSaid : Prop := segmentTakesUptoRow.holds Try.pinned (OpenSpec.upto segmentTakesSpec)

/-- 'pigeonrylaw21.SegmentNobody', WHERE WHAT IT READS IS OF BULK AT MOST 1048576: true; the input reads as it did. -/
def segmentNobodyUptoRow : OpenClaim := { program := "ytiimeklgjoclpaa", sum := "3182e25267932e8ae686125e9200db0fc385ec1ed2ae2ec662d94fb455eafea5", func := "pigeonry/pigeonrylaw21.SegmentNobody", spec := "segmentNobody", unfollowed := true, recurses := true, apart := false, narrowed := true }
def SegmentNobodyUptoSaid : Prop := segmentNobodyUptoRow.holds Try.pinned (OpenSpec.upto segmentNobodySpec)

end Rows
end Go.Proofs.Ytiimeklgjoclpaa
