/-
  No cell of these rows narrows 'for every input' (looked for: loops, veiled, ifaces, maps, wideKeys, modest, calm, conditions, laid).
  DERIVED. THE GIVEN ROWS OF THIS SEAT. 12 by the template 'for every input the law returns true; each argument reads behind the call as it read before'; 0 by the template 'total and deterministic' (their statements: YtgkiegplmohgkaaTotals.lean).
  GIVEN WITH THE SEED: the statements are not yours to turn. If you find one false, say at which input.
  Laid BY PROGRAM, IN A SANDBOX (cutbox-rows.mjs): the forced cells as the released guide's own fill.sh prints them over the translation 101ef9894e0fd736… (all of the seat's roots in one cut). By AI agents, Wed Nov 11 2026. No macro, syntax, notation, axiom, sorry.
-/
import Derived.Test.YtgkiegplmohgkaaChecked
import GoSem.Claim
import GoSem.ClaimJoined
import GoSem.ClaimMapViews
import Derived.JoinedTies
import Derived.KernelRfl
namespace Go.Proofs.Ytgkiegplmohgkaa
/- THE CELL 'sum', in the pinned program and in every row, IS THE sha256 OF THE DUMP (.gsa) THAT YtgkiegplmohgkaaProg.lean LOADS. Nothing in Lean hashes anything: it is a label: what it is worth is what the hold of that sum in a sandbox is worth. -/
noncomputable def Try.pinned : Pinned := { name := "ytgkiegplmohgkaa", sum := "101ef9894e0fd736ddb93e19e77ce63a8776e5bf17b297f157191c57dcfc222d", checked := Try.checked }
namespace Rows
def none {H : Type} : Left H := { results := [], args := [] }

/-- 'portmanteaulaw01.FieldGets': WHATEVER THE INPUT: true; the input reads as it did. -/
def fieldGetsSpec : ChangeSpec := { name := "fieldGets", fn := fun _ => fun
  | [d1, d2, d3] => { results := [.lit (.bool true)], args := [d1, d2, d3] }
  | _ => none }
def fieldGetsRow : OpenClaim := { program := "ytgkiegplmohgkaa", sum := "101ef9894e0fd736ddb93e19e77ce63a8776e5bf17b297f157191c57dcfc222d", func := "portmanteau/portmanteaulaw01.FieldGets", spec := "fieldGets", apart := false }
def FieldGetsSaid : Prop := fieldGetsRow.holds Try.pinned (OpenSpec.ofChange fieldGetsSpec)

/-- ITS FALSE NEIGHBOUR: 'it returns false'. Refute it at one input. -/
def fieldGetsWrong : ChangeSpec := { name := "fieldGets", fn := fun _ => fun
  | [d1, d2, d3] => { results := [.lit (.bool false)], args := [d1, d2, d3] }
  | _ => none }
def FieldGetsWrongFalsely : Prop := fieldGetsRow.holds Try.pinned (OpenSpec.ofChange fieldGetsWrong)

/-- 'portmanteaulaw01.FieldPuts': WHATEVER THE INPUT: true; the input reads as it did. -/
def fieldPutsSpec : ChangeSpec := { name := "fieldPuts", fn := fun _ => fun
  | [d1, d2, d3] => { results := [.lit (.bool true)], args := [d1, d2, d3] }
  | _ => none }
def fieldPutsRow : OpenClaim := { program := "ytgkiegplmohgkaa", sum := "101ef9894e0fd736ddb93e19e77ce63a8776e5bf17b297f157191c57dcfc222d", func := "portmanteau/portmanteaulaw01.FieldPuts", spec := "fieldPuts", apart := false }
def FieldPutsSaid : Prop := fieldPutsRow.holds Try.pinned (OpenSpec.ofChange fieldPutsSpec)

/-- ITS FALSE NEIGHBOUR: 'it returns false'. Refute it at one input. -/
def fieldPutsWrong : ChangeSpec := { name := "fieldPuts", fn := fun _ => fun
  | [d1, d2, d3] => { results := [.lit (.bool false)], args := [d1, d2, d3] }
  | _ => none }
def FieldPutsWrongFalsely : Prop := fieldPutsRow.holds Try.pinned (OpenSpec.ofChange fieldPutsWrong)

/-- 'portmanteaulaw01.FieldPlaces': WHATEVER THE INPUT: true; the input reads as it did. -/
def fieldPlacesSpec : ChangeSpec := { name := "fieldPlaces", fn := fun _ => fun
  | [d1, d2, d3, d4] => { results := [.lit (.bool true)], args := [d1, d2, d3, d4] }
  | _ => none }
def fieldPlacesRow : OpenClaim := { program := "ytgkiegplmohgkaa", sum := "101ef9894e0fd736ddb93e19e77ce63a8776e5bf17b297f157191c57dcfc222d", func := "portmanteau/portmanteaulaw01.FieldPlaces", spec := "fieldPlaces", apart := false }
def FieldPlacesSaid : Prop := fieldPlacesRow.holds Try.pinned (OpenSpec.ofChange fieldPlacesSpec)

/-- ITS FALSE NEIGHBOUR: 'it returns false'. Refute it at one input. -/
def fieldPlacesWrong : ChangeSpec := { name := "fieldPlaces", fn := fun _ => fun
  | [d1, d2, d3, d4] => { results := [.lit (.bool false)], args := [d1, d2, d3, d4] }
  | _ => none }
def FieldPlacesWrongFalsely : Prop := fieldPlacesRow.holds Try.pinned (OpenSpec.ofChange fieldPlacesWrong)

/-- 'portmanteaulaw01.FieldSets': WHATEVER THE INPUT: true; the input reads as it did. -/
def fieldSetsSpec : ChangeSpec := { name := "fieldSets", fn := fun _ => fun
  | [d1, d2, d3, d4] => { results := [.lit (.bool true)], args := [d1, d2, d3, d4] }
  | _ => none }
def fieldSetsRow : OpenClaim := { program := "ytgkiegplmohgkaa", sum := "101ef9894e0fd736ddb93e19e77ce63a8776e5bf17b297f157191c57dcfc222d", func := "portmanteau/portmanteaulaw01.FieldSets", spec := "fieldSets", apart := false }
def FieldSetsSaid : Prop := fieldSetsRow.holds Try.pinned (OpenSpec.ofChange fieldSetsSpec)

/-- ITS FALSE NEIGHBOUR: 'it returns false'. Refute it at one input. -/
def fieldSetsWrong : ChangeSpec := { name := "fieldSets", fn := fun _ => fun
  | [d1, d2, d3, d4] => { results := [.lit (.bool false)], args := [d1, d2, d3, d4] }
  | _ => none }
def FieldSetsWrongFalsely : Prop := fieldSetsRow.holds Try.pinned (OpenSpec.ofChange fieldSetsWrong)

/-- 'portmanteaulaw16.DirentFinds': WHATEVER THE INPUT: true; the input reads as it did. -/
def direntFindsSpec : ChangeSpec := { name := "direntFinds", fn := fun _ => fun
  | [d1, d2] => { results := [.lit (.bool true)], args := [d1, d2] }
  | _ => none }
def direntFindsRow : OpenClaim := { program := "ytgkiegplmohgkaa", sum := "101ef9894e0fd736ddb93e19e77ce63a8776e5bf17b297f157191c57dcfc222d", func := "portmanteau/portmanteaulaw16.DirentFinds", spec := "direntFinds", inPlace := ["internal/bytealg.IndexByteString"], unfollowed := true, recurses := true, apart := false }
def DirentFindsSaid : Prop := direntFindsRow.holds Try.pinned (OpenSpec.ofChange direntFindsSpec)

/-- ITS FALSE NEIGHBOUR: 'it returns false'. Refute it at one input. -/
def direntFindsWrong : ChangeSpec := { name := "direntFinds", fn := fun _ => fun
  | [d1, d2] => { results := [.lit (.bool false)], args := [d1, d2] }
  | _ => none }
def DirentFindsWrongFalsely : Prop := direntFindsRow.holds Try.pinned (OpenSpec.ofChange direntFindsWrong)

/-- 'portmanteaulaw01.FieldWrites': WHATEVER THE INPUT: true; the input reads as it did. -/
def fieldWritesSpec : ChangeSpec := { name := "fieldWrites", fn := fun _ => fun
  | [d1, d2] => { results := [.lit (.bool true)], args := [d1, d2] }
  | _ => none }
def fieldWritesRow : OpenClaim := { program := "ytgkiegplmohgkaa", sum := "101ef9894e0fd736ddb93e19e77ce63a8776e5bf17b297f157191c57dcfc222d", func := "portmanteau/portmanteaulaw01.FieldWrites", spec := "fieldWrites", apart := false }
def FieldWritesSaid : Prop := fieldWritesRow.holds Try.pinned (OpenSpec.ofChange fieldWritesSpec)

/-- ITS FALSE NEIGHBOUR: 'it returns false'. Refute it at one input. -/
def fieldWritesWrong : ChangeSpec := { name := "fieldWrites", fn := fun _ => fun
  | [d1, d2] => { results := [.lit (.bool false)], args := [d1, d2] }
  | _ => none }
def FieldWritesWrongFalsely : Prop := fieldWritesRow.holds Try.pinned (OpenSpec.ofChange fieldWritesWrong)

/-- 'portmanteaulaw01.FieldReads': WHATEVER THE INPUT: true; the input reads as it did. -/
def fieldReadsSpec : ChangeSpec := { name := "fieldReads", fn := fun _ => fun
  | [d1, d2] => { results := [.lit (.bool true)], args := [d1, d2] }
  | _ => none }
def fieldReadsRow : OpenClaim := { program := "ytgkiegplmohgkaa", sum := "101ef9894e0fd736ddb93e19e77ce63a8776e5bf17b297f157191c57dcfc222d", func := "portmanteau/portmanteaulaw01.FieldReads", spec := "fieldReads", apart := false }
def FieldReadsSaid : Prop := fieldReadsRow.holds Try.pinned (OpenSpec.ofChange fieldReadsSpec)

/-- ITS FALSE NEIGHBOUR: 'it returns false'. Refute it at one input. -/
def fieldReadsWrong : ChangeSpec := { name := "fieldReads", fn := fun _ => fun
  | [d1, d2] => { results := [.lit (.bool false)], args := [d1, d2] }
  | _ => none }
def FieldReadsWrongFalsely : Prop := fieldReadsRow.holds Try.pinned (OpenSpec.ofChange fieldReadsWrong)

/-- 'portmanteaulaw01.FieldBack': WHATEVER THE INPUT: true; the input reads as it did. -/
def fieldBackSpec : ChangeSpec := { name := "fieldBack", fn := fun _ => fun
  | [d] => { results := [.lit (.bool true)], args := [d] }
  | _ => none }
def fieldBackRow : OpenClaim := { program := "ytgkiegplmohgkaa", sum := "101ef9894e0fd736ddb93e19e77ce63a8776e5bf17b297f157191c57dcfc222d", func := "portmanteau/portmanteaulaw01.FieldBack", spec := "fieldBack", apart := false }
def FieldBackSaid : Prop := fieldBackRow.holds Try.pinned (OpenSpec.ofChange fieldBackSpec)

/-- ITS FALSE NEIGHBOUR: 'it returns false'. Refute it at one input. -/
def fieldBackWrong : ChangeSpec := { name := "fieldBack", fn := fun _ => fun
  | [d] => { results := [.lit (.bool false)], args := [d] }
  | _ => none }
def FieldBackWrongFalsely : Prop := fieldBackRow.holds Try.pinned (OpenSpec.ofChange fieldBackWrong)

/-- 'portmanteaulaw16.DirentEncodes': WHATEVER THE INPUT: true; the input reads as it did. -/
def direntEncodesSpec : ChangeSpec := { name := "direntEncodes", fn := fun _ => fun
  | [d] => { results := [.lit (.bool true)], args := [d] }
  | _ => none }
def direntEncodesRow : OpenClaim := { program := "ytgkiegplmohgkaa", sum := "101ef9894e0fd736ddb93e19e77ce63a8776e5bf17b297f157191c57dcfc222d", func := "portmanteau/portmanteaulaw16.DirentEncodes", spec := "direntEncodes", inPlace := ["internal/bytealg.IndexByteString"], unfollowed := true, recurses := true, apart := false }
def DirentEncodesSaid : Prop := direntEncodesRow.holds Try.pinned (OpenSpec.ofChange direntEncodesSpec)

/-- ITS FALSE NEIGHBOUR: 'it returns false'. Refute it at one input. -/
def direntEncodesWrong : ChangeSpec := { name := "direntEncodes", fn := fun _ => fun
  | [d] => { results := [.lit (.bool false)], args := [d] }
  | _ => none }
def DirentEncodesWrongFalsely : Prop := direntEncodesRow.holds Try.pinned (OpenSpec.ofChange direntEncodesWrong)

/-- 'portmanteaulaw16.DirentDecodes': WHATEVER THE INPUT: true; the input reads as it did. -/
def direntDecodesSpec : ChangeSpec := { name := "direntDecodes", fn := fun _ => fun
  | [d] => { results := [.lit (.bool true)], args := [d] }
  | _ => none }
def direntDecodesRow : OpenClaim := { program := "ytgkiegplmohgkaa", sum := "101ef9894e0fd736ddb93e19e77ce63a8776e5bf17b297f157191c57dcfc222d", func := "portmanteau/portmanteaulaw16.DirentDecodes", spec := "direntDecodes", inPlace := ["internal/bytealg.IndexByteString"], unfollowed := true, recurses := true, apart := false }
def DirentDecodesSaid : Prop := direntDecodesRow.holds Try.pinned (OpenSpec.ofChange direntDecodesSpec)

/-- ITS FALSE NEIGHBOUR: 'it returns false'. Refute it at one input. -/
def direntDecodesWrong : ChangeSpec := { name := "direntDecodes", fn := fun _ => fun
  | [d] => { results := [.lit (.bool false)], args := [d] }
  | _ => none }
def DirentDecodesWrongFalsely : Prop := direntDecodesRow.holds Try.pinned (OpenSpec.ofChange direntDecodesWrong)

/-- 'portmanteaulaw16.DirentRows': WHATEVER THE INPUT: true; the input reads as it did. -/
def direntRowsSpec : ChangeSpec := { name := "direntRows", fn := fun _ => fun
  | [d1, d2] => { results := [.lit (.bool true)], args := [d1, d2] }
  | _ => none }
def direntRowsRow : OpenClaim := { program := "ytgkiegplmohgkaa", sum := "101ef9894e0fd736ddb93e19e77ce63a8776e5bf17b297f157191c57dcfc222d", func := "portmanteau/portmanteaulaw16.DirentRows", spec := "direntRows", inPlace := ["internal/bytealg.IndexByteString"], unfollowed := true, recurses := true, apart := false }
def DirentRowsSaid : Prop := direntRowsRow.holds Try.pinned (OpenSpec.ofChange direntRowsSpec)

/-- ITS FALSE NEIGHBOUR: 'it returns false'. Refute it at one input. -/
def direntRowsWrong : ChangeSpec := { name := "direntRows", fn := fun _ => fun
  | [d1, d2] => { results := [.lit (.bool false)], args := [d1, d2] }
  | _ => none }
def DirentRowsWrongFalsely : Prop := direntRowsRow.holds Try.pinned (OpenSpec.ofChange direntRowsWrong)

/-- 'portmanteaulaw01.FieldNils': WHATEVER THE INPUT: true; the input reads as it did. -/
def fieldNilsSpec : ChangeSpec := { name := "fieldNils", fn := fun _ => fun
  | [d] => { results := [.lit (.bool true)], args := [d] }
  | _ => none }
def fieldNilsRow : OpenClaim := { program := "ytgkiegplmohgkaa", sum := "101ef9894e0fd736ddb93e19e77ce63a8776e5bf17b297f157191c57dcfc222d", func := "portmanteau/portmanteaulaw01.FieldNils", spec := "fieldNils", apart := false }
def FieldNilsSaid : Prop := fieldNilsRow.holds Try.pinned (OpenSpec.ofChange fieldNilsSpec)

/-- ITS FALSE NEIGHBOUR: 'it returns false'. Refute it at one input. -/
def fieldNilsWrong : ChangeSpec := { name := "fieldNils", fn := fun _ => fun
  | [d] => { results := [.lit (.bool false)], args := [d] }
  | _ => none }
def FieldNilsWrongFalsely : Prop := fieldNilsRow.holds Try.pinned (OpenSpec.ofChange fieldNilsWrong)

/- THE SECOND FORM. 'bulk': how many values and letters a reading holds, each counted each time it is reached (what is shared counts as often as it is met; a slice's spare places count too). A statement '..UptoSaid' is the law's where the arguments, and the package variables that the reading takes, are together of bulk at most 1048576: NARROWER than '..Said'. Prove '..Said' where nothing that the law and all that it calls make is longer than what came in: it says more and counts as full. Else prove '..UptoSaid'. A law counts once. -/
mutual
def uptoBulk {H : Type} : DataW H → Nat
  | .lit (.string bytes) => bytes.length + 1
  | .lit _ => 1
  | .nil => 1
  | .ptr d => uptoBulk d + 1
  | .slice elems spare => uptoBulkAll elems + uptoBulkAll spare + 1
  | .agg parts => uptoBulkAll parts + 1
  | .iface _ d => uptoBulk d + 1
  | .map entries => uptoBulkEntries entries + 1
  | .held _ => 1
def uptoBulkAll {H : Type} : List (DataW H) → Nat
  | [] => 0
  | d :: r => uptoBulk d + uptoBulkAll r
def uptoBulkEntries {H : Type} : List (Lit × DataW H) → Nat
  | [] => 0
  | x :: r => uptoBulkEntry x + uptoBulkEntries r
def uptoBulkEntry {H : Type} : Lit × DataW H → Nat
  | (.string bytes, d) => bytes.length + uptoBulk d + 1
  | (_, d) => uptoBulk d + 1
 end
def uptoSmall : (H : Type) → List (DataW H) → Bool := fun _ ds => decide (uptoBulkAll ds ≤ 1048576)
def OpenSpec.upto (s : _root_.Go.ChangeSpec) : _root_.Go.OpenSpec := { _root_.Go.OpenSpec.ofChange s with cond := some uptoSmall }

/-- 'portmanteaulaw01.FieldGets', WHERE WHAT IT READS IS OF BULK AT MOST 1048576: true; the input reads as it did. -/
def fieldGetsUptoRow : OpenClaim := { program := "ytgkiegplmohgkaa", sum := "101ef9894e0fd736ddb93e19e77ce63a8776e5bf17b297f157191c57dcfc222d", func := "portmanteau/portmanteaulaw01.FieldGets", spec := "fieldGets", apart := false, narrowed := true }
def FieldGetsUptoSaid : Prop := fieldGetsUptoRow.holds Try.pinned (OpenSpec.upto fieldGetsSpec)

/-- 'portmanteaulaw01.FieldPuts', WHERE WHAT IT READS IS OF BULK AT MOST 1048576: true; the input reads as it did. -/
def fieldPutsUptoRow : OpenClaim := { program := "ytgkiegplmohgkaa", sum := "101ef9894e0fd736ddb93e19e77ce63a8776e5bf17b297f157191c57dcfc222d", func := "portmanteau/portmanteaulaw01.FieldPuts", spec := "fieldPuts", apart := false, narrowed := true }
def FieldPutsUptoSaid : Prop := fieldPutsUptoRow.holds Try.pinned (OpenSpec.upto fieldPutsSpec)

/-- 'portmanteaulaw01.FieldPlaces', WHERE WHAT IT READS IS OF BULK AT MOST 1048576: true; the input reads as it did. -/
def fieldPlacesUptoRow : OpenClaim := { program := "ytgkiegplmohgkaa", sum := "101ef9894e0fd736ddb93e19e77ce63a8776e5bf17b297f157191c57dcfc222d", func := "portmanteau/portmanteaulaw01.FieldPlaces", spec := "fieldPlaces", apart := false, narrowed := true }
def FieldPlacesUptoSaid : Prop := fieldPlacesUptoRow.holds Try.pinned (OpenSpec.upto fieldPlacesSpec)

/-- 'portmanteaulaw01.FieldSets', WHERE WHAT IT READS IS OF BULK AT MOST 1048576: true; the input reads as it did. -/
def fieldSetsUptoRow : OpenClaim := { program := "ytgkiegplmohgkaa", sum := "101ef9894e0fd736ddb93e19e77ce63a8776e5bf17b297f157191c57dcfc222d", func := "portmanteau/portmanteaulaw01.FieldSets", spec := "fieldSets", apart := false, narrowed := true }
def FieldSetsUptoSaid : Prop := fieldSetsUptoRow.holds Try.pinned (OpenSpec.upto fieldSetsSpec)

/-- 'portmanteaulaw16.DirentFinds', WHERE WHAT IT READS IS OF BULK AT MOST 1048576: true; the input reads as it did. -/
def direntFindsUptoRow : OpenClaim := { program := "ytgkiegplmohgkaa", sum := "101ef9894e0fd736ddb93e19e77ce63a8776e5bf17b297f157191c57dcfc222d", func := "portmanteau/portmanteaulaw16.DirentFinds", spec := "direntFinds", inPlace := ["internal/bytealg.IndexByteString"], unfollowed := true, recurses := true, apart := false, narrowed := true }
def DirentFindsUptoSaid : Prop := direntFindsUptoRow.holds Try.pinned (OpenSpec.upto direntFindsSpec)

/-- 'portmanteaulaw01.FieldWrites', WHERE WHAT IT READS IS OF BULK AT MOST 1048576: true; the input reads as it did. -/
def fieldWritesUptoRow : OpenClaim := { program := "ytgkiegplmohgkaa", sum := "101ef9894e0fd736ddb93e19e77ce63a8776e5bf17b297f157191c57dcfc222d", func := "portmanteau/portmanteaulaw01.FieldWrites", spec := "fieldWrites", apart := false, narrowed := true }
def FieldWritesUptoSaid : Prop := fieldWritesUptoRow.holds Try.pinned (OpenSpec.upto fieldWritesSpec)

/-- 'portmanteaulaw01.FieldReads', WHERE WHAT IT READS IS OF BULK AT MOST 1048576: true; the input reads as it did. -/
def fieldReadsUptoRow : OpenClaim := { program := "ytgkiegplmohgkaa", sum := "101ef9894e0fd736ddb93e19e77ce63a8776e5bf17b297f157191c57dcfc222d", func := "portmanteau/portmanteaulaw01.FieldReads", spec := "fieldReads", apart := false, narrowed := true }
def FieldReadsUptoSaid : Prop := fieldReadsUptoRow.holds Try.pinned (OpenSpec.upto fieldReadsSpec)

/-- 'portmanteaulaw01.FieldBack', WHERE WHAT IT READS IS OF BULK AT MOST 1048576: true; the input reads as it did. -/
def fieldBackUptoRow : OpenClaim := { program := "ytgkiegplmohgkaa", sum := "101ef9894e0fd736ddb93e19e77ce63a8776e5bf17b297f157191c57dcfc222d", func := "portmanteau/portmanteaulaw01.FieldBack", spec := "fieldBack", apart := false, narrowed := true }
def FieldBackUptoSaid : Prop := fieldBackUptoRow.holds Try.pinned (OpenSpec.upto fieldBackSpec)

/-- 'portmanteaulaw16.DirentEncodes', WHERE WHAT IT READS IS OF BULK AT MOST 1048576: true; the input reads as it did. -/
def direntEncodesUptoRow : OpenClaim := { program := "ytgkiegplmohgkaa", sum := "101ef9894e0fd736ddb93e19e77ce63a8776e5bf17b297f157191c57dcfc222d", func := "portmanteau/portmanteaulaw16.DirentEncodes", spec := "direntEncodes", inPlace := ["internal/bytealg.IndexByteString"], unfollowed := true, recurses := true, apart := false, narrowed := true }
def DirentEncodesUptoSaid : Prop := direntEncodesUptoRow.holds Try.pinned (OpenSpec.upto direntEncodesSpec)

/-- 'portmanteaulaw16.DirentDecodes', WHERE WHAT IT READS IS OF BULK AT MOST 1048576: true; the input reads as it did. -/
def direntDecodesUptoRow : OpenClaim := { program := "ytgkiegplmohgkaa", sum := "101ef9894e0fd736ddb93e19e77ce63a8776e5bf17b297f157191c57dcfc222d", func := "portmanteau/portmanteaulaw16.DirentDecodes", spec := "direntDecodes", inPlace := ["internal/bytealg.IndexByteString"], unfollowed := true, recurses := true, apart := false, narrowed := true }
def DirentDecodesUptoSaid : Prop := direntDecodesUptoRow.holds Try.pinned (OpenSpec.upto direntDecodesSpec)

/-- 'portmanteaulaw16.DirentRows', WHERE WHAT IT READS IS OF BULK AT MOST 1048576: true; the input reads as it did. -/
def direntRowsUptoRow : OpenClaim := { program := "ytgkiegplmohgkaa", sum := "101ef9894e0fd736ddb93e19e77ce63a8776e5bf17b297f157191c57dcfc222d", func := "portmanteau/portmanteaulaw16.DirentRows", spec := "direntRows", inPlace := ["internal/bytealg.IndexByteString"], unfollowed := true, recurses := true, apart := false, narrowed := true }
def DirentRowsUptoSaid : Prop := direntRowsUptoRow.holds Try.pinned (OpenSpec.upto direntRowsSpec)

/-- 'portmanteaulaw01.FieldNils', WHERE WHAT IT READS IS OF BULK AT MOST 1048576: true; the input reads as it did. -/
def fieldNilsUptoRow : OpenClaim := { program := "ytgkiegplmohgkaa", sum := "101ef9894e0fd736ddb93e19e77ce63a8776e5bf17b297f157191c57dcfc222d", func := "portmanteau/portmanteaulaw01.FieldNils", spec := "fieldNils", apart := false, narrowed := true }
def FieldNilsUptoSaid : Prop := fieldNilsUptoRow.holds Try.pinned (OpenSpec.upto fieldNilsSpec)

end Rows
end Go.Proofs.Ytgkiegplmohgkaa
