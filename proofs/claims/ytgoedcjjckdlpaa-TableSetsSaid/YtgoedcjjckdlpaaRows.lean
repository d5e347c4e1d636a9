/-
  No cell of these rows narrows 'for every input' (looked for: loops, veiled, ifaces, maps, wideKeys, modest, calm, conditions, laid).
  DERIVED. THE GIVEN ROWS OF THIS SEAT. 5 by the template 'for every input the law returns true; each argument reads behind the call as it read before'; 0 by the template 'total and deterministic' (their statements: YtgoedcjjckdlpaaTotals.lean).
  GIVEN WITH THE SEED: the statements are not yours to turn. If you find one false, say at which input.
  Laid BY PROGRAM, IN A SANDBOX (cutbox-rows.mjs): the forced cells as the released guide's own fill.sh prints them over the translation b4f81f145ed0eed5… (all of the seat's roots in one cut). By AI agents, Wed Nov 11 2026. No macro, syntax, notation, axiom, sorry.
-/
import Derived.Test.YtgoedcjjckdlpaaChecked
import GoSem.Claim
import GoSem.ClaimJoined
import GoSem.ClaimMapViews
import Derived.JoinedTies
import Derived.KernelRfl
namespace Go.Proofs.Ytgoedcjjckdlpaa
/- THE CELL 'sum', in the pinned program and in every row, IS THE sha256 OF THE DUMP (.gsa) THAT YtgoedcjjckdlpaaProg.lean LOADS. Nothing in Lean hashes anything: it is a label: what it is worth is what the hold of that sum in a sandbox is worth. -/
noncomputable def Try.pinned : Pinned := { name := "ytgoedcjjckdlpaa", sum := "b4f81f145ed0eed5b01bc97e0bad3ac66dec72cf1931e563a86c9597a7045854", checked := Try.checked }
namespace Rows
def none {H : Type} : Left H := { results := [], args := [] }

/-- 'portmanteaulaw17.TableIds': WHATEVER THE INPUT: true; the input reads as it did. -/
def tableIdsSpec : ChangeSpec := { name := "tableIds", fn := fun _ => fun
  | [d1, d2] => { results := [.lit (.bool true)], args := [d1, d2] }
  | _ => none }
def tableIdsRow : OpenClaim := { program := "ytgoedcjjckdlpaa", sum := "b4f81f145ed0eed5b01bc97e0bad3ac66dec72cf1931e563a86c9597a7045854", func := "portmanteau/portmanteaulaw17.TableIds", spec := "tableIds", inPlace := ["internal/bytealg.IndexByteString"], unfollowed := true, recurses := true, apart := false }
def TableIdsSaid : Prop := tableIdsRow.holds Try.pinned (OpenSpec.ofChange tableIdsSpec)

/-- ITS FALSE NEIGHBOUR: 'it returns false'. Refute it at one input. -/
def tableIdsWrong : ChangeSpec := { name := "tableIds", fn := fun _ => fun
  | [d1, d2] => { results := [.lit (.bool false)], args := [d1, d2] }
  | _ => none }
def TableIdsWrongFalsely : Prop := tableIdsRow.holds Try.pinned (OpenSpec.ofChange tableIdsWrong)

/-- 'portmanteaulaw17.TableIdBytes': WHATEVER THE INPUT: true; the input reads as it did. -/
def tableIdBytesSpec : ChangeSpec := { name := "tableIdBytes", fn := fun _ => fun
  | [d1, d2] => { results := [.lit (.bool true)], args := [d1, d2] }
  | _ => none }
def tableIdBytesRow : OpenClaim := { program := "ytgoedcjjckdlpaa", sum := "b4f81f145ed0eed5b01bc97e0bad3ac66dec72cf1931e563a86c9597a7045854", func := "portmanteau/portmanteaulaw17.TableIdBytes", spec := "tableIdBytes", inPlace := ["internal/bytealg.IndexByteString"], unfollowed := true, recurses := true, apart := false }
def TableIdBytesSaid : Prop := tableIdBytesRow.holds Try.pinned (OpenSpec.ofChange tableIdBytesSpec)

/-- ITS FALSE NEIGHBOUR: 'it returns false'. Refute it at one input. -/
def tableIdBytesWrong : ChangeSpec := { name := "tableIdBytes", fn := fun _ => fun
  | [d1, d2] => { results := [.lit (.bool false)], args := [d1, d2] }
  | _ => none }
def TableIdBytesWrongFalsely : Prop := tableIdBytesRow.holds Try.pinned (OpenSpec.ofChange tableIdBytesWrong)

/-- 'portmanteaulaw17.TableAttrs': WHATEVER THE INPUT: true; the input reads as it did. -/
def tableAttrsSpec : ChangeSpec := { name := "tableAttrs", fn := fun _ => fun
  | [d1, d2, d3] => { results := [.lit (.bool true)], args := [d1, d2, d3] }
  | _ => none }
def tableAttrsRow : OpenClaim := { program := "ytgoedcjjckdlpaa", sum := "b4f81f145ed0eed5b01bc97e0bad3ac66dec72cf1931e563a86c9597a7045854", func := "portmanteau/portmanteaulaw17.TableAttrs", spec := "tableAttrs", inPlace := ["internal/bytealg.IndexByteString"], unfollowed := true, recurses := true, apart := false }
def TableAttrsSaid : Prop := tableAttrsRow.holds Try.pinned (OpenSpec.ofChange tableAttrsSpec)

/-- ITS FALSE NEIGHBOUR: 'it returns false'. Refute it at one input. -/
def tableAttrsWrong : ChangeSpec := { name := "tableAttrs", fn := fun _ => fun
  | [d1, d2, d3] => { results := [.lit (.bool false)], args := [d1, d2, d3] }
  | _ => none }
def TableAttrsWrongFalsely : Prop := tableAttrsRow.holds Try.pinned (OpenSpec.ofChange tableAttrsWrong)

/-- 'portmanteaulaw17.TableSets': WHATEVER THE INPUT: true; the input reads as it did. -/
def tableSetsSpec : ChangeSpec := { name := "tableSets", fn := fun _ => fun
  | [d1, d2] => { results := [.lit (.bool true)], args := [d1, d2] }
  | _ => none }
def tableSetsRow : OpenClaim := { program := "ytgoedcjjckdlpaa", sum := "b4f81f145ed0eed5b01bc97e0bad3ac66dec72cf1931e563a86c9597a7045854", func := "portmanteau/portmanteaulaw17.TableSets", spec := "tableSets", inPlace := ["internal/bytealg.IndexByteString"], unfollowed := true, recurses := true, apart := false }
def TableSetsSaid : Prop := tableSetsRow.holds Try.pinned (OpenSpec.ofChange tableSetsSpec)

/-- ITS FALSE NEIGHBOUR: 'it returns false'. Refute it at one input. -/
def tableSetsWrong : ChangeSpec := { name := "tableSets", fn := fun _ => fun
  | [d1, d2] => { results := [.lit (.bool false)], args := [d1, d2] }
  | _ => none }
def TableSetsWrongFalsely : Prop := tableSetsRow.holds Try.pinned (OpenSpec.ofChange tableSetsWrong)

/-- 'portmanteaulaw17.TableFrags': WHATEVER THE INPUT: true; the input reads as it did. -/
def tableFragsSpec : ChangeSpec := { name := "tableFrags", fn := fun _ => fun
  | [d1, d2] => { results := [.lit (.bool true)], args := [d1, d2] }
  | _ => none }
def tableFragsRow : OpenClaim := { program := "ytgoedcjjckdlpaa", sum := "b4f81f145ed0eed5b01bc97e0bad3ac66dec72cf1931e563a86c9597a7045854", func := "portmanteau/portmanteaulaw17.TableFrags", spec := "tableFrags", inPlace := ["internal/bytealg.IndexByteString"], unfollowed := true, recurses := true, apart := false }
def TableFragsSaid : Prop := tableFragsRow.holds Try.pinned (OpenSpec.ofChange tableFragsSpec)

/-- ITS FALSE NEIGHBOUR: 'it returns false'. Refute it at one input. -/
def tableFragsWrong : ChangeSpec := { name := "tableFrags", fn := fun _ => fun
  | [d1, d2] => { results := [.lit (.bool false)], args := [d1, d2] }
  | _ => none }
def TableFragsWrongFalsely : Prop := tableFragsRow.holds Try.pinned (OpenSpec.ofChange tableFragsWrong)

/- THE SECOND FORM. 'bulk': how many values and letters a reading holds, each counted each time it is reached (what is shared counts as often as it is met; a slice's spare places count too). A statement '..UptoSaid' is the law's where the arguments, and the package variables that the reading takes, are together of bulk at most 1048576: NARROWER than '..Said'. Prove '..Said' where nothing that the law and all that it calls make is longer than what came in: it says more and counts as full. Else prove '..UptoSaid'. A law counts once. -/
mutual
def uptoBulk {H : Type} : DataW H → Nat
  | .lit (.string bytes) => bytes.length + 1
  | .lit _ => 1
  | .nil => 1
  | .ptr d => uptoBulk d + 1
  | .slice elems spare => uptoBulkAll elems + uptoBulkAll spare + 1
  | .agg parts => uptoBulkAll parts + 1
  | .iface _ d => uptoBulk d + 1
  | .map entries => uptoBulkEntries entries + 1
  | .held _ => 1
def uptoBulkAll {H : Type} : List (DataW H) → Nat
  | [] => 0
  | d :: r => uptoBulk d + uptoBulkAll r
def uptoBulkEntries {H : Type} : List (Lit × DataW H) → Nat
  | [] => 0
  | x :: r => uptoBulkEntry x + uptoBulkEntries r
def uptoBulkEntry {H : Type} : Lit × DataW H → Nat
  | (.string bytes, d) => bytes.length + uptoBulk d + 1
  | (_, d) => uptoBulk d + 1
 end
def uptoSmall : (H : Type) → List (DataW H) → Bool := fun _ ds => decide (uptoBulkAll ds ≤ 1048576)
def OpenSpec.upto (s : _root_.Go.ChangeSpec) : _root_.Go.OpenSpec := { _root_.Go.OpenSpec.ofChange s with cond := some uptoSmall }

/-- 'portmanteaulaw17.TableIds', WHERE WHAT IT READS IS OF BULK AT MOST 1048576: true; the input reads as it did. -/
def tableIdsUptoRow : OpenClaim := { program := "ytgoedcjjckdlpaa", sum := "b4f81f145ed0eed5b01bc97e0bad3ac66dec72cf1931e563a86c9597a7045854", func := "portmanteau/portmanteaulaw17.TableIds", spec := "tableIds", inPlace := ["internal/bytealg.IndexByteString"], unfollowed := true, recurses := true, apart := false, narrowed := true }
def TableIdsUptoSaid : Prop := tableIdsUptoRow.holds Try.pinned (OpenSpec.upto tableIdsSpec)

/-- 'portmanteaulaw17.TableIdBytes', WHERE WHAT IT READS IS OF BULK AT MOST 1048576: true; the input reads as it did. -/
def tableIdBytesUptoRow : OpenClaim := { program := "ytgoedcjjckdlpaa", sum := "b4f81f145ed0eed5b01bc97e0bad3ac66dec72cf1931e563a86c9597a7045854", func := "portmanteau/portmanteaulaw17.TableIdBytes", spec := "tableIdBytes", inPlace := ["internal/bytealg.IndexByteString"], unfollowed := true, recurses := true, apart := false, narrowed := true }
def TableIdBytesUptoSaid : Prop := tableIdBytesUptoRow.holds Try.pinned (OpenSpec.upto tableIdBytesSpec)

/-- 'portmanteaulaw17.TableAttrs', WHERE WHAT IT READS IS OF BULK AT MOST 1048576: true; the input reads as it did. -/
def tableAttrsUptoRow : OpenClaim := { program := "ytgoedcjjckdlpaa", sum := "b4f81f145ed0eed5b01bc97e0bad3ac66dec72cf1931e563a86c9597a7045854", func := "portmanteau/portmanteaulaw17.TableAttrs", spec := "tableAttrs", inPlace := ["internal/bytealg.IndexByteString"], unfollowed := true, recurses := true, apart := false, narrowed := true }
def TableAttrsUptoSaid : Prop := tableAttrsUptoRow.holds Try.pinned (OpenSpec.upto tableAttrsSpec)

/-- 'portmanteaulaw17.TableSets', WHERE WHAT IT READS IS OF BULK AT MOST 1048576: true; the input reads as it did. -/
def tableSetsUptoRow : OpenClaim := { program := "ytgoedcjjckdlpaa", sum := "b4f81f145ed0eed5b01bc97e0bad3ac66dec72cf1931e563a86c9597a7045854", func := "portmanteau/portmanteaulaw17.TableSets", spec := "tableSets", inPlace := ["internal/bytealg.IndexByteString"], unfollowed := true, recurses := true, apart := false, narrowed := true }
def TableSetsUptoSaid : Prop := tableSetsUptoRow.holds Try.pinned (OpenSpec.upto tableSetsSpec)

/-- 'portmanteaulaw17.TableFrags', WHERE WHAT IT READS IS OF BULK AT MOST 1048576: true; the input reads as it did. -/
def tableFragsUptoRow : OpenClaim := { program := "ytgoedcjjckdlpaa", sum := "b4f81f145ed0eed5b01bc97e0bad3ac66dec72cf1931e563a86c9597a7045854", func := "portmanteau/portmanteaulaw17.TableFrags", spec := "tableFrags", inPlace := ["internal/bytealg.IndexByteString"], unfollowed := true, recurses := true, apart := false, narrowed := true }
def TableFragsUptoSaid : Prop := tableFragsUptoRow.holds Try.pinned (OpenSpec.upto tableFragsSpec)

end Rows
end Go.Proofs.Ytgoedcjjckdlpaa
