/-
  No cell of these rows narrows 'for every input' (looked for: loops, veiled, ifaces, maps, wideKeys, modest, calm, conditions, laid).
  DERIVED. THE GIVEN ROWS OF THIS SEAT. 9 by the template 'for every input the law returns true; each argument reads behind the call as it read before'; 0 by the template 'total and deterministic' (their statements: YtebbaokcgnjfiaaTotals.lean).
  GIVEN WITH THE SEED: the statements are not yours to turn. If you find one false, say at which input.
  Laid BY PROGRAM, IN A SANDBOX (cutbox-rows.mjs): the forced cells as the released guide's own fill.sh prints them over the translation e89b2341271906f2… (all of the seat's roots in one cut). By AI agents, Wed Nov 11 2026. No macro, syntax, notation, axiom, sorry.
-/
import Derived.Test.YtebbaokcgnjfiaaChecked
import GoSem.Claim
import GoSem.ClaimJoined
import GoSem.ClaimMapViews
import Derived.JoinedTies
import Derived.KernelRfl
namespace Go.Proofs.Ytebbaokcgnjfiaa
/- THE CELL 'sum', in the pinned program and in every row, IS THE sha256 OF THE DUMP (.gsa) THAT YtebbaokcgnjfiaaProg.lean LOADS. Nothing in Lean hashes anything: it is a label: what it is worth is what the hold of that sum in a sandbox is worth. -/
noncomputable def Try.pinned : Pinned := { name := "ytebbaokcgnjfiaa", sum := "e89b2341271906f28e87af99e747e82e738fe11da792d2c0755acde43d2490ef", checked := Try.checked }
namespace Rows
def none {H : Type} : Left H := { results := [], args := [] }

/-- 'portmanteaulaw16.DirentFinds': WHATEVER THE INPUT: true; the input reads as it did. -/
def direntFindsSpec : ChangeSpec := { name := "direntFinds", fn := fun _ => fun
  | [d1, d2] => { results := [.lit (.bool true)], args := [d1, d2] }
  | _ => none }
def direntFindsRow : OpenClaim := { program := "ytebbaokcgnjfiaa", sum := "e89b2341271906f28e87af99e747e82e738fe11da792d2c0755acde43d2490ef", func := "portmanteau/portmanteaulaw16.DirentFinds", spec := "direntFinds", inPlace := ["internal/bytealg.IndexByteString"], unfollowed := true, recurses := true, apart := false }
def DirentFindsSaid : Prop := direntFindsRow.holds Try.pinned (OpenSpec.ofChange direntFindsSpec)

/-- ITS FALSE NEIGHBOUR: 'it returns false'. Refute it at one input. -/
def direntFindsWrong : ChangeSpec := { name := "direntFinds", fn := fun _ => fun
  | [d1, d2] => { results := [.lit (.bool false)], args := [d1, d2] }
  | _ => none }
def DirentFindsWrongFalsely : Prop := direntFindsRow.holds Try.pinned (OpenSpec.ofChange direntFindsWrong)

/-- 'portmanteaulaw16.DirentEncodes': WHATEVER THE INPUT: true; the input reads as it did. -/
def direntEncodesSpec : ChangeSpec := { name := "direntEncodes", fn := fun _ => fun
  | [d] => { results := [.lit (.bool true)], args := [d] }
  | _ => none }
def direntEncodesRow : OpenClaim := { program := "ytebbaokcgnjfiaa", sum := "e89b2341271906f28e87af99e747e82e738fe11da792d2c0755acde43d2490ef", func := "portmanteau/portmanteaulaw16.DirentEncodes", spec := "direntEncodes", inPlace := ["internal/bytealg.IndexByteString"], unfollowed := true, recurses := true, apart := false }
def DirentEncodesSaid : Prop := direntEncodesRow.holds Try.pinned (OpenSpec.ofChange direntEncodesSpec)

/-- ITS FALSE NEIGHBOUR: 'it returns false'. Refute it at one input. -/
def direntEncodesWrong : ChangeSpec := { name := "direntEncodes", fn := fun _ => fun
  | [d] => { results := [.lit (.bool false)], args := [d] }
  | _ => none }
def DirentEncodesWrongFalsely : Prop := direntEncodesRow.holds Try.pinned (OpenSpec.ofChange direntEncodesWrong)

/-- 'portmanteaulaw16.DirentDecodes': WHATEVER THE INPUT: true; the input reads as it did. -/
def direntDecodesSpec : ChangeSpec := { name := "direntDecodes", fn := fun _ => fun
  | [d] => { results := [.lit (.bool true)], args := [d] }
  | _ => none }
def direntDecodesRow : OpenClaim := { program := "ytebbaokcgnjfiaa", sum := "e89b2341271906f28e87af99e747e82e738fe11da792d2c0755acde43d2490ef", func := "portmanteau/portmanteaulaw16.DirentDecodes", spec := "direntDecodes", inPlace := ["internal/bytealg.IndexByteString"], unfollowed := true, recurses := true, apart := false }
def DirentDecodesSaid : Prop := direntDecodesRow.holds Try.pinned (OpenSpec.ofChange direntDecodesSpec)

/-- ITS FALSE NEIGHBOUR: 'it returns false'. Refute it at one input. -/
def direntDecodesWrong : ChangeSpec := { name := "direntDecodes", fn := fun _ => fun
  | [d] => { results := [.lit (.bool false)], args := [d] }
  | _ => none }
def DirentDecodesWrongFalsely : Prop := direntDecodesRow.holds Try.pinned (OpenSpec.ofChange direntDecodesWrong)

/-- 'portmanteaulaw16.DirentRows': WHATEVER THE INPUT: true; the input reads as it did. -/
def direntRowsSpec : ChangeSpec := { name := "direntRows", fn := fun _ => fun
  | [d1, d2] => { results := [.lit (.bool true)], args := [d1, d2] }
  | _ => none }
def direntRowsRow : OpenClaim := { program := "ytebbaokcgnjfiaa", sum := "e89b2341271906f28e87af99e747e82e738fe11da792d2c0755acde43d2490ef", func := "portmanteau/portmanteaulaw16.DirentRows", spec := "direntRows", inPlace := ["internal/bytealg.IndexByteString"], unfollowed := true, recurses := true, apart := false }
def DirentRowsSaid : Prop := direntRowsRow.holds Try.pinned (OpenSpec.ofChange direntRowsSpec)

/-- ITS FALSE NEIGHBOUR: 'it returns false'. Refute it at one input. -/
def direntRowsWrong : ChangeSpec := { name := "direntRows", fn := fun _ => fun
  | [d1, d2] => { results := [.lit (.bool false)], args := [d1, d2] }
  | _ => none }
def DirentRowsWrongFalsely : Prop := direntRowsRow.holds Try.pinned (OpenSpec.ofChange direntRowsWrong)

/-- 'portmanteaulaw15.InodePlains': WHATEVER THE INPUT: true; the input reads as it did. -/
def inodePlainsSpec : ChangeSpec := { name := "inodePlains", fn := fun _ => fun
  | [d1, d2, d3] => { results := [.lit (.bool true)], args := [d1, d2, d3] }
  | _ => none }
def inodePlainsRow : OpenClaim := { program := "ytebbaokcgnjfiaa", sum := "e89b2341271906f28e87af99e747e82e738fe11da792d2c0755acde43d2490ef", func := "portmanteau/portmanteaulaw15.InodePlains", spec := "inodePlains", inPlace := ["internal/bytealg.IndexByteString"], unfollowed := true, recurses := true, apart := false }
def InodePlainsSaid : Prop := inodePlainsRow.holds Try.pinned (OpenSpec.ofChange inodePlainsSpec)

/-- ITS FALSE NEIGHBOUR: 'it returns false'. Refute it at one input. -/
def inodePlainsWrong : ChangeSpec := { name := "inodePlains", fn := fun _ => fun
  | [d1, d2, d3] => { results := [.lit (.bool false)], args := [d1, d2, d3] }
  | _ => none }
def InodePlainsWrongFalsely : Prop := inodePlainsRow.holds Try.pinned (OpenSpec.ofChange inodePlainsWrong)

/-- 'portmanteaulaw15.InodeEncodes': WHATEVER THE INPUT: true; the input reads as it did. -/
def inodeEncodesSpec : ChangeSpec := { name := "inodeEncodes", fn := fun _ => fun
  | [d] => { results := [.lit (.bool true)], args := [d] }
  | _ => none }
def inodeEncodesRow : OpenClaim := { program := "ytebbaokcgnjfiaa", sum := "e89b2341271906f28e87af99e747e82e738fe11da792d2c0755acde43d2490ef", func := "portmanteau/portmanteaulaw15.InodeEncodes", spec := "inodeEncodes", inPlace := ["internal/bytealg.IndexByteString"], unfollowed := true, recurses := true, apart := false }
def InodeEncodesSaid : Prop := inodeEncodesRow.holds Try.pinned (OpenSpec.ofChange inodeEncodesSpec)

/-- ITS FALSE NEIGHBOUR: 'it returns false'. Refute it at one input. -/
def inodeEncodesWrong : ChangeSpec := { name := "inodeEncodes", fn := fun _ => fun
  | [d] => { results := [.lit (.bool false)], args := [d] }
  | _ => none }
def InodeEncodesWrongFalsely : Prop := inodeEncodesRow.holds Try.pinned (OpenSpec.ofChange inodeEncodesWrong)

/-- 'portmanteaulaw15.InodeDecodes': WHATEVER THE INPUT: true; the input reads as it did. -/
def inodeDecodesSpec : ChangeSpec := { name := "inodeDecodes", fn := fun _ => fun
  | [d1, d2] => { results := [.lit (.bool true)], args := [d1, d2] }
  | _ => none }
def inodeDecodesRow : OpenClaim := { program := "ytebbaokcgnjfiaa", sum := "e89b2341271906f28e87af99e747e82e738fe11da792d2c0755acde43d2490ef", func := "portmanteau/portmanteaulaw15.InodeDecodes", spec := "inodeDecodes", inPlace := ["internal/bytealg.IndexByteString"], unfollowed := true, recurses := true, apart := false }
def InodeDecodesSaid : Prop := inodeDecodesRow.holds Try.pinned (OpenSpec.ofChange inodeDecodesSpec)

/-- ITS FALSE NEIGHBOUR: 'it returns false'. Refute it at one input. -/
def inodeDecodesWrong : ChangeSpec := { name := "inodeDecodes", fn := fun _ => fun
  | [d1, d2] => { results := [.lit (.bool false)], args := [d1, d2] }
  | _ => none }
def InodeDecodesWrongFalsely : Prop := inodeDecodesRow.holds Try.pinned (OpenSpec.ofChange inodeDecodesWrong)

/-- 'portmanteaulaw15.InodeBack': WHATEVER THE INPUT: true; the input reads as it did. -/
def inodeBackSpec : ChangeSpec := { name := "inodeBack", fn := fun _ => fun
  | [d1, d2, d3] => { results := [.lit (.bool true)], args := [d1, d2, d3] }
  | _ => none }
def inodeBackRow : OpenClaim := { program := "ytebbaokcgnjfiaa", sum := "e89b2341271906f28e87af99e747e82e738fe11da792d2c0755acde43d2490ef", func := "portmanteau/portmanteaulaw15.InodeBack", spec := "inodeBack", inPlace := ["internal/bytealg.IndexByteString"], unfollowed := true, recurses := true, apart := false }
def InodeBackSaid : Prop := inodeBackRow.holds Try.pinned (OpenSpec.ofChange inodeBackSpec)

/-- ITS FALSE NEIGHBOUR: 'it returns false'. Refute it at one input. -/
def inodeBackWrong : ChangeSpec := { name := "inodeBack", fn := fun _ => fun
  | [d1, d2, d3] => { results := [.lit (.bool false)], args := [d1, d2, d3] }
  | _ => none }
def InodeBackWrongFalsely : Prop := inodeBackRow.holds Try.pinned (OpenSpec.ofChange inodeBackWrong)

/-- 'portmanteaulaw28.GlobNames': WHATEVER THE INPUT: true; the input reads as it did. -/
def globNamesSpec : ChangeSpec := { name := "globNames", fn := fun _ => fun
  | [d1, d2] => { results := [.lit (.bool true)], args := [d1, d2] }
  | _ => none }
def globNamesRow : OpenClaim := { program := "ytebbaokcgnjfiaa", sum := "e89b2341271906f28e87af99e747e82e738fe11da792d2c0755acde43d2490ef", func := "portmanteau/portmanteaulaw28.GlobNames", spec := "globNames", inPlace := ["internal/bytealg.IndexByteString", "internal/bytealg.IndexString"], unfollowed := true, recurses := true, named := ["internal/bytealg.MaxLen"], apart := false }
def GlobNamesSaid : Prop := globNamesRow.holds Try.pinned (OpenSpec.ofChange globNamesSpec)

/-- ITS FALSE NEIGHBOUR: 'it returns false'. Refute it at one input. -/
def globNamesWrong : ChangeSpec := { name := "globNames", fn := fun _ => fun
  | [d1, d2] => { results := [.lit (.bool false)], args := [d1, d2] }
  | _ => none }
def GlobNamesWrongFalsely : Prop := globNamesRow.holds Try.pinned (OpenSpec.ofChange globNamesWrong)

/- THE SECOND FORM. 'bulk': how many values and letters a reading holds, each counted each time it is reached (what is shared counts as often as it is met; a slice's spare places count too). A statement '..UptoSaid' is the law's where the arguments, and the package variables that the reading takes, are together of bulk at most 1048576: NARROWER than '..Said'. Prove '..Said' where nothing that the law and all that it calls make is longer than what came in: it says more and counts as full. Else prove '..UptoSaid'. A law counts once. -/
mutual
def uptoBulk {H : Type} : DataW H → Nat
  | .lit (.string bytes) => bytes.length + 1
  | .lit _ => 1
  | .nil => 1
  | .ptr d => uptoBulk d + 1
  | .slice elems spare => uptoBulkAll elems + uptoBulkAll spare + 1
  | .agg parts => uptoBulkAll parts + 1
  | .iface _ d => uptoBulk d + 1
  | .map entries => uptoBulkEntries entries + 1
  | .held _ => 1
def uptoBulkAll {H : Type} : List (DataW H) → Nat
  | [] => 0
  | d :: r => uptoBulk d + uptoBulkAll r
def uptoBulkEntries {H : Type} : List (Lit × DataW H) → Nat
  | [] => 0
  | x :: r => uptoBulkEntry x + uptoBulkEntries r
def uptoBulkEntry {H : Type} : Lit × DataW H → Nat
  | (.string bytes, d) => bytes.length + uptoBulk d + 1
  | (_, d) => uptoBulk d + 1
 end
def uptoSmall : (H : Type) → List (DataW H) → Bool := fun _ ds => decide (uptoBulkAll ds ≤ 1048576)
def OpenSpec.upto (s : _root_.Go.ChangeSpec) : _root_.Go.OpenSpec := { _root_.Go.OpenSpec.ofChange s with cond := some uptoSmall }

/-- 'portmanteaulaw16.DirentFinds', WHERE WHAT IT READS IS OF BULK AT MOST 1048576: true; the input reads as it did. -/
def direntFindsUptoRow : OpenClaim := { program := "ytebbaokcgnjfiaa", sum := "e89b2341271906f28e87af99e747e82e738fe11da792d2c0755acde43d2490ef", func := "portmanteau/portmanteaulaw16.DirentFinds", spec := "direntFinds", inPlace := ["internal/bytealg.IndexByteString"], unfollowed := true, recurses := true, apart := false, narrowed := true }
def DirentFindsUptoSaid : Prop := direntFindsUptoRow.holds Try.pinned (OpenSpec.upto direntFindsSpec)

/-- 'portmanteaulaw16.DirentEncodes', WHERE WHAT IT READS IS OF BULK AT MOST 1048576: true; the input reads as it did. -/
def direntEncodesUptoRow : OpenClaim := { program := "ytebbaokcgnjfiaa", sum := "e89b2341271906f28e87af99e747e82e738fe11da792d2c0755acde43d2490ef", func := "portmanteau/portmanteaulaw16.DirentEncodes", spec := "direntEncodes", inPlace := ["internal/bytealg.IndexByteString"], unfollowed := true, recurses := true, apart := false, narrowed := true }
def DirentEncodesUptoSaid : Prop := direntEncodesUptoRow.holds Try.pinned (OpenSpec.upto direntEncodesSpec)

/-- 'portmanteaulaw16.DirentDecodes', WHERE WHAT IT READS IS OF BULK AT MOST 1048576: true; the input reads as it did. -/
def direntDecodesUptoRow : OpenClaim := { program := "ytebbaokcgnjfiaa", sum := "e89b2341271906f28e87af99e747e82e738fe11da792d2c0755acde43d2490ef", func := "portmanteau/portmanteaulaw16.DirentDecodes", spec := "direntDecodes", inPlace := ["internal/bytealg.IndexByteString"], unfollowed := true, recurses := true, apart := false, narrowed := true }
def DirentDecodesUptoSaid : Prop := direntDecodesUptoRow.holds Try.pinned (OpenSpec.upto direntDecodesSpec)

/-- 'portmanteaulaw16.DirentRows', WHERE WHAT IT READS IS OF BULK AT MOST 1048576: true; the input reads as it did. -/
def direntRowsUptoRow : OpenClaim := { program := "ytebbaokcgnjfiaa", sum := "e89b2341271906f28e87af99e747e82e738fe11da792d2c0755acde43d2490ef", func := "portmanteau/portmanteaulaw16.DirentRows", spec := "direntRows", inPlace := ["internal/bytealg.IndexByteString"], unfollowed := true, recurses := true, apart := false, narrowed := true }
def DirentRowsUptoSaid : Prop := direntRowsUptoRow.holds Try.pinned (OpenSpec.upto direntRowsSpec)

/-- 'portmanteaulaw15.InodePlains', WHERE WHAT IT READS IS OF BULK AT MOST 1048576: true; the input reads as it did. -/
def inodePlainsUptoRow : OpenClaim := { program := "ytebbaokcgnjfiaa", sum := "e89b2341271906f28e87af99e747e82e738fe11da792d2c0755acde43d2490ef", func := "portmanteau/portmanteaulaw15.InodePlains", spec := "inodePlains", inPlace := ["internal/bytealg.IndexByteString"], unfollowed := true, recurses := true, apart := false, narrowed := true }
def InodePlainsUptoSaid : Prop := inodePlainsUptoRow.holds Try.pinned (OpenSpec.upto inodePlainsSpec)

/-- 'portmanteaulaw15.InodeEncodes', WHERE WHAT IT READS IS OF BULK AT MOST 1048576: true; the input reads as it did. -/
def inodeEncodesUptoRow : OpenClaim := { program := "ytebbaokcgnjfiaa", sum := "e89b2341271906f28e87af99e747e82e738fe11da792d2c0755acde43d2490ef", func := "portmanteau/portmanteaulaw15.InodeEncodes", spec := "inodeEncodes", inPlace := ["internal/bytealg.IndexByteString"], unfollowed := true, recurses := true, apart := false, narrowed := true }
def InodeEncodesUptoSaid : Prop := inodeEncodesUptoRow.holds Try.pinned (OpenSpec.upto inodeEncodesSpec)

/-- 'portmanteaulaw15.InodeDecodes', WHERE WHAT IT READS IS OF BULK AT MOST 1048576: true; the input reads as it did. -/
def inodeDecodesUptoRow : OpenClaim := { program := "ytebbaokcgnjfiaa", sum := "e89b2341271906f28e87af99e747e82e738fe11da792d2c0755acde43d2490ef", func := "portmanteau/portmanteaulaw15.InodeDecodes", spec := "inodeDecodes", inPlace := ["internal/bytealg.IndexByteString"], unfollowed := true, recurses := true, apart := false, narrowed := true }
def InodeDecodesUptoSaid : Prop := inodeDecodesUptoRow.holds Try.pinned (OpenSpec.upto inodeDecodesSpec)

/-- 'portmanteaulaw15.InodeBack', WHERE WHAT IT READS IS OF BULK AT MOST 1048576: true; the input reads as it did. -/
def inodeBackUptoRow : OpenClaim := { program := "ytebbaokcgnjfiaa", sum := "e89b2341271906f28e87af99e747e82e738fe11da792d2c0755acde43d2490ef", func := "portmanteau/portmanteaulaw15.InodeBack", spec := "inodeBack", inPlace := ["internal/bytealg.IndexByteString"], unfollowed := true, recurses := true, apart := false, narrowed := true }
def InodeBackUptoSaid : Prop := inodeBackUptoRow.holds Try.pinned (OpenSpec.upto inodeBackSpec)

/-- 'portmanteaulaw28.GlobNames', WHERE WHAT IT READS IS OF BULK AT MOST 1048576: true; the input reads as it did. -/
def globNamesUptoRow : OpenClaim := { program := "ytebbaokcgnjfiaa", sum := "e89b2341271906f28e87af99e747e82e738fe11da792d2c0755acde43d2490ef", func := "portmanteau/portmanteaulaw28.GlobNames", spec := "globNames", inPlace := ["internal/bytealg.IndexByteString", "internal/bytealg.IndexString"], unfollowed := true, recurses := true, named := ["internal/bytealg.MaxLen"], apart := false, narrowed := true }
def GlobNamesUptoSaid : Prop := globNamesUptoRow.holds Try.pinned (OpenSpec.upto globNamesSpec)

end Rows
end Go.Proofs.Ytebbaokcgnjfiaa
