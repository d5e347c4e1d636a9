/-
  NARROWER THAN 'FOR EVERY INPUT', by the rows' own cells (each row's printed sentence says how): DiffTells: laid · DiffFields: laid · DiffMerges: laid · DiffSides: laid · DiffApplies: laid · DiffBack: laid · GlobAll: laid · ReportUsage: laid · ReportLargest: laid · ReportTwins: laid · ManifestTrees: laid · TreeLists: laid.
  DERIVED. THE GIVEN ROWS OF THIS SEAT. 12 by the template 'for every input the law returns true; each argument reads behind the call as it read before'; 0 by the template 'total and deterministic' (their statements: YtkleajhiihbefaaGreatDoorTotals.lean).
  GIVEN WITH THE SEED: the statements are not yours to turn. If you find one false, say at which input.
  Laid BY PROGRAM, IN A SANDBOX (cutbox-rows.mjs): the forced cells as the released guide's own fill.sh prints them over the translation 7fe74fd8bd611667… (all of the seat's roots in one cut). By AI agents, Wed Nov 11 2026. No macro, syntax, notation, axiom, sorry.
-/
import Derived.Test.YtkleajhiihbefaaGreatDoorChecked
import GoSem.PinnedTables
import GoSem.Claim
import GoSem.ClaimJoined
import GoSem.ClaimMapViews
import Derived.JoinedTies
import Derived.KernelRfl
namespace Go.Proofs.YtkleajhiihbefaaGreatDoor
/- THE CELL 'sum', in the pinned program and in every row, IS THE sha256 OF THE DUMP (.gsa) THAT YtkleajhiihbefaaGreatDoorProg.lean LOADS. Nothing in Lean hashes anything: it is a label: what it is worth is what the hold of that sum in a sandbox is worth. -/
noncomputable def Tryz.pinned : Pinned := { name := "ytkleajhiihbefaagreatdoor", sum := "7fe74fd8bd611667e4f7f52c41490b8a1a01aa5c43bc61f07d672ff25cfad5ac", checked := Tryz.checked }
namespace Rows
def none {H : Type} : Left H := { results := [], args := [] }

/- WHAT THE LISTED PACKAGE-LEVEL VARIABLES READ AS WHEN THE CALL BEGINS. Each datum BY PROGRAM (the guide's laid-datum.mjs) off the statement by which the dump's own 'gosem.cut.vars' lays the variable. In a bare row this is a premise. The card (YtkleajhiihbefaaGreatDoorCards.lean) ties it to the program's text. -/
def laid_unicode_utf8_acceptRanges {H : Type} : DataW H := .agg [.agg [.lit (.int .u8 128), .lit (.int .u8 191)], .agg [.lit (.int .u8 160), .lit (.int .u8 191)], .agg [.lit (.int .u8 128), .lit (.int .u8 159)], .agg [.lit (.int .u8 144), .lit (.int .u8 191)], .agg [.lit (.int .u8 128), .lit (.int .u8 143)], .agg [.lit (.int .u8 0), .lit (.int .u8 0)], .agg [.lit (.int .u8 0), .lit (.int .u8 0)], .agg [.lit (.int .u8 0), .lit (.int .u8 0)], .agg [.lit (.int .u8 0), .lit (.int .u8 0)], .agg [.lit (.int .u8 0), .lit (.int .u8 0)], .agg [.lit (.int .u8 0), .lit (.int .u8 0)], .agg [.lit (.int .u8 0), .lit (.int .u8 0)], .agg [.lit (.int .u8 0), .lit (.int .u8 0)], .agg [.lit (.int .u8 0), .lit (.int .u8 0)], .agg [.lit (.int .u8 0), .lit (.int .u8 0)], .agg [.lit (.int .u8 0), .lit (.int .u8 0)]]
/-- One of Go's own tables, pinned by name: the form's constant. -/
def laid_unicode_utf8_first : DataW Unit := Go.Pinned.utf8First
def laid_math_bits_deBruijn32tab {H : Type} : DataW H := .agg [.lit (.int .u8 0), .lit (.int .u8 1), .lit (.int .u8 28), .lit (.int .u8 2), .lit (.int .u8 29), .lit (.int .u8 14), .lit (.int .u8 24), .lit (.int .u8 3), .lit (.int .u8 30), .lit (.int .u8 22), .lit (.int .u8 20), .lit (.int .u8 15), .lit (.int .u8 25), .lit (.int .u8 17), .lit (.int .u8 4), .lit (.int .u8 8), .lit (.int .u8 31), .lit (.int .u8 27), .lit (.int .u8 13), .lit (.int .u8 23), .lit (.int .u8 21), .lit (.int .u8 19), .lit (.int .u8 16), .lit (.int .u8 7), .lit (.int .u8 26), .lit (.int .u8 12), .lit (.int .u8 18), .lit (.int .u8 6), .lit (.int .u8 11), .lit (.int .u8 5), .lit (.int .u8 10), .lit (.int .u8 9)]
def laid_math_bits_deBruijn64tab {H : Type} : DataW H := .agg [.lit (.int .u8 0), .lit (.int .u8 1), .lit (.int .u8 56), .lit (.int .u8 2), .lit (.int .u8 57), .lit (.int .u8 49), .lit (.int .u8 28), .lit (.int .u8 3), .lit (.int .u8 61), .lit (.int .u8 58), .lit (.int .u8 42), .lit (.int .u8 50), .lit (.int .u8 38), .lit (.int .u8 29), .lit (.int .u8 17), .lit (.int .u8 4), .lit (.int .u8 62), .lit (.int .u8 47), .lit (.int .u8 59), .lit (.int .u8 36), .lit (.int .u8 45), .lit (.int .u8 43), .lit (.int .u8 51), .lit (.int .u8 22), .lit (.int .u8 53), .lit (.int .u8 39), .lit (.int .u8 33), .lit (.int .u8 30), .lit (.int .u8 24), .lit (.int .u8 18), .lit (.int .u8 12), .lit (.int .u8 5), .lit (.int .u8 63), .lit (.int .u8 55), .lit (.int .u8 48), .lit (.int .u8 27), .lit (.int .u8 60), .lit (.int .u8 41), .lit (.int .u8 37), .lit (.int .u8 16), .lit (.int .u8 46), .lit (.int .u8 35), .lit (.int .u8 44), .lit (.int .u8 21), .lit (.int .u8 52), .lit (.int .u8 32), .lit (.int .u8 23), .lit (.int .u8 11), .lit (.int .u8 54), .lit (.int .u8 26), .lit (.int .u8 40), .lit (.int .u8 15), .lit (.int .u8 34), .lit (.int .u8 20), .lit (.int .u8 31), .lit (.int .u8 10), .lit (.int .u8 25), .lit (.int .u8 14), .lit (.int .u8 19), .lit (.int .u8 9), .lit (.int .u8 13), .lit (.int .u8 8), .lit (.int .u8 7), .lit (.int .u8 6)]
def laid_internal_strconv_uint64pow10 {H : Type} : DataW H := .agg [.lit (.int .u64 1), .lit (.int .u64 10), .lit (.int .u64 100), .lit (.int .u64 1000), .lit (.int .u64 10000), .lit (.int .u64 100000), .lit (.int .u64 1000000), .lit (.int .u64 10000000), .lit (.int .u64 100000000), .lit (.int .u64 1000000000), .lit (.int .u64 10000000000), .lit (.int .u64 100000000000), .lit (.int .u64 1000000000000), .lit (.int .u64 10000000000000), .lit (.int .u64 100000000000000), .lit (.int .u64 1000000000000000), .lit (.int .u64 10000000000000000), .lit (.int .u64 100000000000000000), .lit (.int .u64 1000000000000000000), .lit (.int .u64 10000000000000000000)]

/-- 'portmanteaulaw29.DiffTells': WHATEVER THE INPUT: true; the input reads as it did. -/
def diffTellsSpec : ChangeSpec := { name := "diffTells", fn := fun _ => fun
  | [d1, d2] => { results := [.lit (.bool true)], args := [d1, d2] }
  | _ => none }
def diffTellsRow : OpenClaim := { program := "ytkleajhiihbefaagreatdoor", sum := "7fe74fd8bd611667e4f7f52c41490b8a1a01aa5c43bc61f07d672ff25cfad5ac", func := "portmanteau/portmanteaulaw29.DiffTells", spec := "diffTells", inPlace := ["internal/bytealg.CountString", "internal/bytealg.IndexByteString", "internal/bytealg.IndexString"], unfollowed := true, recurses := true, named := ["unicode/utf8.first", "unicode/utf8.acceptRanges", "internal/bytealg.MaxLen"], plainKeys := false, apart := false, laid := [("unicode/utf8.acceptRanges", laid_unicode_utf8_acceptRanges), ("unicode/utf8.first", laid_unicode_utf8_first)] }
def DiffTellsSaid : Prop := diffTellsRow.holds Tryz.pinned (OpenSpec.ofChange diffTellsSpec)

/-- ITS FALSE NEIGHBOUR: 'it returns false'. Refute it at one input. -/
def diffTellsWrong : ChangeSpec := { name := "diffTells", fn := fun _ => fun
  | [d1, d2] => { results := [.lit (.bool false)], args := [d1, d2] }
  | _ => none }
def DiffTellsWrongFalsely : Prop := diffTellsRow.holds Tryz.pinned (OpenSpec.ofChange diffTellsWrong)

/-- 'portmanteaulaw29.DiffFields': WHATEVER THE INPUT: true; the input reads as it did. -/
def diffFieldsSpec : ChangeSpec := { name := "diffFields", fn := fun _ => fun
  | [d1, d2] => { results := [.lit (.bool true)], args := [d1, d2] }
  | _ => none }
def diffFieldsRow : OpenClaim := { program := "ytkleajhiihbefaagreatdoor", sum := "7fe74fd8bd611667e4f7f52c41490b8a1a01aa5c43bc61f07d672ff25cfad5ac", func := "portmanteau/portmanteaulaw29.DiffFields", spec := "diffFields", inPlace := ["internal/bytealg.CountString", "internal/bytealg.IndexByteString", "internal/bytealg.IndexString"], unfollowed := true, recurses := true, named := ["unicode/utf8.first", "unicode/utf8.acceptRanges", "internal/bytealg.MaxLen"], plainKeys := false, apart := false, laid := [("unicode/utf8.acceptRanges", laid_unicode_utf8_acceptRanges), ("unicode/utf8.first", laid_unicode_utf8_first)] }
def DiffFieldsSaid : Prop := diffFieldsRow.holds Tryz.pinned (OpenSpec.ofChange diffFieldsSpec)

/-- ITS FALSE NEIGHBOUR: 'it returns false'. Refute it at one input. -/
def diffFieldsWrong : ChangeSpec := { name := "diffFields", fn := fun _ => fun
  | [d1, d2] => { results := [.lit (.bool false)], args := [d1, d2] }
  | _ => none }
def DiffFieldsWrongFalsely : Prop := diffFieldsRow.holds Tryz.pinned (OpenSpec.ofChange diffFieldsWrong)

/-- 'portmanteaulaw29.DiffMerges': WHATEVER THE INPUT: true; the input reads as it did. -/
def diffMergesSpec : ChangeSpec := { name := "diffMerges", fn := fun _ => fun
  | [d1, d2, d3] => { results := [.lit (.bool true)], args := [d1, d2, d3] }
  | _ => none }
def diffMergesRow : OpenClaim := { program := "ytkleajhiihbefaagreatdoor", sum := "7fe74fd8bd611667e4f7f52c41490b8a1a01aa5c43bc61f07d672ff25cfad5ac", func := "portmanteau/portmanteaulaw29.DiffMerges", spec := "diffMerges", inPlace := ["internal/bytealg.CountString", "internal/bytealg.IndexByteString", "internal/bytealg.IndexString"], unfollowed := true, recurses := true, named := ["unicode/utf8.first", "unicode/utf8.acceptRanges", "internal/bytealg.MaxLen"], plainKeys := false, apart := false, laid := [("unicode/utf8.acceptRanges", laid_unicode_utf8_acceptRanges), ("unicode/utf8.first", laid_unicode_utf8_first)] }
def DiffMergesSaid : Prop := diffMergesRow.holds Tryz.pinned (OpenSpec.ofChange diffMergesSpec)

/-- ITS FALSE NEIGHBOUR: 'it returns false'. Refute it at one input. -/
def diffMergesWrong : ChangeSpec := { name := "diffMerges", fn := fun _ => fun
  | [d1, d2, d3] => { results := [.lit (.bool false)], args := [d1, d2, d3] }
  | _ => none }
def DiffMergesWrongFalsely : Prop := diffMergesRow.holds Tryz.pinned (OpenSpec.ofChange diffMergesWrong)

/-- 'portmanteaulaw29.DiffSides': WHATEVER THE INPUT: true; the input reads as it did. -/
def diffSidesSpec : ChangeSpec := { name := "diffSides", fn := fun _ => fun
  | [d1, d2, d3] => { results := [.lit (.bool true)], args := [d1, d2, d3] }
  | _ => none }
def diffSidesRow : OpenClaim := { program := "ytkleajhiihbefaagreatdoor", sum := "7fe74fd8bd611667e4f7f52c41490b8a1a01aa5c43bc61f07d672ff25cfad5ac", func := "portmanteau/portmanteaulaw29.DiffSides", spec := "diffSides", inPlace := ["internal/bytealg.CountString", "internal/bytealg.IndexByteString", "internal/bytealg.IndexString"], unfollowed := true, recurses := true, named := ["unicode/utf8.first", "unicode/utf8.acceptRanges", "internal/bytealg.MaxLen"], plainKeys := false, apart := false, laid := [("unicode/utf8.acceptRanges", laid_unicode_utf8_acceptRanges), ("unicode/utf8.first", laid_unicode_utf8_first)] }
def DiffSidesSaid : Prop := diffSidesRow.holds Tryz.pinned (OpenSpec.ofChange diffSidesSpec)

/-- ITS FALSE NEIGHBOUR: 'it returns false'. Refute it at one input. -/
def diffSidesWrong : ChangeSpec := { name := "diffSides", fn := fun _ => fun
  | [d1, d2, d3] => { results := [.lit (.bool false)], args := [d1, d2, d3] }
  | _ => none }
def DiffSidesWrongFalsely : Prop := diffSidesRow.holds Tryz.pinned (OpenSpec.ofChange diffSidesWrong)

/-- 'portmanteaulaw29.DiffApplies': WHATEVER THE INPUT: true; the input reads as it did. -/
def diffAppliesSpec : ChangeSpec := { name := "diffApplies", fn := fun _ => fun
  | [d1, d2] => { results := [.lit (.bool true)], args := [d1, d2] }
  | _ => none }
def diffAppliesRow : OpenClaim := { program := "ytkleajhiihbefaagreatdoor", sum := "7fe74fd8bd611667e4f7f52c41490b8a1a01aa5c43bc61f07d672ff25cfad5ac", func := "portmanteau/portmanteaulaw29.DiffApplies", spec := "diffApplies", inPlace := ["internal/bytealg.CountString", "internal/bytealg.IndexByteString", "internal/bytealg.IndexString"], unfollowed := true, recurses := true, named := ["unicode/utf8.first", "unicode/utf8.acceptRanges", "internal/bytealg.MaxLen"], plainKeys := false, apart := false, laid := [("unicode/utf8.acceptRanges", laid_unicode_utf8_acceptRanges), ("unicode/utf8.first", laid_unicode_utf8_first)] }
def DiffAppliesSaid : Prop := diffAppliesRow.holds Tryz.pinned (OpenSpec.ofChange diffAppliesSpec)

/-- ITS FALSE NEIGHBOUR: 'it returns false'. Refute it at one input. -/
def diffAppliesWrong : ChangeSpec := { name := "diffApplies", fn := fun _ => fun
  | [d1, d2] => { results := [.lit (.bool false)], args := [d1, d2] }
  | _ => none }
def DiffAppliesWrongFalsely : Prop := diffAppliesRow.holds Tryz.pinned (OpenSpec.ofChange diffAppliesWrong)

/-- 'portmanteaulaw29.DiffBack': WHATEVER THE INPUT: true; the input reads as it did. -/
def diffBackSpec : ChangeSpec := { name := "diffBack", fn := fun _ => fun
  | [d1, d2] => { results := [.lit (.bool true)], args := [d1, d2] }
  | _ => none }
def diffBackRow : OpenClaim := { program := "ytkleajhiihbefaagreatdoor", sum := "7fe74fd8bd611667e4f7f52c41490b8a1a01aa5c43bc61f07d672ff25cfad5ac", func := "portmanteau/portmanteaulaw29.DiffBack", spec := "diffBack", inPlace := ["internal/bytealg.CountString", "internal/bytealg.IndexByteString", "internal/bytealg.IndexString"], unfollowed := true, recurses := true, named := ["unicode/utf8.first", "unicode/utf8.acceptRanges", "internal/bytealg.MaxLen"], plainKeys := false, apart := false, laid := [("unicode/utf8.acceptRanges", laid_unicode_utf8_acceptRanges), ("unicode/utf8.first", laid_unicode_utf8_first)] }
def DiffBackSaid : Prop := diffBackRow.holds Tryz.pinned (OpenSpec.ofChange diffBackSpec)

/-- ITS FALSE NEIGHBOUR: 'it returns false'. Refute it at one input. -/
def diffBackWrong : ChangeSpec := { name := "diffBack", fn := fun _ => fun
  | [d1, d2] => { results := [.lit (.bool false)], args := [d1, d2] }
  | _ => none }
def DiffBackWrongFalsely : Prop := diffBackRow.holds Tryz.pinned (OpenSpec.ofChange diffBackWrong)

/-- 'portmanteaulaw28.GlobAll': WHATEVER THE INPUT: true; the input reads as it did. -/
def globAllSpec : ChangeSpec := { name := "globAll", fn := fun _ => fun
  | [d1, d2] => { results := [.lit (.bool true)], args := [d1, d2] }
  | _ => none }
def globAllRow : OpenClaim := { program := "ytkleajhiihbefaagreatdoor", sum := "7fe74fd8bd611667e4f7f52c41490b8a1a01aa5c43bc61f07d672ff25cfad5ac", func := "portmanteau/portmanteaulaw28.GlobAll", spec := "globAll", inPlace := ["internal/bytealg.IndexByteString", "internal/bytealg.IndexString", "internal/bytealg.CountString"], unfollowed := true, recurses := true, named := ["internal/bytealg.MaxLen", "unicode/utf8.first", "unicode/utf8.acceptRanges"], plainKeys := false, apart := false, laid := [("unicode/utf8.acceptRanges", laid_unicode_utf8_acceptRanges), ("unicode/utf8.first", laid_unicode_utf8_first)] }
def GlobAllSaid : Prop := globAllRow.holds Tryz.pinned (OpenSpec.ofChange globAllSpec)

/-- ITS FALSE NEIGHBOUR: 'it returns false'. Refute it at one input. -/
def globAllWrong : ChangeSpec := { name := "globAll", fn := fun _ => fun
  | [d1, d2] => { results := [.lit (.bool false)], args := [d1, d2] }
  | _ => none }
def GlobAllWrongFalsely : Prop := globAllRow.holds Tryz.pinned (OpenSpec.ofChange globAllWrong)

/-- 'portmanteaulaw32.ReportUsage': WHATEVER THE INPUT: true; the input reads as it did. -/
def reportUsageSpec : ChangeSpec := { name := "reportUsage", fn := fun _ => fun
  | [d] => { results := [.lit (.bool true)], args := [d] }
  | _ => none }
def reportUsageRow : OpenClaim := { program := "ytkleajhiihbefaagreatdoor", sum := "7fe74fd8bd611667e4f7f52c41490b8a1a01aa5c43bc61f07d672ff25cfad5ac", func := "portmanteau/portmanteaulaw32.ReportUsage", spec := "reportUsage", inPlace := ["internal/bytealg.CountString", "internal/bytealg.IndexByteString", "internal/bytealg.IndexString"], unfollowed := true, recurses := true, named := ["unicode/utf8.first", "unicode/utf8.acceptRanges", "internal/bytealg.MaxLen"], plainKeys := false, apart := false, laid := [("unicode/utf8.acceptRanges", laid_unicode_utf8_acceptRanges), ("unicode/utf8.first", laid_unicode_utf8_first)] }
def ReportUsageSaid : Prop := reportUsageRow.holds Tryz.pinned (OpenSpec.ofChange reportUsageSpec)

/-- ITS FALSE NEIGHBOUR: 'it returns false'. Refute it at one input. -/
def reportUsageWrong : ChangeSpec := { name := "reportUsage", fn := fun _ => fun
  | [d] => { results := [.lit (.bool false)], args := [d] }
  | _ => none }
def ReportUsageWrongFalsely : Prop := reportUsageRow.holds Tryz.pinned (OpenSpec.ofChange reportUsageWrong)

/-- 'portmanteaulaw32.ReportLargest': WHATEVER THE INPUT: true; the input reads as it did. -/
def reportLargestSpec : ChangeSpec := { name := "reportLargest", fn := fun _ => fun
  | [d1, d2] => { results := [.lit (.bool true)], args := [d1, d2] }
  | _ => none }
def reportLargestRow : OpenClaim := { program := "ytkleajhiihbefaagreatdoor", sum := "7fe74fd8bd611667e4f7f52c41490b8a1a01aa5c43bc61f07d672ff25cfad5ac", func := "portmanteau/portmanteaulaw32.ReportLargest", spec := "reportLargest", inPlace := ["internal/bytealg.CountString", "internal/bytealg.IndexByteString", "internal/bytealg.IndexString"], unfollowed := true, recurses := true, named := ["unicode/utf8.first", "unicode/utf8.acceptRanges", "internal/bytealg.MaxLen"], plainKeys := false, apart := false, laid := [("unicode/utf8.acceptRanges", laid_unicode_utf8_acceptRanges), ("unicode/utf8.first", laid_unicode_utf8_first)] }
def ReportLargestSaid : Prop := reportLargestRow.holds Tryz.pinned (OpenSpec.ofChange reportLargestSpec)

/-- ITS FALSE NEIGHBOUR: 'it returns false'. Refute it at one input. -/
def reportLargestWrong : ChangeSpec := { name := "reportLargest", fn := fun _ => fun
  | [d1, d2] => { results := [.lit (.bool false)], args := [d1, d2] }
  | _ => none }
def ReportLargestWrongFalsely : Prop := reportLargestRow.holds Tryz.pinned (OpenSpec.ofChange reportLargestWrong)

/-- 'portmanteaulaw32.ReportTwins': WHATEVER THE INPUT: true; the input reads as it did. -/
def reportTwinsSpec : ChangeSpec := { name := "reportTwins", fn := fun _ => fun
  | [d] => { results := [.lit (.bool true)], args := [d] }
  | _ => none }
def reportTwinsRow : OpenClaim := { program := "ytkleajhiihbefaagreatdoor", sum := "7fe74fd8bd611667e4f7f52c41490b8a1a01aa5c43bc61f07d672ff25cfad5ac", func := "portmanteau/portmanteaulaw32.ReportTwins", spec := "reportTwins", inPlace := ["internal/bytealg.CountString", "internal/bytealg.IndexByteString", "internal/bytealg.IndexString"], unfollowed := true, recurses := true, named := ["unicode/utf8.first", "unicode/utf8.acceptRanges", "internal/bytealg.MaxLen"], plainKeys := false, apart := false, laid := [("unicode/utf8.acceptRanges", laid_unicode_utf8_acceptRanges), ("unicode/utf8.first", laid_unicode_utf8_first)] }
def ReportTwinsSaid : Prop := reportTwinsRow.holds Tryz.pinned (OpenSpec.ofChange reportTwinsSpec)

/-- ITS FALSE NEIGHBOUR: 'it returns false'. Refute it at one input. -/
def reportTwinsWrong : ChangeSpec := { name := "reportTwins", fn := fun _ => fun
  | [d] => { results := [.lit (.bool false)], args := [d] }
  | _ => none }
def ReportTwinsWrongFalsely : Prop := reportTwinsRow.holds Tryz.pinned (OpenSpec.ofChange reportTwinsWrong)

/-- 'portmanteaulaw27.ManifestTrees': WHATEVER THE INPUT: true; the input reads as it did. -/
def manifestTreesSpec : ChangeSpec := { name := "manifestTrees", fn := fun _ => fun
  | [d] => { results := [.lit (.bool true)], args := [d] }
  | _ => none }
def manifestTreesRow : OpenClaim := { program := "ytkleajhiihbefaagreatdoor", sum := "7fe74fd8bd611667e4f7f52c41490b8a1a01aa5c43bc61f07d672ff25cfad5ac", func := "portmanteau/portmanteaulaw27.ManifestTrees", spec := "manifestTrees", inPlace := ["internal/bytealg.CountString", "internal/bytealg.IndexByteString", "internal/bytealg.IndexString"], unfollowed := true, recurses := true, named := ["internal/strconv.uint64pow10", "math/bits.deBruijn32tab", "math/bits.deBruijn64tab", "unicode/utf8.first", "unicode/utf8.acceptRanges", "internal/bytealg.MaxLen"], plainKeys := false, apart := false, laid := [("math/bits.deBruijn32tab", laid_math_bits_deBruijn32tab), ("math/bits.deBruijn64tab", laid_math_bits_deBruijn64tab), ("internal/strconv.uint64pow10", laid_internal_strconv_uint64pow10), ("unicode/utf8.acceptRanges", laid_unicode_utf8_acceptRanges), ("unicode/utf8.first", laid_unicode_utf8_first)] }
def ManifestTreesSaid : Prop := manifestTreesRow.holds Tryz.pinned (OpenSpec.ofChange manifestTreesSpec)

/-- ITS FALSE NEIGHBOUR: 'it returns false'. Refute it at one input. -/
def manifestTreesWrong : ChangeSpec := { name := "manifestTrees", fn := fun _ => fun
  | [d] => { results := [.lit (.bool false)], args := [d] }
  | _ => none }
def ManifestTreesWrongFalsely : Prop := manifestTreesRow.holds Tryz.pinned (OpenSpec.ofChange manifestTreesWrong)

/-- 'portmanteaulaw11.TreeLists': WHATEVER THE INPUT: true; the input reads as it did. -/
def treeListsSpec : ChangeSpec := { name := "treeLists", fn := fun _ => fun
  | [d] => { results := [.lit (.bool true)], args := [d] }
  | _ => none }
def treeListsRow : OpenClaim := { program := "ytkleajhiihbefaagreatdoor", sum := "7fe74fd8bd611667e4f7f52c41490b8a1a01aa5c43bc61f07d672ff25cfad5ac", func := "portmanteau/portmanteaulaw11.TreeLists", spec := "treeLists", inPlace := ["internal/bytealg.CountString", "internal/bytealg.IndexByteString", "internal/bytealg.IndexString"], unfollowed := true, recurses := true, named := ["unicode/utf8.first", "unicode/utf8.acceptRanges", "internal/bytealg.MaxLen"], plainKeys := false, apart := false, laid := [("unicode/utf8.acceptRanges", laid_unicode_utf8_acceptRanges), ("unicode/utf8.first", laid_unicode_utf8_first)] }
def TreeListsSaid : Prop := treeListsRow.holds Tryz.pinned (OpenSpec.ofChange treeListsSpec)

/-- ITS FALSE NEIGHBOUR: 'it returns false'. Refute it at one input. -/
def treeListsWrong : ChangeSpec := { name := "treeLists", fn := fun _ => fun
  | [d] => { results := [.lit (.bool false)], args := [d] }
  | _ => none }
def TreeListsWrongFalsely : Prop := treeListsRow.holds Tryz.pinned (OpenSpec.ofChange treeListsWrong)

/- THE SECOND FORM. 'bulk': how many values and letters a reading holds, each counted each time it is reached (what is shared counts as often as it is met; a slice's spare places count too). A statement '..UptoSaid' is the law's where the arguments, and the package variables that the reading takes, are together of bulk at most 1048576: NARROWER than '..Said'. Prove '..Said' where nothing that the law and all that it calls make is longer than what came in: it says more and counts as full. Else prove '..UptoSaid'. A law counts once. -/
mutual
def uptoBulk {H : Type} : DataW H → Nat
  | .lit (.string bytes) => bytes.length + 1
  | .lit _ => 1
  | .nil => 1
  | .ptr d => uptoBulk d + 1
  | .slice elems spare => uptoBulkAll elems + uptoBulkAll spare + 1
  | .agg parts => uptoBulkAll parts + 1
  | .iface _ d => uptoBulk d + 1
  | .map entries => uptoBulkEntries entries + 1
  | .held _ => 1
def uptoBulkAll {H : Type} : List (DataW H) → Nat
  | [] => 0
  | d :: r => uptoBulk d + uptoBulkAll r
def uptoBulkEntries {H : Type} : List (Lit × DataW H) → Nat
  | [] => 0
  | x :: r => uptoBulkEntry x + uptoBulkEntries r
def uptoBulkEntry {H : Type} : Lit × DataW H → Nat
  | (.string bytes, d) => bytes.length + uptoBulk d + 1
  | (_, d) => uptoBulk d + 1
 end
def uptoSmall : (H : Type) → List (DataW H) → Bool := fun _ ds => decide (uptoBulkAll ds ≤ 1048576)
def OpenSpec.upto (s : _root_.Go.ChangeSpec) : _root_.Go.OpenSpec := { _root_.Go.OpenSpec.ofChange s with cond := some uptoSmall }

/-- 'portmanteaulaw29.DiffTells', WHERE WHAT IT READS IS OF BULK AT MOST 1048576: true; the input reads as it did. -/
def diffTellsUptoRow : OpenClaim := { program := "ytkleajhiihbefaagreatdoor", sum := "7fe74fd8bd611667e4f7f52c41490b8a1a01aa5c43bc61f07d672ff25cfad5ac", func := "portmanteau/portmanteaulaw29.DiffTells", spec := "diffTells", inPlace := ["internal/bytealg.CountString", "internal/bytealg.IndexByteString", "internal/bytealg.IndexString"], unfollowed := true, recurses := true, named := ["unicode/utf8.first", "unicode/utf8.acceptRanges", "internal/bytealg.MaxLen"], plainKeys := false, apart := false, laid := [("unicode/utf8.acceptRanges", laid_unicode_utf8_acceptRanges), ("unicode/utf8.first", laid_unicode_utf8_first)], narrowed := true }
def DiffTellsUptoSaid : Prop := diffTellsUptoRow.holds Tryz.pinned (OpenSpec.upto diffTellsSpec)

/-- 'portmanteaulaw29.DiffFields', WHERE WHAT IT READS IS OF BULK AT MOST 1048576: true; the input reads as it did. -/
def diffFieldsUptoRow : OpenClaim := { program := "ytkleajhiihbefaagreatdoor", sum := "7fe74fd8bd611667e4f7f52c41490b8a1a01aa5c43bc61f07d672ff25cfad5ac", func := "portmanteau/portmanteaulaw29.DiffFields", spec := "diffFields", inPlace := ["internal/bytealg.CountString", "internal/bytealg.IndexByteString", "internal/bytealg.IndexString"], unfollowed := true, recurses := true, named := ["unicode/utf8.first", "unicode/utf8.acceptRanges", "internal/bytealg.MaxLen"], plainKeys := false, apart := false, laid := [("unicode/utf8.acceptRanges", laid_unicode_utf8_acceptRanges), ("unicode/utf8.first", laid_unicode_utf8_first)], narrowed := true }
def DiffFieldsUptoSaid : Prop := diffFieldsUptoRow.holds Tryz.pinned (OpenSpec.upto diffFieldsSpec)

/-- 'portmanteaulaw29.DiffMerges', WHERE WHAT IT READS IS OF BULK AT MOST 1048576: true; the input reads as it did. -/
def diffMergesUptoRow : OpenClaim := { program := "ytkleajhiihbefaagreatdoor", sum := "7fe74fd8bd611667e4f7f52c41490b8a1a01aa5c43bc61f07d672ff25cfad5ac", func := "portmanteau/portmanteaulaw29.DiffMerges", spec := "diffMerges", inPlace := ["internal/bytealg.CountString", "internal/bytealg.IndexByteString", "internal/bytealg.IndexString"], unfollowed := true, recurses := true, named := ["unicode/utf8.first", "unicode/utf8.acceptRanges", "internal/bytealg.MaxLen"], plainKeys := false, apart := false, laid := [("unicode/utf8.acceptRanges", laid_unicode_utf8_acceptRanges), ("unicode/utf8.first", laid_unicode_utf8_first)], narrowed := true }
def DiffMergesUptoSaid : Prop := diffMergesUptoRow.holds Tryz.pinned (OpenSpec.upto diffMergesSpec)

/-- 'portmanteaulaw29.DiffSides', WHERE WHAT IT READS IS OF BULK AT MOST 1048576: true; the input reads as it did. -/
def diffSidesUptoRow : OpenClaim := { program := "ytkleajhiihbefaagreatdoor", sum := "7fe74fd8bd611667e4f7f52c41490b8a1a01aa5c43bc61f07d672ff25cfad5ac", func := "portmanteau/portmanteaulaw29.DiffSides", spec := "diffSides", inPlace := ["internal/bytealg.CountString", "internal/bytealg.IndexByteString", "internal/bytealg.IndexString"], unfollowed := true, recurses := true, named := ["unicode/utf8.first", "unicode/utf8.acceptRanges", "internal/bytealg.MaxLen"], plainKeys := false, apart := false, laid := [("unicode/utf8.acceptRanges", laid_unicode_utf8_acceptRanges), ("unicode/utf8.first", laid_unicode_utf8_first)], narrowed := true }
def DiffSidesUptoSaid : Prop := diffSidesUptoRow.holds Tryz.pinned (OpenSpec.upto diffSidesSpec)

/-- 'portmanteaulaw29.DiffApplies', WHERE WHAT IT READS IS OF BULK AT MOST 1048576: true; the input reads as it did. -/
def diffAppliesUptoRow : OpenClaim := { program := "ytkleajhiihbefaagreatdoor", sum := "7fe74fd8bd611667e4f7f52c41490b8a1a01aa5c43bc61f07d672ff25cfad5ac", func := "portmanteau/portmanteaulaw29.DiffApplies", spec := "diffApplies", inPlace := ["internal/bytealg.CountString", "internal/bytealg.IndexByteString", "internal/bytealg.IndexString"], unfollowed := true, recurses := true, named := ["unicode/utf8.first", "unicode/utf8.acceptRanges", "internal/bytealg.MaxLen"], plainKeys := false, apart := false, laid := [("unicode/utf8.acceptRanges", laid_unicode_utf8_acceptRanges), ("unicode/utf8.first", laid_unicode_utf8_first)], narrowed := true }
def DiffAppliesUptoSaid : Prop := diffAppliesUptoRow.holds Tryz.pinned (OpenSpec.upto diffAppliesSpec)

/-- 'portmanteaulaw29.DiffBack', WHERE WHAT IT READS IS OF BULK AT MOST 1048576: true; the input reads as it did. -/
def diffBackUptoRow : OpenClaim := { program := "ytkleajhiihbefaagreatdoor", sum := "7fe74fd8bd611667e4f7f52c41490b8a1a01aa5c43bc61f07d672ff25cfad5ac", func := "portmanteau/portmanteaulaw29.DiffBack", spec := "diffBack", inPlace := ["internal/bytealg.CountString", "internal/bytealg.IndexByteString", "internal/bytealg.IndexString"], unfollowed := true, recurses := true, named := ["unicode/utf8.first", "unicode/utf8.acceptRanges", "internal/bytealg.MaxLen"], plainKeys := false, apart := false, laid := [("unicode/utf8.acceptRanges", laid_unicode_utf8_acceptRanges), ("unicode/utf8.first", laid_unicode_utf8_first)], narrowed := true }
def DiffBackUptoSaid : Prop := diffBackUptoRow.holds Tryz.pinned (OpenSpec.upto diffBackSpec)

/-- 'portmanteaulaw28.GlobAll', WHERE WHAT IT READS IS OF BULK AT MOST 1048576: true; the input reads as it did. -/
def globAllUptoRow : OpenClaim := { program := "ytkleajhiihbefaagreatdoor", sum := "7fe74fd8bd611667e4f7f52c41490b8a1a01aa5c43bc61f07d672ff25cfad5ac", func := "portmanteau/portmanteaulaw28.GlobAll", spec := "globAll", inPlace := ["internal/bytealg.IndexByteString", "internal/bytealg.IndexString", "internal/bytealg.CountString"], unfollowed := true, recurses := true, named := ["internal/bytealg.MaxLen", "unicode/utf8.first", "unicode/utf8.acceptRanges"], plainKeys := false, apart := false, laid := [("unicode/utf8.acceptRanges", laid_unicode_utf8_acceptRanges), ("unicode/utf8.first", laid_unicode_utf8_first)], narrowed := true }
def GlobAllUptoSaid : Prop := globAllUptoRow.holds Tryz.pinned (OpenSpec.upto globAllSpec)

/-- 'portmanteaulaw32.ReportUsage', WHERE WHAT IT READS IS OF BULK AT MOST 1048576: true; the input reads as it did. -/
def reportUsageUptoRow : OpenClaim := { program := "ytkleajhiihbefaagreatdoor", sum := "7fe74fd8bd611667e4f7f52c41490b8a1a01aa5c43bc61f07d672ff25cfad5ac", func := "portmanteau/portmanteaulaw32.ReportUsage", spec := "reportUsage", inPlace := ["internal/bytealg.CountString", "internal/bytealg.IndexByteString", "internal/bytealg.IndexString"], unfollowed := true, recurses := true, named := ["unicode/utf8.first", "unicode/utf8.acceptRanges", "internal/bytealg.MaxLen"], plainKeys := false, apart := false, laid := [("unicode/utf8.acceptRanges", laid_unicode_utf8_acceptRanges), ("unicode/utf8.first", laid_unicode_utf8_first)], narrowed := true }
def ReportUsageUptoSaid : Prop := reportUsageUptoRow.holds Tryz.pinned (OpenSpec.upto reportUsageSpec)

/-- 'portmanteaulaw32.ReportLargest', WHERE WHAT IT READS IS OF BULK AT MOST 1048576: true; the input reads as it did. -/
def reportLargestUptoRow : OpenClaim := { program := "ytkleajhiihbefaagreatdoor", sum := "7fe74fd8bd611667e4f7f52c41490b8a1a01aa5c43bc61f07d672ff25cfad5ac", func := "portmanteau/portmanteaulaw32.ReportLargest", spec := "reportLargest", inPlace := ["internal/bytealg.CountString", "internal/bytealg.IndexByteString", "internal/bytealg.IndexString"], unfollowed := true, recurses := true, named := ["unicode/utf8.first", "unicode/utf8.acceptRanges", "internal/bytealg.MaxLen"], plainKeys := false, apart := false, laid := [("unicode/utf8.acceptRanges", laid_unicode_utf8_acceptRanges), ("unicode/utf8.first", laid_unicode_utf8_first)], narrowed := true }
def ReportLargestUptoSaid : Prop := reportLargestUptoRow.holds Tryz.pinned (OpenSpec.upto reportLargestSpec)

/-- 'portmanteaulaw32.ReportTwins', WHERE WHAT IT READS IS OF BULK AT MOST 1048576: true; the input reads as it did. -/
def reportTwinsUptoRow : OpenClaim := { program := "ytkleajhiihbefaagreatdoor", sum := "7fe74fd8bd611667e4f7f52c41490b8a1a01aa5c43bc61f07d672ff25cfad5ac", func := "portmanteau/portmanteaulaw32.ReportTwins", spec := "reportTwins", inPlace := ["internal/bytealg.CountString", "internal/bytealg.IndexByteString", "internal/bytealg.IndexString"], unfollowed := true, recurses := true, named := ["unicode/utf8.first", "unicode/utf8.acceptRanges", "internal/bytealg.MaxLen"], plainKeys := false, apart := false, laid := [("unicode/utf8.acceptRanges", laid_unicode_utf8_acceptRanges), ("unicode/utf8.first", laid_unicode_utf8_first)], narrowed := true }
def ReportTwinsUptoSaid : Prop := reportTwinsUptoRow.holds Tryz.pinned (OpenSpec.upto reportTwinsSpec)

/-- 'portmanteaulaw27.ManifestTrees', WHERE WHAT IT READS IS OF BULK AT MOST 1048576: true; the input reads as it did. -/
def manifestTreesUptoRow : OpenClaim := { program := "ytkleajhiihbefaagreatdoor", sum := "7fe74fd8bd611667e4f7f52c41490b8a1a01aa5c43bc61f07d672ff25cfad5ac", func := "portmanteau/portmanteaulaw27.ManifestTrees", spec := "manifestTrees", inPlace := ["internal/bytealg.CountString", "internal/bytealg.IndexByteString", "internal/bytealg.IndexString"], unfollowed := true, recurses := true, named := ["internal/strconv.uint64pow10", "math/bits.deBruijn32tab", "math/bits.deBruijn64tab", "unicode/utf8.first", "unicode/utf8.acceptRanges", "internal/bytealg.MaxLen"], plainKeys := false, apart := false, laid := [("math/bits.deBruijn32tab", laid_math_bits_deBruijn32tab), ("math/bits.deBruijn64tab", laid_math_bits_deBruijn64tab), ("internal/strconv.uint64pow10", laid_internal_strconv_uint64pow10), ("unicode/utf8.acceptRanges", laid_unicode_utf8_acceptRanges), ("unicode/utf8.first", laid_unicode_utf8_first)], narrowed := true }
def ManifestTreesUptoSaid : Prop := manifestTreesUptoRow.holds Tryz.pinned (OpenSpec.upto manifestTreesSpec)

/-- 'portmanteaulaw11.TreeLists', WHERE WHAT IT READS IS OF BULK AT MOST 1048576: true; the input reads as it did. -/
def treeListsUptoRow : OpenClaim := { program := "ytkleajhiihbefaagreatdoor", sum := "7fe74fd8bd611667e4f7f52c41490b8a1a01aa5c43bc61f07d672ff25cfad5ac", func := "portmanteau/portmanteaulaw11.TreeLists", spec := "treeLists", inPlace := ["internal/bytealg.CountString", "internal/bytealg.IndexByteString", "internal/bytealg.IndexString"], unfollowed := true, recurses := true, named := ["unicode/utf8.first", "unicode/utf8.acceptRanges", "internal/bytealg.MaxLen"], plainKeys := false, apart := false, laid := [("unicode/utf8.acceptRanges", laid_unicode_utf8_acceptRanges), ("unicode/utf8.first", laid_unicode_utf8_first)], narrowed := true }
def TreeListsUptoSaid : Prop := treeListsUptoRow.holds Tryz.pinned (OpenSpec.upto treeListsSpec)

end Rows
end Go.Proofs.YtkleajhiihbefaaGreatDoor
