/-
  DERIVED. GIVEN WITH THE SEED: THE CARDS: each row of YtkleajhiihbefaaGreatDoorRows.lean that lists a variable, with what it lists TIED to the program's text (the seventh form; the later family's looks); each row that meets fmt, with fmt's text TOLD by the authors' own Lean function (tested against real Go, not proved from fmt's source: count such statements apart). THE CARD IS WHAT COUNTS. Prove the row's statement (the work); the ties are given (YtkleajhiihbefaaGreatDoorTie.lean); close each card by the builder's one call (the guide's Derived/Test/ToyasCard.lean, 'card_holds'). Laid BY PROGRAM, IN A SANDBOX (cutbox-door.mjs). By AI agents, Wed Nov 11 2026. No macro, syntax, notation, axiom, sorry.
-/
import Derived.Test.YtkleajhiihbefaaGreatDoorRows
import GoSem.ClaimSeven
namespace Go.Proofs.YtkleajhiihbefaaGreatDoor
namespace Rows

/-- THE TIED CARD OF 'portmanteaulaw29.DiffTells'. -/
def diffTellsCard : Claim7 := { stood := { row := diffTellsRow, standIns := [], harness := (true, "0fcb9a384771b3b5b3c992d37684b57df0057b2baaf8cca700c93b1ddd3c779a"), looks := true }, kinds := [], alts := [], laidByText := true, laidKinds := [.data, .pinned], laidTests := true, laidLooks := .later }
def DiffTellsCardSaid : Prop := Claim7.holds Tryz.pinned (.plain (OpenSpec.ofChange diffTellsSpec)) diffTellsCard

/-- THE TIED CARD OF 'portmanteaulaw29.DiffFields'. -/
def diffFieldsCard : Claim7 := { stood := { row := diffFieldsRow, standIns := [], harness := (true, "0fcb9a384771b3b5b3c992d37684b57df0057b2baaf8cca700c93b1ddd3c779a"), looks := true }, kinds := [], alts := [], laidByText := true, laidKinds := [.data, .pinned], laidTests := true, laidLooks := .later }
def DiffFieldsCardSaid : Prop := Claim7.holds Tryz.pinned (.plain (OpenSpec.ofChange diffFieldsSpec)) diffFieldsCard

/-- THE TIED CARD OF 'portmanteaulaw29.DiffMerges'. -/
def diffMergesCard : Claim7 := { stood := { row := diffMergesRow, standIns := [], harness := (true, "0fcb9a384771b3b5b3c992d37684b57df0057b2baaf8cca700c93b1ddd3c779a"), looks := true }, kinds := [], alts := [], laidByText := true, laidKinds := [.data, .pinned], laidTests := true, laidLooks := .later }
def DiffMergesCardSaid : Prop := Claim7.holds Tryz.pinned (.plain (OpenSpec.ofChange diffMergesSpec)) diffMergesCard

/-- THE TIED CARD OF 'portmanteaulaw29.DiffSides'. -/
def diffSidesCard : Claim7 := { stood := { row := diffSidesRow, standIns := [], harness := (true, "0fcb9a384771b3b5b3c992d37684b57df0057b2baaf8cca700c93b1ddd3c779a"), looks := true }, kinds := [], alts := [], laidByText := true, laidKinds := [.data, .pinned], laidTests := true, laidLooks := .later }
def DiffSidesCardSaid : Prop := Claim7.holds Tryz.pinned (.plain (OpenSpec.ofChange diffSidesSpec)) diffSidesCard

/-- THE TIED CARD OF 'portmanteaulaw29.DiffApplies'. -/
def diffAppliesCard : Claim7 := { stood := { row := diffAppliesRow, standIns := [], harness := (true, "0fcb9a384771b3b5b3c992d37684b57df0057b2baaf8cca700c93b1ddd3c779a"), looks := true }, kinds := [], alts := [], laidByText := true, laidKinds := [.data, .pinned], laidTests := true, laidLooks := .later }
def DiffAppliesCardSaid : Prop := Claim7.holds Tryz.pinned (.plain (OpenSpec.ofChange diffAppliesSpec)) diffAppliesCard

/-- THE TIED CARD OF 'portmanteaulaw29.DiffBack'. -/
def diffBackCard : Claim7 := { stood := { row := diffBackRow, standIns := [], harness := (true, "0fcb9a384771b3b5b3c992d37684b57df0057b2baaf8cca700c93b1ddd3c779a"), looks := true }, kinds := [], alts := [], laidByText := true, laidKinds := [.data, .pinned], laidTests := true, laidLooks := .later }
def DiffBackCardSaid : Prop := Claim7.holds Tryz.pinned (.plain (OpenSpec.ofChange diffBackSpec)) diffBackCard

/-- THE TIED CARD OF 'portmanteaulaw28.GlobAll'. -/
def globAllCard : Claim7 := { stood := { row := globAllRow, standIns := [], harness := (true, "0fcb9a384771b3b5b3c992d37684b57df0057b2baaf8cca700c93b1ddd3c779a"), looks := true }, kinds := [], alts := [], laidByText := true, laidKinds := [.data, .pinned], laidTests := true, laidLooks := .later }
def GlobAllCardSaid : Prop := Claim7.holds Tryz.pinned (.plain (OpenSpec.ofChange globAllSpec)) globAllCard

/-- THE TIED CARD OF 'portmanteaulaw32.ReportUsage'. -/
def reportUsageCard : Claim7 := { stood := { row := reportUsageRow, standIns := [], harness := (true, "0fcb9a384771b3b5b3c992d37684b57df0057b2baaf8cca700c93b1ddd3c779a"), looks := true }, kinds := [], alts := [], laidByText := true, laidKinds := [.data, .pinned], laidTests := true, laidLooks := .later }
def ReportUsageCardSaid : Prop := Claim7.holds Tryz.pinned (.plain (OpenSpec.ofChange reportUsageSpec)) reportUsageCard

/-- THE TIED CARD OF 'portmanteaulaw32.ReportLargest'. -/
def reportLargestCard : Claim7 := { stood := { row := reportLargestRow, standIns := [], harness := (true, "0fcb9a384771b3b5b3c992d37684b57df0057b2baaf8cca700c93b1ddd3c779a"), looks := true }, kinds := [], alts := [], laidByText := true, laidKinds := [.data, .pinned], laidTests := true, laidLooks := .later }
def ReportLargestCardSaid : Prop := Claim7.holds Tryz.pinned (.plain (OpenSpec.ofChange reportLargestSpec)) reportLargestCard

/-- THE TIED CARD OF 'portmanteaulaw32.ReportTwins'. -/
def reportTwinsCard : Claim7 := { stood := { row := reportTwinsRow, standIns := [], harness := (true, "0fcb9a384771b3b5b3c992d37684b57df0057b2baaf8cca700c93b1ddd3c779a"), looks := true }, kinds := [], alts := [], laidByText := true, laidKinds := [.data, .pinned], laidTests := true, laidLooks := .later }
def ReportTwinsCardSaid : Prop := Claim7.holds Tryz.pinned (.plain (OpenSpec.ofChange reportTwinsSpec)) reportTwinsCard

/-- THE TIED CARD OF 'portmanteaulaw27.ManifestTrees'. -/
def manifestTreesCard : Claim7 := { stood := { row := manifestTreesRow, standIns := [], harness := (true, "0fcb9a384771b3b5b3c992d37684b57df0057b2baaf8cca700c93b1ddd3c779a"), looks := true }, kinds := [], alts := [], laidByText := true, laidKinds := [.data, .data, .data, .data, .pinned], laidTests := true, laidLooks := .later }
def ManifestTreesCardSaid : Prop := Claim7.holds Tryz.pinned (.plain (OpenSpec.ofChange manifestTreesSpec)) manifestTreesCard

/-- THE TIED CARD OF 'portmanteaulaw11.TreeLists'. -/
def treeListsCard : Claim7 := { stood := { row := treeListsRow, standIns := [], harness := (true, "0fcb9a384771b3b5b3c992d37684b57df0057b2baaf8cca700c93b1ddd3c779a"), looks := true }, kinds := [], alts := [], laidByText := true, laidKinds := [.data, .pinned], laidTests := true, laidLooks := .later }
def TreeListsCardSaid : Prop := Claim7.holds Tryz.pinned (.plain (OpenSpec.ofChange treeListsSpec)) treeListsCard

/-- THE SECOND FORM's CARD OF 'portmanteaulaw29.DiffTells'. -/
def diffTellsUptoCard : Claim7 := { stood := { row := diffTellsUptoRow, standIns := [], harness := (true, "0fcb9a384771b3b5b3c992d37684b57df0057b2baaf8cca700c93b1ddd3c779a"), looks := true }, kinds := [], alts := [], laidByText := true, laidKinds := [.data, .pinned], laidTests := true, laidLooks := .later }
def DiffTellsUptoCardSaid : Prop := Claim7.holds Tryz.pinned (.plain (OpenSpec.upto diffTellsSpec)) diffTellsUptoCard

/-- THE SECOND FORM's CARD OF 'portmanteaulaw29.DiffFields'. -/
def diffFieldsUptoCard : Claim7 := { stood := { row := diffFieldsUptoRow, standIns := [], harness := (true, "0fcb9a384771b3b5b3c992d37684b57df0057b2baaf8cca700c93b1ddd3c779a"), looks := true }, kinds := [], alts := [], laidByText := true, laidKinds := [.data, .pinned], laidTests := true, laidLooks := .later }
def DiffFieldsUptoCardSaid : Prop := Claim7.holds Tryz.pinned (.plain (OpenSpec.upto diffFieldsSpec)) diffFieldsUptoCard

/-- THE SECOND FORM's CARD OF 'portmanteaulaw29.DiffMerges'. -/
def diffMergesUptoCard : Claim7 := { stood := { row := diffMergesUptoRow, standIns := [], harness := (true, "0fcb9a384771b3b5b3c992d37684b57df0057b2baaf8cca700c93b1ddd3c779a"), looks := true }, kinds := [], alts := [], laidByText := true, laidKinds := [.data, .pinned], laidTests := true, laidLooks := .later }
def DiffMergesUptoCardSaid : Prop := Claim7.holds Tryz.pinned (.plain (OpenSpec.upto diffMergesSpec)) diffMergesUptoCard

/-- THE SECOND FORM's CARD OF 'portmanteaulaw29.DiffSides'. -/
def diffSidesUptoCard : Claim7 := { stood := { row := diffSidesUptoRow, standIns := [], harness := (true, "0fcb9a384771b3b5b3c992d37684b57df0057b2baaf8cca700c93b1ddd3c779a"), looks := true }, kinds := [], alts := [], laidByText := true, laidKinds := [.data, .pinned], laidTests := true, laidLooks := .later }
def DiffSidesUptoCardSaid : Prop := Claim7.holds Tryz.pinned (.plain (OpenSpec.upto diffSidesSpec)) diffSidesUptoCard

/-- THE SECOND FORM's CARD OF 'portmanteaulaw29.DiffApplies'. -/
def diffAppliesUptoCard : Claim7 := { stood := { row := diffAppliesUptoRow, standIns := [], harness := (true, "0fcb9a384771b3b5b3c992d37684b57df0057b2baaf8cca700c93b1ddd3c779a"), looks := true }, kinds := [], alts := [], laidByText := true, laidKinds := [.data, .pinned], laidTests := true, laidLooks := .later }
def DiffAppliesUptoCardSaid : Prop := Claim7.holds Tryz.pinned (.plain (OpenSpec.upto diffAppliesSpec)) diffAppliesUptoCard

/-- THE SECOND FORM's CARD OF 'portmanteaulaw29.DiffBack'. -/
def diffBackUptoCard : Claim7 := { stood := { row := diffBackUptoRow, standIns := [], harness := (true, "0fcb9a384771b3b5b3c992d37684b57df0057b2baaf8cca700c93b1ddd3c779a"), looks := true }, kinds := [], alts := [], laidByText := true, laidKinds := [.data, .pinned], laidTests := true, laidLooks := .later }
def DiffBackUptoCardSaid : Prop := Claim7.holds Tryz.pinned (.plain (OpenSpec.upto diffBackSpec)) diffBackUptoCard

/-- THE SECOND FORM's CARD OF 'portmanteaulaw28.GlobAll'. -/
def globAllUptoCard : Claim7 := { stood := { row := globAllUptoRow, standIns := [], harness := (true, "0fcb9a384771b3b5b3c992d37684b57df0057b2baaf8cca700c93b1ddd3c779a"), looks := true }, kinds := [], alts := [], laidByText := true, laidKinds := [.data, .pinned], laidTests := true, laidLooks := .later }
def GlobAllUptoCardSaid : Prop := Claim7.holds Tryz.pinned (.plain (OpenSpec.upto globAllSpec)) globAllUptoCard

/-- THE SECOND FORM's CARD OF 'portmanteaulaw32.ReportUsage'. -/
def reportUsageUptoCard : Claim7 := { stood := { row := reportUsageUptoRow, standIns := [], harness := (true, "0fcb9a384771b3b5b3c992d37684b57df0057b2baaf8cca700c93b1ddd3c779a"), looks := true }, kinds := [], alts := [], laidByText := true, laidKinds := [.data, .pinned], laidTests := true, laidLooks := .later }
def ReportUsageUptoCardSaid : Prop := Claim7.holds Tryz.pinned (.plain (OpenSpec.upto reportUsageSpec)) reportUsageUptoCard

/-- THE SECOND FORM's CARD OF 'portmanteaulaw32.ReportLargest'. -/
def reportLargestUptoCard : Claim7 := { stood := { row := reportLargestUptoRow, standIns := [], harness := (true, "0fcb9a384771b3b5b3c992d37684b57df0057b2baaf8cca700c93b1ddd3c779a"), looks := true }, kinds := [], alts := [], laidByText := true, laidKinds := [.data, .pinned], laidTests := true, laidLooks := .later }
def ReportLargestUptoCardSaid : Prop := Claim7.holds Tryz.pinned (.plain (OpenSpec.upto reportLargestSpec)) reportLargestUptoCard

/-- THE SECOND FORM's CARD OF 'portmanteaulaw32.ReportTwins'. -/
def reportTwinsUptoCard : Claim7 := { stood := { row := reportTwinsUptoRow, standIns := [], harness := (true, "0fcb9a384771b3b5b3c992d37684b57df0057b2baaf8cca700c93b1ddd3c779a"), looks := true }, kinds := [], alts := [], laidByText := true, laidKinds := [.data, .pinned], laidTests := true, laidLooks := .later }
def ReportTwinsUptoCardSaid : Prop := Claim7.holds Tryz.pinned (.plain (OpenSpec.upto reportTwinsSpec)) reportTwinsUptoCard

/-- THE SECOND FORM's CARD OF 'portmanteaulaw27.ManifestTrees'. -/
def manifestTreesUptoCard : Claim7 := { stood := { row := manifestTreesUptoRow, standIns := [], harness := (true, "0fcb9a384771b3b5b3c992d37684b57df0057b2baaf8cca700c93b1ddd3c779a"), looks := true }, kinds := [], alts := [], laidByText := true, laidKinds := [.data, .data, .data, .data, .pinned], laidTests := true, laidLooks := .later }
def ManifestTreesUptoCardSaid : Prop := Claim7.holds Tryz.pinned (.plain (OpenSpec.upto manifestTreesSpec)) manifestTreesUptoCard

/-- THE SECOND FORM's CARD OF 'portmanteaulaw11.TreeLists'. -/
def treeListsUptoCard : Claim7 := { stood := { row := treeListsUptoRow, standIns := [], harness := (true, "0fcb9a384771b3b5b3c992d37684b57df0057b2baaf8cca700c93b1ddd3c779a"), looks := true }, kinds := [], alts := [], laidByText := true, laidKinds := [.data, .pinned], laidTests := true, laidLooks := .later }
def TreeListsUptoCardSaid : Prop := Claim7.holds Tryz.pinned (.plain (OpenSpec.upto treeListsSpec)) treeListsUptoCard
end Rows
end Go.Proofs.YtkleajhiihbefaaGreatDoor
