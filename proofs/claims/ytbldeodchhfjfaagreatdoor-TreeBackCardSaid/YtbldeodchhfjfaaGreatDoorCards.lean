/-
  DERIVED. GIVEN WITH THE SEED: THE CARDS: each row of YtbldeodchhfjfaaGreatDoorRows.lean that lists a variable, with what it lists TIED to the program's text (the seventh form; the later family's looks); each row that meets fmt, with fmt's text TOLD by the authors' own Lean function (tested against real Go, not proved from fmt's source: count such statements apart). THE CARD IS WHAT COUNTS. Prove the row's statement (the work); the ties are given (YtbldeodchhfjfaaGreatDoorTie.lean); close each card by the builder's one call (the guide's Derived/Test/ToyasCard.lean, 'card_holds'). Laid BY PROGRAM, IN A SANDBOX (cutbox-door.mjs). By AI agents, Wed Nov 11 2026. No macro, syntax, notation, axiom, sorry.
-/
import Derived.Test.YtbldeodchhfjfaaGreatDoorRows
import GoSem.ClaimSeven
namespace Go.Proofs.YtbldeodchhfjfaaGreatDoor
namespace Rows

/-- THE TIED CARD OF 'portmanteaulaw11.TreeNames'. -/
def treeNamesCard : Claim7 := { stood := { row := treeNamesRow, standIns := [], harness := (true, "53684fed914259f4eee9d0e42a1a872b293f28c0f2eaf2f41ad9694c6799da25"), looks := true }, kinds := [], alts := [], laidByText := true, laidKinds := [.data, .pinned], laidTests := true, laidLooks := .later }
def TreeNamesCardSaid : Prop := Claim7.holds Tryz.pinned (.plain (OpenSpec.ofChange treeNamesSpec)) treeNamesCard

/-- THE TIED CARD OF 'portmanteaulaw11.TreeOrders'. -/
def treeOrdersCard : Claim7 := { stood := { row := treeOrdersRow, standIns := [], harness := (true, "53684fed914259f4eee9d0e42a1a872b293f28c0f2eaf2f41ad9694c6799da25"), looks := true }, kinds := [], alts := [], laidByText := true, laidKinds := [.data, .pinned], laidTests := true, laidLooks := .later }
def TreeOrdersCardSaid : Prop := Claim7.holds Tryz.pinned (.plain (OpenSpec.ofChange treeOrdersSpec)) treeOrdersCard

/-- THE TIED CARD OF 'portmanteaulaw11.TreeLists'. -/
def treeListsCard : Claim7 := { stood := { row := treeListsRow, standIns := [], harness := (true, "53684fed914259f4eee9d0e42a1a872b293f28c0f2eaf2f41ad9694c6799da25"), looks := true }, kinds := [], alts := [], laidByText := true, laidKinds := [.data, .pinned], laidTests := true, laidLooks := .later }
def TreeListsCardSaid : Prop := Claim7.holds Tryz.pinned (.plain (OpenSpec.ofChange treeListsSpec)) treeListsCard

/-- THE TIED CARD OF 'portmanteaulaw11.TreeBack'. -/
def treeBackCard : Claim7 := { stood := { row := treeBackRow, standIns := [], harness := (true, "53684fed914259f4eee9d0e42a1a872b293f28c0f2eaf2f41ad9694c6799da25"), looks := true }, kinds := [], alts := [], laidByText := true, laidKinds := [.data, .pinned], laidTests := true, laidLooks := .later }
def TreeBackCardSaid : Prop := Claim7.holds Tryz.pinned (.plain (OpenSpec.ofChange treeBackSpec)) treeBackCard

/-- THE TIED CARD OF 'portmanteaulaw11.TreeOwn'. -/
def treeOwnCard : Claim7 := { stood := { row := treeOwnRow, standIns := [], harness := (true, "53684fed914259f4eee9d0e42a1a872b293f28c0f2eaf2f41ad9694c6799da25"), looks := true }, kinds := [], alts := [], laidByText := true, laidKinds := [.data, .pinned], laidTests := true, laidLooks := .later }
def TreeOwnCardSaid : Prop := Claim7.holds Tryz.pinned (.plain (OpenSpec.ofChange treeOwnSpec)) treeOwnCard

/-- THE TIED CARD OF 'portmanteaulaw32.ReportUsage'. -/
def reportUsageCard : Claim7 := { stood := { row := reportUsageRow, standIns := [], harness := (true, "53684fed914259f4eee9d0e42a1a872b293f28c0f2eaf2f41ad9694c6799da25"), looks := true }, kinds := [], alts := [], laidByText := true, laidKinds := [.data, .pinned], laidTests := true, laidLooks := .later }
def ReportUsageCardSaid : Prop := Claim7.holds Tryz.pinned (.plain (OpenSpec.ofChange reportUsageSpec)) reportUsageCard

/-- THE TIED CARD OF 'portmanteaulaw29.DiffTells'. -/
def diffTellsCard : Claim7 := { stood := { row := diffTellsRow, standIns := [], harness := (true, "53684fed914259f4eee9d0e42a1a872b293f28c0f2eaf2f41ad9694c6799da25"), looks := true }, kinds := [], alts := [], laidByText := true, laidKinds := [.data, .pinned], laidTests := true, laidLooks := .later }
def DiffTellsCardSaid : Prop := Claim7.holds Tryz.pinned (.plain (OpenSpec.ofChange diffTellsSpec)) diffTellsCard

/-- THE TIED CARD OF 'portmanteaulaw29.DiffFields'. -/
def diffFieldsCard : Claim7 := { stood := { row := diffFieldsRow, standIns := [], harness := (true, "53684fed914259f4eee9d0e42a1a872b293f28c0f2eaf2f41ad9694c6799da25"), looks := true }, kinds := [], alts := [], laidByText := true, laidKinds := [.data, .pinned], laidTests := true, laidLooks := .later }
def DiffFieldsCardSaid : Prop := Claim7.holds Tryz.pinned (.plain (OpenSpec.ofChange diffFieldsSpec)) diffFieldsCard

/-- THE TIED CARD OF 'portmanteaulaw29.DiffMerges'. -/
def diffMergesCard : Claim7 := { stood := { row := diffMergesRow, standIns := [], harness := (true, "53684fed914259f4eee9d0e42a1a872b293f28c0f2eaf2f41ad9694c6799da25"), looks := true }, kinds := [], alts := [], laidByText := true, laidKinds := [.data, .pinned], laidTests := true, laidLooks := .later }
def DiffMergesCardSaid : Prop := Claim7.holds Tryz.pinned (.plain (OpenSpec.ofChange diffMergesSpec)) diffMergesCard

/-- THE TIED CARD OF 'portmanteaulaw29.DiffSides'. -/
def diffSidesCard : Claim7 := { stood := { row := diffSidesRow, standIns := [], harness := (true, "53684fed914259f4eee9d0e42a1a872b293f28c0f2eaf2f41ad9694c6799da25"), looks := true }, kinds := [], alts := [], laidByText := true, laidKinds := [.data, .pinned], laidTests := true, laidLooks := .later }
def DiffSidesCardSaid : Prop := Claim7.holds Tryz.pinned (.plain (OpenSpec.ofChange diffSidesSpec)) diffSidesCard

/-- THE TIED CARD OF 'portmanteaulaw29.DiffApplies'. -/
def diffAppliesCard : Claim7 := { stood := { row := diffAppliesRow, standIns := [], harness := (true, "53684fed914259f4eee9d0e42a1a872b293f28c0f2eaf2f41ad9694c6799da25"), looks := true }, kinds := [], alts := [], laidByText := true, laidKinds := [.data, .pinned], laidTests := true, laidLooks := .later }
def DiffAppliesCardSaid : Prop := Claim7.holds Tryz.pinned (.plain (OpenSpec.ofChange diffAppliesSpec)) diffAppliesCard

/-- THE TIED CARD OF 'portmanteaulaw29.DiffBack'. -/
def diffBackCard : Claim7 := { stood := { row := diffBackRow, standIns := [], harness := (true, "53684fed914259f4eee9d0e42a1a872b293f28c0f2eaf2f41ad9694c6799da25"), looks := true }, kinds := [], alts := [], laidByText := true, laidKinds := [.data, .pinned], laidTests := true, laidLooks := .later }
def DiffBackCardSaid : Prop := Claim7.holds Tryz.pinned (.plain (OpenSpec.ofChange diffBackSpec)) diffBackCard

/-- THE SECOND FORM's CARD OF 'portmanteaulaw11.TreeNames'. -/
def treeNamesUptoCard : Claim7 := { stood := { row := treeNamesUptoRow, standIns := [], harness := (true, "53684fed914259f4eee9d0e42a1a872b293f28c0f2eaf2f41ad9694c6799da25"), looks := true }, kinds := [], alts := [], laidByText := true, laidKinds := [.data, .pinned], laidTests := true, laidLooks := .later }
def TreeNamesUptoCardSaid : Prop := Claim7.holds Tryz.pinned (.plain (OpenSpec.upto treeNamesSpec)) treeNamesUptoCard

/-- THE SECOND FORM's CARD OF 'portmanteaulaw11.TreeOrders'. -/
def treeOrdersUptoCard : Claim7 := { stood := { row := treeOrdersUptoRow, standIns := [], harness := (true, "53684fed914259f4eee9d0e42a1a872b293f28c0f2eaf2f41ad9694c6799da25"), looks := true }, kinds := [], alts := [], laidByText := true, laidKinds := [.data, .pinned], laidTests := true, laidLooks := .later }
def TreeOrdersUptoCardSaid : Prop := Claim7.holds Tryz.pinned (.plain (OpenSpec.upto treeOrdersSpec)) treeOrdersUptoCard

/-- THE SECOND FORM's CARD OF 'portmanteaulaw11.TreeLists'. -/
def treeListsUptoCard : Claim7 := { stood := { row := treeListsUptoRow, standIns := [], harness := (true, "53684fed914259f4eee9d0e42a1a872b293f28c0f2eaf2f41ad9694c6799da25"), looks := true }, kinds := [], alts := [], laidByText := true, laidKinds := [.data, .pinned], laidTests := true, laidLooks := .later }
def TreeListsUptoCardSaid : Prop := Claim7.holds Tryz.pinned (.plain (OpenSpec.upto treeListsSpec)) treeListsUptoCard

/-- THE SECOND FORM's CARD OF 'portmanteaulaw11.TreeBack'. -/
def treeBackUptoCard : Claim7 := { stood := { row := treeBackUptoRow, standIns := [], harness := (true, "53684fed914259f4eee9d0e42a1a872b293f28c0f2eaf2f41ad9694c6799da25"), looks := true }, kinds := [], alts := [], laidByText := true, laidKinds := [.data, .pinned], laidTests := true, laidLooks := .later }
def TreeBackUptoCardSaid : Prop := Claim7.holds Tryz.pinned (.plain (OpenSpec.upto treeBackSpec)) treeBackUptoCard

/-- THE SECOND FORM's CARD OF 'portmanteaulaw11.TreeOwn'. -/
def treeOwnUptoCard : Claim7 := { stood := { row := treeOwnUptoRow, standIns := [], harness := (true, "53684fed914259f4eee9d0e42a1a872b293f28c0f2eaf2f41ad9694c6799da25"), looks := true }, kinds := [], alts := [], laidByText := true, laidKinds := [.data, .pinned], laidTests := true, laidLooks := .later }
def TreeOwnUptoCardSaid : Prop := Claim7.holds Tryz.pinned (.plain (OpenSpec.upto treeOwnSpec)) treeOwnUptoCard

/-- THE SECOND FORM's CARD OF 'portmanteaulaw32.ReportUsage'. -/
def reportUsageUptoCard : Claim7 := { stood := { row := reportUsageUptoRow, standIns := [], harness := (true, "53684fed914259f4eee9d0e42a1a872b293f28c0f2eaf2f41ad9694c6799da25"), looks := true }, kinds := [], alts := [], laidByText := true, laidKinds := [.data, .pinned], laidTests := true, laidLooks := .later }
def ReportUsageUptoCardSaid : Prop := Claim7.holds Tryz.pinned (.plain (OpenSpec.upto reportUsageSpec)) reportUsageUptoCard

/-- THE SECOND FORM's CARD OF 'portmanteaulaw29.DiffTells'. -/
def diffTellsUptoCard : Claim7 := { stood := { row := diffTellsUptoRow, standIns := [], harness := (true, "53684fed914259f4eee9d0e42a1a872b293f28c0f2eaf2f41ad9694c6799da25"), looks := true }, kinds := [], alts := [], laidByText := true, laidKinds := [.data, .pinned], laidTests := true, laidLooks := .later }
def DiffTellsUptoCardSaid : Prop := Claim7.holds Tryz.pinned (.plain (OpenSpec.upto diffTellsSpec)) diffTellsUptoCard

/-- THE SECOND FORM's CARD OF 'portmanteaulaw29.DiffFields'. -/
def diffFieldsUptoCard : Claim7 := { stood := { row := diffFieldsUptoRow, standIns := [], harness := (true, "53684fed914259f4eee9d0e42a1a872b293f28c0f2eaf2f41ad9694c6799da25"), looks := true }, kinds := [], alts := [], laidByText := true, laidKinds := [.data, .pinned], laidTests := true, laidLooks := .later }
def DiffFieldsUptoCardSaid : Prop := Claim7.holds Tryz.pinned (.plain (OpenSpec.upto diffFieldsSpec)) diffFieldsUptoCard

/-- THE SECOND FORM's CARD OF 'portmanteaulaw29.DiffMerges'. -/
def diffMergesUptoCard : Claim7 := { stood := { row := diffMergesUptoRow, standIns := [], harness := (true, "53684fed914259f4eee9d0e42a1a872b293f28c0f2eaf2f41ad9694c6799da25"), looks := true }, kinds := [], alts := [], laidByText := true, laidKinds := [.data, .pinned], laidTests := true, laidLooks := .later }
def DiffMergesUptoCardSaid : Prop := Claim7.holds Tryz.pinned (.plain (OpenSpec.upto diffMergesSpec)) diffMergesUptoCard

/-- THE SECOND FORM's CARD OF 'portmanteaulaw29.DiffSides'. -/
def diffSidesUptoCard : Claim7 := { stood := { row := diffSidesUptoRow, standIns := [], harness := (true, "53684fed914259f4eee9d0e42a1a872b293f28c0f2eaf2f41ad9694c6799da25"), looks := true }, kinds := [], alts := [], laidByText := true, laidKinds := [.data, .pinned], laidTests := true, laidLooks := .later }
def DiffSidesUptoCardSaid : Prop := Claim7.holds Tryz.pinned (.plain (OpenSpec.upto diffSidesSpec)) diffSidesUptoCard

/-- THE SECOND FORM's CARD OF 'portmanteaulaw29.DiffApplies'. -/
def diffAppliesUptoCard : Claim7 := { stood := { row := diffAppliesUptoRow, standIns := [], harness := (true, "53684fed914259f4eee9d0e42a1a872b293f28c0f2eaf2f41ad9694c6799da25"), looks := true }, kinds := [], alts := [], laidByText := true, laidKinds := [.data, .pinned], laidTests := true, laidLooks := .later }
def DiffAppliesUptoCardSaid : Prop := Claim7.holds Tryz.pinned (.plain (OpenSpec.upto diffAppliesSpec)) diffAppliesUptoCard

/-- THE SECOND FORM's CARD OF 'portmanteaulaw29.DiffBack'. -/
def diffBackUptoCard : Claim7 := { stood := { row := diffBackUptoRow, standIns := [], harness := (true, "53684fed914259f4eee9d0e42a1a872b293f28c0f2eaf2f41ad9694c6799da25"), looks := true }, kinds := [], alts := [], laidByText := true, laidKinds := [.data, .pinned], laidTests := true, laidLooks := .later }
def DiffBackUptoCardSaid : Prop := Claim7.holds Tryz.pinned (.plain (OpenSpec.upto diffBackSpec)) diffBackUptoCard
end Rows
end Go.Proofs.YtbldeodchhfjfaaGreatDoor
