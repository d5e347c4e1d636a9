/-
  DERIVED. GIVEN WITH THE SEED: THE CARDS: each row of YtebbaokcgnjfiaaDoorRows.lean that lists a variable, with what it lists TIED to the program's text (the seventh form; the later family's looks); each row that meets fmt, with fmt's text TOLD by the authors' own Lean function (tested against real Go, not proved from fmt's source: count such statements apart). THE CARD IS WHAT COUNTS. Prove the row's statement (the work); the ties are given (YtebbaokcgnjfiaaDoorTie.lean); close each card by the builder's one call (the guide's Derived/Test/ToyasCard.lean, 'card_holds'). Laid BY PROGRAM, IN A SANDBOX (cutbox-door.mjs). By AI agents, Wed Nov 11 2026. No macro, syntax, notation, axiom, sorry.
-/
import Derived.Test.YtebbaokcgnjfiaaDoorRows
import GoSem.ClaimSeven
namespace Go.Proofs.YtebbaokcgnjfiaaDoor
namespace Rows

/-- THE TIED CARD OF 'portmanteaulaw27.ManifestPrints'. -/
def manifestPrintsCard : Claim7 := { stood := { row := manifestPrintsRow, standIns := [], harness := (true, "179d5f4d14ab753c18a7d9ad24ece7730f74050222f7841c94f659ffc5383960"), looks := false }, kinds := [], alts := [], laidByText := true, laidKinds := [.data, .data, .data], laidTests := true, laidLooks := .later }
def ManifestPrintsCardSaid : Prop := Claim7.holds Tryd.pinned (.plain (OpenSpec.ofChange manifestPrintsSpec)) manifestPrintsCard

/-- THE TIED CARD OF 'portmanteaulaw27.ManifestWords'. -/
def manifestWordsCard : Claim7 := { stood := { row := manifestWordsRow, standIns := [], harness := (true, "179d5f4d14ab753c18a7d9ad24ece7730f74050222f7841c94f659ffc5383960"), looks := false }, kinds := [], alts := [], laidByText := true, laidKinds := [.data, .data, .data], laidTests := true, laidLooks := .later }
def ManifestWordsCardSaid : Prop := Claim7.holds Tryd.pinned (.plain (OpenSpec.ofChange manifestWordsSpec)) manifestWordsCard

/-- THE TIED CARD OF 'portmanteaulaw27.ManifestBack'. -/
def manifestBackCard : Claim7 := { stood := { row := manifestBackRow, standIns := [], harness := (true, "179d5f4d14ab753c18a7d9ad24ece7730f74050222f7841c94f659ffc5383960"), looks := false }, kinds := [], alts := [], laidByText := true, laidKinds := [.data, .data, .data], laidTests := true, laidLooks := .later }
def ManifestBackCardSaid : Prop := Claim7.holds Tryd.pinned (.plain (OpenSpec.ofChange manifestBackSpec)) manifestBackCard

/-- THE SECOND FORM's CARD OF 'portmanteaulaw27.ManifestPrints'. -/
def manifestPrintsUptoCard : Claim7 := { stood := { row := manifestPrintsUptoRow, standIns := [], harness := (true, "179d5f4d14ab753c18a7d9ad24ece7730f74050222f7841c94f659ffc5383960"), looks := false }, kinds := [], alts := [], laidByText := true, laidKinds := [.data, .data, .data], laidTests := true, laidLooks := .later }
def ManifestPrintsUptoCardSaid : Prop := Claim7.holds Tryd.pinned (.plain (OpenSpec.upto manifestPrintsSpec)) manifestPrintsUptoCard

/-- THE SECOND FORM's CARD OF 'portmanteaulaw27.ManifestWords'. -/
def manifestWordsUptoCard : Claim7 := { stood := { row := manifestWordsUptoRow, standIns := [], harness := (true, "179d5f4d14ab753c18a7d9ad24ece7730f74050222f7841c94f659ffc5383960"), looks := false }, kinds := [], alts := [], laidByText := true, laidKinds := [.data, .data, .data], laidTests := true, laidLooks := .later }
def ManifestWordsUptoCardSaid : Prop := Claim7.holds Tryd.pinned (.plain (OpenSpec.upto manifestWordsSpec)) manifestWordsUptoCard

/-- THE SECOND FORM's CARD OF 'portmanteaulaw27.ManifestBack'. -/
def manifestBackUptoCard : Claim7 := { stood := { row := manifestBackUptoRow, standIns := [], harness := (true, "179d5f4d14ab753c18a7d9ad24ece7730f74050222f7841c94f659ffc5383960"), looks := false }, kinds := [], alts := [], laidByText := true, laidKinds := [.data, .data, .data], laidTests := true, laidLooks := .later }
def ManifestBackUptoCardSaid : Prop := Claim7.holds Tryd.pinned (.plain (OpenSpec.upto manifestBackSpec)) manifestBackUptoCard
end Rows
end Go.Proofs.YtebbaokcgnjfiaaDoor
