/-
  DERIVED. GIVEN WITH THE SEED: THE CARDS: each row of YtkmhidggbnbaaaaGreatDoorRows.lean that lists a variable, with what it lists TIED to the program's text (the seventh form; the later family's looks); each row that meets fmt, with fmt's text TOLD by the authors' own Lean function (tested against real Go, not proved from fmt's source: count such statements apart). THE CARD IS WHAT COUNTS. Prove the row's statement (the work); the ties are given (YtkmhidggbnbaaaaGreatDoorTie.lean); close each card by the builder's one call (the guide's Derived/Test/ToyasCard.lean, 'card_holds'). Laid BY PROGRAM, IN A SANDBOX (cutbox-door.mjs). By AI agents, Wed Nov 11 2026. No macro, syntax, notation, axiom, sorry.
-/
import Derived.Test.YtkmhidggbnbaaaaGreatDoorRows
import GoSem.ClaimSeven
namespace Go.Proofs.YtkmhidggbnbaaaaGreatDoor
namespace Rows

/-- THE TIED CARD OF 'portmanteaulaw12.ModelReads'. -/
def modelReadsCard : Claim7 := { stood := { row := modelReadsRow, standIns := [], harness := (true, "81cde26f91a49ffc58e5434e9d48be3306c9e0ef7c2beb54d87e8ba76f846373"), looks := true }, kinds := [], alts := [], laidByText := true, laidKinds := [.data, .pinned], laidTests := true, laidLooks := .later }
def ModelReadsCardSaid : Prop := Claim7.holds Tryz.pinned (.plain (OpenSpec.ofChange modelReadsSpec)) modelReadsCard

/-- THE TIED CARD OF 'portmanteaulaw12.ModelAttrs'. -/
def modelAttrsCard : Claim7 := { stood := { row := modelAttrsRow, standIns := [], harness := (true, "81cde26f91a49ffc58e5434e9d48be3306c9e0ef7c2beb54d87e8ba76f846373"), looks := true }, kinds := [], alts := [], laidByText := true, laidKinds := [.data, .pinned], laidTests := true, laidLooks := .later }
def ModelAttrsCardSaid : Prop := Claim7.holds Tryz.pinned (.plain (OpenSpec.ofChange modelAttrsSpec)) modelAttrsCard

/-- THE TIED CARD OF 'portmanteaulaw12.ModelTells'. -/
def modelTellsCard : Claim7 := { stood := { row := modelTellsRow, standIns := [], harness := (true, "81cde26f91a49ffc58e5434e9d48be3306c9e0ef7c2beb54d87e8ba76f846373"), looks := true }, kinds := [], alts := [], laidByText := true, laidKinds := [.data, .pinned], laidTests := true, laidLooks := .later }
def ModelTellsCardSaid : Prop := Claim7.holds Tryz.pinned (.plain (OpenSpec.ofChange modelTellsSpec)) modelTellsCard

/-- THE TIED CARD OF 'portmanteaulaw12.ModelLists'. -/
def modelListsCard : Claim7 := { stood := { row := modelListsRow, standIns := [], harness := (true, "81cde26f91a49ffc58e5434e9d48be3306c9e0ef7c2beb54d87e8ba76f846373"), looks := true }, kinds := [], alts := [], laidByText := true, laidKinds := [.data, .pinned], laidTests := true, laidLooks := .later }
def ModelListsCardSaid : Prop := Claim7.holds Tryz.pinned (.plain (OpenSpec.ofChange modelListsSpec)) modelListsCard

/-- THE TIED CARD OF 'portmanteaulaw12.ModelParts'. -/
def modelPartsCard : Claim7 := { stood := { row := modelPartsRow, standIns := [], harness := (true, "81cde26f91a49ffc58e5434e9d48be3306c9e0ef7c2beb54d87e8ba76f846373"), looks := true }, kinds := [], alts := [], laidByText := true, laidKinds := [.data, .pinned], laidTests := true, laidLooks := .later }
def ModelPartsCardSaid : Prop := Claim7.holds Tryz.pinned (.plain (OpenSpec.ofChange modelPartsSpec)) modelPartsCard

/-- THE SECOND FORM's CARD OF 'portmanteaulaw12.ModelReads'. -/
def modelReadsUptoCard : Claim7 := { stood := { row := modelReadsUptoRow, standIns := [], harness := (true, "81cde26f91a49ffc58e5434e9d48be3306c9e0ef7c2beb54d87e8ba76f846373"), looks := true }, kinds := [], alts := [], laidByText := true, laidKinds := [.data, .pinned], laidTests := true, laidLooks := .later }
def ModelReadsUptoCardSaid : Prop := Claim7.holds Tryz.pinned (.plain (OpenSpec.upto modelReadsSpec)) modelReadsUptoCard

/-- THE SECOND FORM's CARD OF 'portmanteaulaw12.ModelAttrs'. -/
def modelAttrsUptoCard : Claim7 := { stood := { row := modelAttrsUptoRow, standIns := [], harness := (true, "81cde26f91a49ffc58e5434e9d48be3306c9e0ef7c2beb54d87e8ba76f846373"), looks := true }, kinds := [], alts := [], laidByText := true, laidKinds := [.data, .pinned], laidTests := true, laidLooks := .later }
def ModelAttrsUptoCardSaid : Prop := Claim7.holds Tryz.pinned (.plain (OpenSpec.upto modelAttrsSpec)) modelAttrsUptoCard

/-- THE SECOND FORM's CARD OF 'portmanteaulaw12.ModelTells'. -/
def modelTellsUptoCard : Claim7 := { stood := { row := modelTellsUptoRow, standIns := [], harness := (true, "81cde26f91a49ffc58e5434e9d48be3306c9e0ef7c2beb54d87e8ba76f846373"), looks := true }, kinds := [], alts := [], laidByText := true, laidKinds := [.data, .pinned], laidTests := true, laidLooks := .later }
def ModelTellsUptoCardSaid : Prop := Claim7.holds Tryz.pinned (.plain (OpenSpec.upto modelTellsSpec)) modelTellsUptoCard

/-- THE SECOND FORM's CARD OF 'portmanteaulaw12.ModelLists'. -/
def modelListsUptoCard : Claim7 := { stood := { row := modelListsUptoRow, standIns := [], harness := (true, "81cde26f91a49ffc58e5434e9d48be3306c9e0ef7c2beb54d87e8ba76f846373"), looks := true }, kinds := [], alts := [], laidByText := true, laidKinds := [.data, .pinned], laidTests := true, laidLooks := .later }
def ModelListsUptoCardSaid : Prop := Claim7.holds Tryz.pinned (.plain (OpenSpec.upto modelListsSpec)) modelListsUptoCard

/-- THE SECOND FORM's CARD OF 'portmanteaulaw12.ModelParts'. -/
def modelPartsUptoCard : Claim7 := { stood := { row := modelPartsUptoRow, standIns := [], harness := (true, "81cde26f91a49ffc58e5434e9d48be3306c9e0ef7c2beb54d87e8ba76f846373"), looks := true }, kinds := [], alts := [], laidByText := true, laidKinds := [.data, .pinned], laidTests := true, laidLooks := .later }
def ModelPartsUptoCardSaid : Prop := Claim7.holds Tryz.pinned (.plain (OpenSpec.upto modelPartsSpec)) modelPartsUptoCard
end Rows
end Go.Proofs.YtkmhidggbnbaaaaGreatDoor
