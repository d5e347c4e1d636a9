/-
  DERIVED. GIVEN WITH THE SEED: THE CARDS: each row of YtgoedcjjckdlpaaDoorRows.lean that lists a variable, with what it lists TIED to the program's text (the seventh form; the later family's looks); each row that meets fmt, with fmt's text TOLD by the authors' own Lean function (tested against real Go, not proved from fmt's source: count such statements apart). THE CARD IS WHAT COUNTS. Prove the row's statement (the work); the ties are given (YtgoedcjjckdlpaaDoorTie.lean); close each card by the builder's one call (the guide's Derived/Test/ToyasCard.lean, 'card_holds'). Laid BY PROGRAM, IN A SANDBOX (cutbox-door.mjs). By AI agents, Wed Nov 11 2026. No macro, syntax, notation, axiom, sorry.
-/
import Derived.Test.YtgoedcjjckdlpaaDoorRows
import GoSem.ClaimSeven
namespace Go.Proofs.YtgoedcjjckdlpaaDoor
namespace Rows

/-- THE TIED CARD OF 'portmanteaulaw31.ScriptPlains'. -/
def scriptPlainsCard : Claim7 := { stood := { row := scriptPlainsRow, standIns := [], harness := (true, "459ed8dd49798a6d88e6a36e694db9a50cfbf48f7674ba71b7dfea0a6c2f9b71"), looks := false }, kinds := [], alts := [], laidByText := true, laidKinds := [.data, .data, .data], laidTests := true, laidLooks := .later }
def ScriptPlainsCardSaid : Prop := Claim7.holds Tryd.pinned (.plain (OpenSpec.ofChange scriptPlainsSpec)) scriptPlainsCard

/-- THE TIED CARD OF 'portmanteaulaw31.ScriptPrints'. -/
def scriptPrintsCard : Claim7 := { stood := { row := scriptPrintsRow, standIns := [], harness := (true, "459ed8dd49798a6d88e6a36e694db9a50cfbf48f7674ba71b7dfea0a6c2f9b71"), looks := false }, kinds := [], alts := [], laidByText := true, laidKinds := [.data, .data, .data], laidTests := true, laidLooks := .later }
def ScriptPrintsCardSaid : Prop := Claim7.holds Tryd.pinned (.plain (OpenSpec.ofChange scriptPrintsSpec)) scriptPrintsCard

/-- THE TIED CARD OF 'portmanteaulaw31.ScriptBack'. -/
def scriptBackCard : Claim7 := { stood := { row := scriptBackRow, standIns := [], harness := (true, "459ed8dd49798a6d88e6a36e694db9a50cfbf48f7674ba71b7dfea0a6c2f9b71"), looks := false }, kinds := [], alts := [], laidByText := true, laidKinds := [.data, .data, .data], laidTests := true, laidLooks := .later }
def ScriptBackCardSaid : Prop := Claim7.holds Tryd.pinned (.plain (OpenSpec.ofChange scriptBackSpec)) scriptBackCard

/-- THE SECOND FORM's CARD OF 'portmanteaulaw31.ScriptPlains'. -/
def scriptPlainsUptoCard : Claim7 := { stood := { row := scriptPlainsUptoRow, standIns := [], harness := (true, "459ed8dd49798a6d88e6a36e694db9a50cfbf48f7674ba71b7dfea0a6c2f9b71"), looks := false }, kinds := [], alts := [], laidByText := true, laidKinds := [.data, .data, .data], laidTests := true, laidLooks := .later }
def ScriptPlainsUptoCardSaid : Prop := Claim7.holds Tryd.pinned (.plain (OpenSpec.upto scriptPlainsSpec)) scriptPlainsUptoCard

/-- THE SECOND FORM's CARD OF 'portmanteaulaw31.ScriptPrints'. -/
def scriptPrintsUptoCard : Claim7 := { stood := { row := scriptPrintsUptoRow, standIns := [], harness := (true, "459ed8dd49798a6d88e6a36e694db9a50cfbf48f7674ba71b7dfea0a6c2f9b71"), looks := false }, kinds := [], alts := [], laidByText := true, laidKinds := [.data, .data, .data], laidTests := true, laidLooks := .later }
def ScriptPrintsUptoCardSaid : Prop := Claim7.holds Tryd.pinned (.plain (OpenSpec.upto scriptPrintsSpec)) scriptPrintsUptoCard

/-- THE SECOND FORM's CARD OF 'portmanteaulaw31.ScriptBack'. -/
def scriptBackUptoCard : Claim7 := { stood := { row := scriptBackUptoRow, standIns := [], harness := (true, "459ed8dd49798a6d88e6a36e694db9a50cfbf48f7674ba71b7dfea0a6c2f9b71"), looks := false }, kinds := [], alts := [], laidByText := true, laidKinds := [.data, .data, .data], laidTests := true, laidLooks := .later }
def ScriptBackUptoCardSaid : Prop := Claim7.holds Tryd.pinned (.plain (OpenSpec.upto scriptBackSpec)) scriptBackUptoCard
end Rows
end Go.Proofs.YtgoedcjjckdlpaaDoor
