import Derived.Test.YtebbaokcgnjfiaaDoorK4
import Derived.Test.YtebbaokcgnjfiaaDoorK5
import Derived.ChangeArms
import Derived.Deep.Slices
set_option linter.unusedVariables false
set_option linter.unusedSimpArgs false
namespace Go.Proofs.YtebbaokcgnjfiaaDoor.K
open Go Go.RowKit Go.ChangeShapes Go.WideShapes Go.ChangeAt
def Op (P : Program) (t : TypeId) (α : Type) [Dat α] : Prop :=
 ∀ (H : Type) (enc : TypeId × Value → H) (W : World) (fuel : Nat) (cs : List Value) (x : DataW H × List MemPlace),DataW.trod enc P W 0 (fun _ => true) true fuel t cs = some x → ∃ a : α,cs = Dat.cells a ∧ Dat.ok 0 W.heap.size W a
variable {P : Program} {t e : TypeId}
end Go.Proofs.YtebbaokcgnjfiaaDoor.K
