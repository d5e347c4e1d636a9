import Derived.Test.YtebbaokcgnjfiaaDoorK7
import Derived.Lib.Bytealg
import Derived.Lib.IndexLaws
import Derived.Laws.Externs
set_option linter.unusedVariables false
set_option linter.unusedSimpArgs false
set_option linter.unusedSectionVars false
namespace Go.Proofs.YtebbaokcgnjfiaaDoor.K
open Go Go.RowKit Go.Op
section
variable {P : Program} {B : Code} {n : Cx} {p : List Nat} {i : Nat} {κ : Kn} {w : World} {Z : Kn → World → Prop}
end
end Go.Proofs.YtebbaokcgnjfiaaDoor.K
