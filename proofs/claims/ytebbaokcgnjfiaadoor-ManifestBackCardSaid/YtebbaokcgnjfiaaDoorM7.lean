import Derived.Test.YtebbaokcgnjfiaaDoorM5
import Derived.Laws.StructEq
import Derived.ChangeKeysEq
set_option linter.unusedVariables false
set_option linter.unusedSimpArgs false
set_option linter.unusedSectionVars false
namespace Go.Proofs.YtebbaokcgnjfiaaDoor.K
open Go Go.RowKit Go.Op
section
variable {α : Type} {r : Rep α} {m : Mem}
end
section
variable {P : Program} {B : Code} {n : Cx} {p : List Nat} {i : Nat} {κ : Kn} {w : World} {Z : Kn → World → Prop} {w0 : World} {F0 : Nat → Prop} {m0 m : Mem} {σ : List Item}
structure Key (α : Type) [BEq α] where
 fk : α → Value
 td : TypeDesc
 same : ∀ a b : α,Instr.sameNow td (fk a) (fk b) = some (a == b)
 bits : ∀ a b : α,(a == b) = true → Instr.sameBits 10000 (fk b) (fk a) = true
 ref : ∀ a b : α,(a == b) = true → a = b
 chk : ∀ (P : Program) (w : World) (e : Bool) (t : TypeId) (a : α),P.underlying t = some td → (Instr.checkKey e 10000 t (fk a)).run P w = .ok () w
section
variable {α β : Type} [BEq α] {K : Key α} {fv : β → Value}
end
end
end Go.Proofs.YtebbaokcgnjfiaaDoor.K
