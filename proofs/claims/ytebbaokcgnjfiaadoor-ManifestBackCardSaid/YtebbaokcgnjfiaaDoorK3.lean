import Derived.Laws.BitsLemmas
set_option linter.unusedVariables false
set_option linter.unusedSimpArgs false
namespace Go.Proofs.YtebbaokcgnjfiaaDoor.K
open Go
def le : List UInt8 → Nat
 | [] => 0
 | b :: r => b.toNat + 256 * le r
def enc : Nat → Nat → List UInt8
 | 0,_ => []
 | w + 1,n => UInt8.ofNat n :: enc w (n / 256)
def dv (n : Nat) : Nat → Nat
 | 0 => n
 | i + 1 => dv n i / 256
end Go.Proofs.YtebbaokcgnjfiaaDoor.K
