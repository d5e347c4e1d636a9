import Derived.Test.YtebbaokcgnjfiaaEGP
import Derived.Test.YtebbaokcgnjfiaaW
set_option linter.unusedVariables false
set_option linter.unusedSimpArgs false
namespace Go.Proofs.Ytebbaokcgnjfiaa.F
open Go Go.RowKit Go.Proofs.Ytebbaokcgnjfiaa.K Go.Proofs.Ytebbaokcgnjfiaa.K.E
/-- The piece of a byte itself. -/
def bitU (c : UInt8) : UInt64 := 0 ||| shl64 1 ((c &&& (63 : UInt8)).toNat : Int)
def inB (c : UInt8) : UInt64 × UInt64 × UInt64 × UInt64 := (cond (shr8 c 6 == 0) (bitU c) 0, cond (shr8 c 6 == 1) (bitU c) 0, cond (shr8 c 6 == 2) (bitU c) 0, cond (shr8 c 6 == 3) (bitU c) 0)
def pcB (c : UInt8) : TGlobPiece := { f_kind := 2, f_in := inB c }
def all8 : List UInt8 := (List.range 256).map UInt8.ofNat
theorem all8_mem (c : UInt8) : c ∈ all8 := by
  unfold all8
  rw [List.mem_map]
  exact ⟨c.toNat, by rw [List.mem_range]; exact c.toNat_lt, by simp⟩
def opEqB (a b : Option (Int × UInt64 × UInt64 × UInt64 × UInt64)) : Bool := decide (a = b)
theorem put_all : (all8.all fun c => decide (glob_piece_put 2 0 0 0 0 c = some (2, inB c))) = true := by kernel_rfl
theorem put_eq (c : UInt8) : glob_piece_put 2 0 0 0 0 c = some (2, inB c) := of_decide_eq_true (List.all_eq_true.1 put_all c (all8_mem c))
theorem has_all : (all8.all fun c => all8.all fun d => decide (glob_piece_has (pcB c) d = some (c == d))) = true := by kernel_rfl
theorem has_eq (c d : UInt8) : glob_piece_has (pcB c) d = some (c == d) := of_decide_eq_true (List.all_eq_true.1 (List.all_eq_true.1 has_all c (all8_mem c)) d (all8_mem d))
end Go.Proofs.Ytebbaokcgnjfiaa.F
