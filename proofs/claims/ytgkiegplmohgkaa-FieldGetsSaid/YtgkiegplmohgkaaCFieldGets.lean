/- FieldGets: the walk. -/
import Derived.Test.YtgkiegplmohgkaaF2
set_option linter.unusedVariables false
set_option linter.unusedSimpArgs false
namespace Go.Proofs.Ytgkiegplmohgkaa.F
open Go Go.RowKit Go.Proofs.Ytgkiegplmohgkaa.K
theorem fieldGets_c (w : World) (A : Option Addr) (len cap : Nat) {l : List UInt8} (h : Cs 0 w.heap.size w A (bs l)) (hl : l.length = len) (hcap : len ≤ cap) (hmax : cap ≤ maxLen) (a : Int) (ha : -9223372036854775808 ≤ a ∧ a ≤ 9223372036854775807) (wd : Int) (hb : -9223372036854775808 ≤ wd ∧ wd ≤ 9223372036854775807) :
    Calls Try.prog 3 #[.slice A len cap, .int .i64 a, .int .i64 wd] w fun e w' => ∃ v, e = .returned v ∧ (v = .bool true ∧ Ex w w') := by
  refine callsR Try.func3 (by kernel_rfl) (by kernel_rfl) ?_
  have hmx : maxLen = 9223372036854775807 := rfl
  have hF : Ex w w := Kp.refl _ _
  refine seg 11 [.co [1, 0, 1], .co [1, 1]] [(0, .slice A len cap), (1, .int .i64 a), (2, .int .i64 wd), (13, .bool (decide ((len : Int) > 70000)))] (by kernel_rfl) ?_
  rcases bsplit (decide ((len : Int) > 70000)) with hb1 | hb1
  · rw [hb1]
    have h1 := of_decide_eq_true hb1
    refine seg 3 [.op [1, 0, 1, 0, 0] 0, .co [1, 0, 1, 0, 1], .co [1, 1]] [] (by kernel_rfl) ?_
    refine callR (some 14) 15 #[] Try.call15 (live_c w) (by kernel_rfl) ?_
    rintro _ w2 ⟨rfl, hx2⟩
    have hz2 := hx2.size
    replace hF := hF.ex hx2
    refine seg 2 [.co [1, 0, 1, 0, 1], .co [1, 1]] [(6, .bool true)] (by kernel_rfl) ?_
    refine retR [6] [.bool true] (by kernel_rfl) (by kernel_rfl) (by kernel_rfl) ?_
    exact ⟨_, rfl, rfl, hF⟩
  · rw [hb1]
    have h1 := of_decide_eq_false hb1
    refine seg 7 [.op [1, 1, 0] 3, .co [1, 1, 1]] [(0, .slice A len cap), (1, .int .i64 a), (2, .int .i64 wd), (16, .slice A len cap), (17, .int .i64 a), (18, .int .i64 wd)] (by kernel_rfl) ?_
    have hll3 : (l).length = len := (by first | rfl | omega | (simp; omega))
    refine callR (some 19) 16 #[.slice A len cap, .int .i64 a, .int .i64 wd] Try.call16 (get_c w A len cap h hll3 (by omega) (by omega) a wd (by omega) (by omega)) (by kernel_rfl) ?_
    rintro _ _ ⟨rfl, rfl⟩
    refine seg 11 [.op [1, 1, 1, 0] 3, .co [1, 1, 1, 1]] [(7, .int .u64 ((getN l a wd : Nat) : Int)), (8, .int .i64 (getE len a wd)), (23, .slice A len cap), (24, .int .i64 a), (25, .int .i64 wd)] (by kernel_rfl) ?_
    have hll4 : (l).length = len := (by first | rfl | omega | (simp; omega))
    refine callR (some 26) 17 #[.slice A len cap, .int .i64 a, .int .i64 wd] Try.call17 (rget_c w A len cap h hll4 (by omega) (by omega) a wd (by omega) (by omega)) (by kernel_rfl) ?_
    rintro _ _ ⟨rfl, rfl⟩
    refine seg 12 [.op [1, 1, 1, 1, 0] 4, .co [1, 1, 1, 1, 1]] [(8, .int .i64 (getE len a wd)), (10, .int .i64 (getE len a wd)), (32, .bool (((getN l a wd : Nat) : Int) == ((getN l a wd : Nat) : Int)))] (by kernel_rfl) ?_
    rw [show (((getN l a wd : Nat) : Int) == ((getN l a wd : Nat) : Int)) = true from by simp]
    refine seg 1 [.op [1, 1, 1, 1, 0] 5, .co [1, 1, 1, 1, 1]] [(10, .int .i64 (getE len a wd)), (32, .bool true), (33, .int .i64 (getE len a wd))] (by kernel_rfl) ?_
    refine callR (some 34) 18 #[.int .i64 (getE len a wd)] Try.call18 (num_c w (getE len a wd)) (by kernel_rfl) ?_
    rintro _ _ ⟨rfl, rfl⟩
    refine seg 4 [.op [1, 1, 1, 1, 0] 10, .co [1, 1, 1, 1, 1]] [(38, .bool ((getE len a wd) == (getE len a wd)))] (by kernel_rfl) ?_
    rw [show ((getE len a wd) == (getE len a wd)) = true from by simp]
    refine callR (some 39) 15 #[] Try.call15 (live_c w) (by kernel_rfl) ?_
    rintro _ w5 ⟨rfl, hx5⟩
    have hz5 := hx5.size
    replace hF := hF.ex hx5
    refine seg 3 [.co [1, 1, 1, 1, 1]] [(6, .bool true)] (by kernel_rfl) ?_
    refine retR [6] [.bool true] (by kernel_rfl) (by kernel_rfl) (by kernel_rfl) ?_
    exact ⟨_, rfl, rfl, hF⟩

end Go.Proofs.Ytgkiegplmohgkaa.F
