/- FieldPuts: the walk. -/
import Derived.Test.YtgkiegplmohgkaaF2
set_option linter.unusedVariables false
set_option linter.unusedSimpArgs false
namespace Go.Proofs.Ytgkiegplmohgkaa.F
open Go Go.RowKit Go.Proofs.Ytgkiegplmohgkaa.K
theorem fieldPuts_c (w : World) (A : Option Addr) (len cap : Nat) {l : List UInt8} (h : Cs 0 w.heap.size w A (bs l)) (hl : l.length = len) (hcap : len ≤ cap) (hmax : cap ≤ maxLen) (n : Nat) (hn : n < 18446744073709551616) (wd : Int) (hb : -9223372036854775808 ≤ wd ∧ wd ≤ 9223372036854775807) :
    Calls Try.prog 4 #[.slice A len cap, .int .u64 (n : Int), .int .i64 wd] w fun e w' => ∃ v, e = .returned v ∧ (v = .bool true ∧ Ex w w') := by
  refine callsR Try.func4 (by kernel_rfl) (by kernel_rfl) ?_
  have hmx : maxLen = 9223372036854775807 := rfl
  have hF : Ex w w := Kp.refl _ _
  refine seg 11 [.co [1, 0, 1], .co [1, 1]] [(0, .slice A len cap), (1, .int .u64 (n : Int)), (2, .int .i64 wd), (12, .bool (decide ((len : Int) > 70000)))] (by kernel_rfl) ?_
  rcases bsplit (decide ((len : Int) > 70000)) with hb1 | hb1
  · rw [hb1]
    have h1 := of_decide_eq_true hb1
    refine seg 3 [.op [1, 0, 1, 0, 0] 0, .co [1, 0, 1, 0, 1], .co [1, 1]] [] (by kernel_rfl) ?_
    refine st (callR (some 13) 15 #[] Try.call15 (live_c w) (by kernel_rfl) ?_)
    rintro _ w2 ⟨rfl, hx2⟩
    have hz2 := hx2.size
    replace hF := hF.ex hx2
    refine seg 2 [.co [1, 0, 1, 0, 1], .co [1, 1]] [(6, .bool true)] (by kernel_rfl) ?_
    refine retR [6] [.bool true] (by kernel_rfl) (by kernel_rfl) (by kernel_rfl) ?_
    exact ⟨_, rfl, rfl, hF⟩
  · rw [hb1]
    have h1 := of_decide_eq_false hb1
    refine seg 7 [.op [1, 1, 0] 3, .co [1, 1, 1]] [(0, .slice A len cap), (1, .int .u64 (n : Int)), (2, .int .i64 wd), (15, .slice A len cap), (16, .int .u64 (n : Int)), (17, .int .i64 wd)] (by kernel_rfl) ?_
    have hll3 : (l).length = len := (by first | rfl | omega | (simp; omega))
    refine st (callR (some 18) 19 #[.slice A len cap, .int .u64 (n : Int), .int .i64 wd] Try.call19 (put_c w A len cap h hll3 (by omega) (by omega) n (by omega) wd (by omega)) (by kernel_rfl) ?_)
    rintro _ w3 ⟨A3, c3, rfl, hx3, hn3⟩
    have hz3 := hx3.size
    have hc3 := own_cap hn3
    replace h := h.ex hx3
    replace hF := hF.ex hx3
    refine seg 14 [.op [1, 1, 1, 1, 0, 0] 1, .co [1, 1, 1, 1, 0, 1], .co [1, 1, 1, 1, 1]] [(0, .slice A len cap), (1, .int .u64 (n : Int)), (2, .int .i64 wd), (7, .slice A3 ((putL l n wd).length) c3), (8, .int .i64 (putE n wd)), (9, .int .i64 0), (21, .int .i64 wd)] (by kernel_rfl) ?_
    have hlt4 := own_lt hn3
    refine st (callR (some 22) 20 #[.int .i64 wd] Try.call20 (rwidth_c w3 wd) (by kernel_rfl) ?_)
    rintro _ _ ⟨rfl, rfl⟩
    refine seg 2 [.co [1, 1, 1, 1, 0, 1], .co [1, 1, 1, 1, 1]] [(0, .slice A len cap), (1, .int .u64 (n : Int)), (2, .int .i64 wd), (7, .slice A3 ((putL l n wd).length) c3), (8, .int .i64 (putE n wd)), (9, .int .i64 0), (23, .bool (!(wideB wd)))] (by kernel_rfl) ?_
    rcases bsplit (wideB wd) with hb5 | hb5
    · rw [hb5]
      have h5 := wide_of hb5
      refine seg 5 [.op [1, 1, 1, 1, 0, 1, 1, 0] 2, .co [1, 1, 1, 1, 0, 1, 1, 1], .co [1, 1, 1, 1, 1]] [(0, .slice A len cap), (1, .int .u64 (n : Int)), (2, .int .i64 wd), (7, .slice A3 ((putL l n wd).length) c3), (8, .int .i64 (putE n wd)), (9, .int .i64 0), (24, .int .u64 (n : Int)), (25, .int .i64 wd)] (by kernel_rfl) ?_
      have hlt6 := own_lt hn3
      refine st (callR (some 26) 21 #[.int .u64 (n : Int), .int .i64 wd] Try.call21 (rfits_c w3 n wd (by omega) (by omega)) (by kernel_rfl) ?_)
      rintro _ _ ⟨rfl, rfl⟩
      refine seg 2 [.co [1, 1, 1, 1, 0, 1, 1, 1], .co [1, 1, 1, 1, 1]] [(0, .slice A len cap), (1, .int .u64 (n : Int)), (2, .int .i64 wd), (7, .slice A3 ((putL l n wd).length) c3), (8, .int .i64 (putE n wd)), (9, .int .i64 0), (27, .bool (!(fitsB n (wd).toNat)))] (by kernel_rfl) ?_
      rcases bsplit (fitsB n (wd).toNat) with hb7 | hb7
      · rw [hb7]
        refine seg 6 [.op [1, 1, 1, 1, 1, 0, 0] 1, .co [1, 1, 1, 1, 1, 0, 1], .co [1, 1, 1, 1, 1, 1]] [(0, .slice A len cap), (1, .int .u64 (n : Int)), (2, .int .i64 wd), (7, .slice A3 ((putL l n wd).length) c3), (9, .int .i64 0), (28, .int .i64 (putE n wd))] (by kernel_rfl) ?_
        have hlt8 := own_lt hn3
        refine st (callR (some 29) 18 #[.int .i64 (putE n wd)] Try.call18 (num_c w3 (putE n wd)) (by kernel_rfl) ?_)
        rintro _ _ ⟨rfl, rfl⟩
        refine seg 3 [.co [1, 1, 1, 1, 1, 0, 1], .co [1, 1, 1, 1, 1, 1]] [(0, .slice A len cap), (1, .int .u64 (n : Int)), (2, .int .i64 wd), (7, .slice A3 ((putL l n wd).length) c3), (9, .int .i64 0), (31, .bool ((putE n wd) != 0))] (by kernel_rfl) ?_
        rw [show ((putE n wd) != 0) = false from by simp [putE, hb1, hb5, hb7]]
        refine seg 11 [.co [1, 1, 1, 1, 1, 1, 1, 0], .co [1, 1, 1, 1, 1, 1, 1, 1]] [(0, .slice A len cap), (1, .int .u64 (n : Int)), (2, .int .i64 wd), (7, .slice A3 ((putL l n wd).length) c3)] (by kernel_rfl) ?_
        refine drawT (fun _ => False) (by kernel_rfl) (by kernel_rfl) ?_
        intro w9 hx9 hz9
        have h_9 := h
        have hn3_9 := hn3
        replace h_9 := h_9.ex hx9
        replace hn3_9 := own_ex hn3_9 hx9
        replace hF := hF.ex hx9
        have hS9 := Kp.refl (fun _ => False) w9
        refine segD [0, 2, 4, 5] [0, 2, 4, 5] [(40, .slice A3 ((putL l n wd).length) c3), (42, .slice A len cap), (44, .int .u64 (n : Int)), (45, .int .i64 wd)] (by kernel_rfl) ?_
        refine takeD (i := 1) (d := (some 41)) (s := vS (convert 22 9 (.slice A3 ((putL l n wd).length) c3))) (v := .string (⟨(putL l n wd).toArray⟩)) (by kernel_rfl) (by kernel_rfl) (fun w' hw' => b2s_run _ _ 5 _ _ _ _ Try.underlying22 Try.underlying5 Try.underlying9 (Cs.kp (Cs.of_own hn3_9) hw' (fun _ e => e.elim)) (by first | rfl | omega | (simp; done) | (simp; omega))) ?_
        refine takeD (i := 3) (d := (some 43)) (s := vS (convert 22 9 (.slice A len cap))) (v := .string (⟨l.toArray⟩)) (by kernel_rfl) (by kernel_rfl) (fun w' hw' => b2s_run _ _ 5 _ _ _ _ Try.underlying22 Try.underlying5 Try.underlying9 (Cs.kp h_9 hw' (fun _ e => e.elim)) (by first | rfl | omega | (simp; done) | (simp; omega))) ?_
        have hlt11 := own_lt hn3_9
        refine stD (i := 6) (by kernel_rfl) hS9 (callR (some 46) 22 #[.int .u64 (n : Int), .int .i64 wd] Try.call22 (rstore_c w9 n (by omega) wd (by omega) (by omega)) (by kernel_rfl) ?_)
        rintro _ w10 ⟨A10, c10, rfl, hx10, hn10⟩
        have hz10 := hx10.size
        have hc10 := own_cap hn10
        have hS9_10 := hS9
        replace hS9_10 := hS9_10.ex hx10
        replace hF := hF.ex hx10
        refine stD (i := 7) (by kernel_rfl) hS9_10 (b2sR (some 47) 22 9 5 A10 ((wd).toNat) c10 (enc ((wd).toNat) n) Try.underlying22 Try.underlying5 Try.underlying9 (by kernel_rfl) (Cs.of_own hn10) (by first | rfl | omega | (simp; done) | (simp; omega)) ?_)
        refine stD (i := 8) (by kernel_rfl) hS9_10 (catR (some 48) 9 l (enc ((wd).toNat) n) (by kernel_rfl) (by first | omega | (simp; omega)) ?_)
        refine segD [9, 10] [0, 2, 4, 5, 1, 3, 6, 7, 8, 9, 10] [(50, .bool (ByteArray.toList (⟨(putL l n wd).toArray⟩) == ByteArray.toList (⟨(l ++ (enc ((wd).toNat) n)).toArray⟩)))] (by kernel_rfl) ?_
        rw [show (ByteArray.toList (⟨(putL l n wd).toArray⟩) == ByteArray.toList (⟨(l ++ (enc ((wd).toNat) n)).toArray⟩)) = true from streq_t (by simp [putL, putE, hb1, hb5, hb7])]
        have hlt13 := own_lt hn10
        refine stD (i := 11) (by kernel_rfl) hS9_10 (callR (some 51) 15 #[] Try.call15 (live_c w10) (by kernel_rfl) ?_)
        rintro _ w12 ⟨rfl, hx12⟩
        have hz12 := hx12.size
        have hS9_12 := hS9_10
        replace hS9_12 := hS9_12.ex hx12
        replace hF := hF.ex hx12
        refine segD [12, 13] [0, 2, 4, 5, 1, 3, 6, 7, 8, 9, 10, 11, 12, 13] [(6, .bool true)] (by kernel_rfl) ?_
        refine endD (by kernel_rfl) hS9_12 ?_
        refine retR [6] [.bool true] (by kernel_rfl) (by kernel_rfl) (by kernel_rfl) ?_
        exact ⟨_, rfl, rfl, hF⟩
      · rw [hb7]
        refine seg 8 [.op [1, 1, 1, 1, 1, 0, 0] 1, .co [1, 1, 1, 1, 1, 0, 1], .co [1, 1, 1, 1, 1, 1]] [(0, .slice A len cap), (1, .int .u64 (n : Int)), (2, .int .i64 wd), (7, .slice A3 ((putL l n wd).length) c3), (9, .int .i64 9), (28, .int .i64 (putE n wd))] (by kernel_rfl) ?_
        have hlt14 := own_lt hn3
        refine st (callR (some 29) 18 #[.int .i64 (putE n wd)] Try.call18 (num_c w3 (putE n wd)) (by kernel_rfl) ?_)
        rintro _ _ ⟨rfl, rfl⟩
        refine seg 3 [.co [1, 1, 1, 1, 1, 0, 1], .co [1, 1, 1, 1, 1, 1]] [(0, .slice A len cap), (1, .int .u64 (n : Int)), (2, .int .i64 wd), (7, .slice A3 ((putL l n wd).length) c3), (9, .int .i64 9), (31, .bool ((putE n wd) != 9))] (by kernel_rfl) ?_
        rw [show ((putE n wd) != 9) = false from by simp [putE, hb1, hb5, hb7]]
        refine seg 15 [.op [1, 1, 1, 1, 1, 1, 0, 1, 0, 0] 4, .co [1, 1, 1, 1, 1, 1, 0, 1, 0, 1], .co [1, 1, 1, 1, 1, 1, 1]] [(37, .bool (((putL l n wd).length : Int) == 0))] (by kernel_rfl) ?_
        rw [show (((putL l n wd).length : Int) == 0) = true from by simp [putL, putE, hb1, hb5, hb7]]
        have hlt16 := own_lt hn3
        refine st (callR (some 38) 15 #[] Try.call15 (live_c w3) (by kernel_rfl) ?_)
        rintro _ w15 ⟨rfl, hx15⟩
        have hz15 := hx15.size
        replace hF := hF.ex hx15
        refine seg 3 [.co [1, 1, 1, 1, 1, 1, 0, 1, 0, 1], .co [1, 1, 1, 1, 1, 1, 1]] [(6, .bool true)] (by kernel_rfl) ?_
        refine retR [6] [.bool true] (by kernel_rfl) (by kernel_rfl) (by kernel_rfl) ?_
        exact ⟨_, rfl, rfl, hF⟩
    · rw [hb5]
      refine seg 8 [.op [1, 1, 1, 1, 1, 0, 0] 1, .co [1, 1, 1, 1, 1, 0, 1], .co [1, 1, 1, 1, 1, 1]] [(0, .slice A len cap), (1, .int .u64 (n : Int)), (2, .int .i64 wd), (7, .slice A3 ((putL l n wd).length) c3), (9, .int .i64 1), (28, .int .i64 (putE n wd))] (by kernel_rfl) ?_
      have hlt17 := own_lt hn3
      refine st (callR (some 29) 18 #[.int .i64 (putE n wd)] Try.call18 (num_c w3 (putE n wd)) (by kernel_rfl) ?_)
      rintro _ _ ⟨rfl, rfl⟩
      refine seg 3 [.co [1, 1, 1, 1, 1, 0, 1], .co [1, 1, 1, 1, 1, 1]] [(0, .slice A len cap), (1, .int .u64 (n : Int)), (2, .int .i64 wd), (7, .slice A3 ((putL l n wd).length) c3), (9, .int .i64 1), (31, .bool ((putE n wd) != 1))] (by kernel_rfl) ?_
      rw [show ((putE n wd) != 1) = false from by simp [putE, hb1, hb5]]
      refine seg 15 [.op [1, 1, 1, 1, 1, 1, 0, 1, 0, 0] 4, .co [1, 1, 1, 1, 1, 1, 0, 1, 0, 1], .co [1, 1, 1, 1, 1, 1, 1]] [(37, .bool (((putL l n wd).length : Int) == 0))] (by kernel_rfl) ?_
      rw [show (((putL l n wd).length : Int) == 0) = true from by simp [putL, putE, hb1, hb5]]
      have hlt19 := own_lt hn3
      refine st (callR (some 38) 15 #[] Try.call15 (live_c w3) (by kernel_rfl) ?_)
      rintro _ w18 ⟨rfl, hx18⟩
      have hz18 := hx18.size
      replace hF := hF.ex hx18
      refine seg 3 [.co [1, 1, 1, 1, 1, 1, 0, 1, 0, 1], .co [1, 1, 1, 1, 1, 1, 1]] [(6, .bool true)] (by kernel_rfl) ?_
      refine retR [6] [.bool true] (by kernel_rfl) (by kernel_rfl) (by kernel_rfl) ?_
      exact ⟨_, rfl, rfl, hF⟩

end Go.Proofs.Ytgkiegplmohgkaa.F
