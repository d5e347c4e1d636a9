/- FieldSets: the walk. -/
import Derived.Test.YtgkiegplmohgkaaF2
set_option linter.unusedVariables false
set_option linter.unusedSimpArgs false
namespace Go.Proofs.Ytgkiegplmohgkaa.F
open Go Go.RowKit Go.Proofs.Ytgkiegplmohgkaa.K
theorem fieldSets_c (w : World) (A : Option Addr) (len cap : Nat) {l : List UInt8} (h : Cs 0 w.heap.size w A (bs l)) (hl : l.length = len) (hcap : len ≤ cap) (hmax : cap ≤ maxLen) (a : Int) (ha : -9223372036854775808 ≤ a ∧ a ≤ 9223372036854775807) (n : Nat) (hn : n < 18446744073709551616) (wd : Int) (hb : -9223372036854775808 ≤ wd ∧ wd ≤ 9223372036854775807) :
    Calls Try.prog 6 #[.slice A len cap, .int .i64 a, .int .u64 (n : Int), .int .i64 wd] w fun e w' => ∃ v, e = .returned v ∧ (v = .bool true ∧ Ex w w') := by
  refine callsR Try.func6 (by kernel_rfl) (by kernel_rfl) ?_
  have hmx : maxLen = 9223372036854775807 := rfl
  have hF : Ex w w := Kp.refl _ _
  refine seg 11 [.co [1, 0, 1], .co [1, 1]] [(0, .slice A len cap), (1, .int .i64 a), (2, .int .u64 (n : Int)), (3, .int .i64 wd), (17, .bool (decide ((len : Int) > 70000)))] (by kernel_rfl) ?_
  rcases bsplit (decide ((len : Int) > 70000)) with hb1 | hb1
  · rw [hb1]
    have h1 := of_decide_eq_true hb1
    refine seg 3 [.op [1, 0, 1, 0, 0] 0, .co [1, 0, 1, 0, 1], .co [1, 1]] [] (by kernel_rfl) ?_
    refine st (callR (some 18) 15 #[] Try.call15 (live_c w) (by kernel_rfl) ?_)
    rintro _ w2 ⟨rfl, hx2⟩
    have hz2 := hx2.size
    replace hF := hF.ex hx2
    refine seg 2 [.co [1, 0, 1, 0, 1], .co [1, 1]] [(8, .bool true)] (by kernel_rfl) ?_
    refine retR [8] [.bool true] (by kernel_rfl) (by kernel_rfl) (by kernel_rfl) ?_
    exact ⟨_, rfl, rfl, hF⟩
  · rw [hb1]
    have h1 := of_decide_eq_false hb1
    refine seg 8 [.op [1, 1, 0] 4, .co [1, 1, 1]] [(0, .slice A len cap), (1, .int .i64 a), (2, .int .u64 (n : Int)), (3, .int .i64 wd), (20, .slice A len cap), (21, .int .i64 a), (22, .int .u64 (n : Int)), (23, .int .i64 wd)] (by kernel_rfl) ?_
    have hll3 : (l).length = len := (by first | rfl | omega | (simp; omega))
    refine st (callR (some 24) 23 #[.slice A len cap, .int .i64 a, .int .u64 (n : Int), .int .i64 wd] Try.call23 (set_c w A len cap h hll3 (by omega) (by omega) a n (by omega) wd (by omega) (by omega)) (by kernel_rfl) ?_)
    rintro _ w3 ⟨A3, c3, rfl, hx3, hn3⟩
    have hz3 := hx3.size
    have hc3 := own_cap hn3
    replace h := h.ex hx3
    replace hF := hF.ex hx3
    refine seg 12 [.op [1, 1, 1, 0] 4, .co [1, 1, 1, 1]] [(0, .slice A len cap), (1, .int .i64 a), (3, .int .i64 wd), (9, .slice A3 ((setL l a n wd).length) c3), (10, .int .i64 (setE len a n wd)), (28, .slice A len cap), (29, .int .i64 a), (30, .int .u64 (n : Int)), (31, .int .i64 wd)] (by kernel_rfl) ?_
    have hll4 : (l).length = len := (by first | rfl | omega | (simp; omega))
    have hlt5 := own_lt hn3
    refine st (callR (some 32) 24 #[.slice A len cap, .int .i64 a, .int .u64 (n : Int), .int .i64 wd] Try.call24 (rset_c w3 A len cap h hll4 (by omega) (by omega) a n (by omega) wd (by omega) (by omega)) (by kernel_rfl) ?_)
    rintro _ w4 ⟨A4, c4, rfl, hx4, hn4⟩
    have hz4 := hx4.size
    have hc4 := own_cap hn4
    replace h := h.ex hx4
    replace hn3 := own_ex hn3 hx4
    replace hF := hF.ex hx4
    refine seg 11 [.op [1, 1, 1, 1, 0] 3, .co [1, 1, 1, 1, 1]] [(0, .slice A len cap), (1, .int .i64 a), (3, .int .i64 wd), (9, .slice A3 ((setL l a n wd).length) c3), (10, .int .i64 (setE len a n wd)), (11, .slice A4 ((setL l a n wd).length) c4), (12, .int .i64 (setE len a n wd)), (36, .slice A len cap), (37, .int .i64 a), (38, .int .i64 wd)] (by kernel_rfl) ?_
    have hll6 : (l).length = len := (by first | rfl | omega | (simp; omega))
    have hlt7 := own_lt hn3
    have hlt8 := own_lt hn4
    refine st (callR (some 39) 25 #[.slice A len cap, .int .i64 a, .int .i64 wd] Try.call25 (part_c w4 A len cap h hll6 (by omega) (by omega) a wd (by omega) (by omega)) (by kernel_rfl) ?_)
    rintro _ w6 ⟨A6, c6, rfl, hx6, hn6⟩
    have hz6 := hx6.size
    have hc6 := own_cap hn6
    replace h := h.ex hx6
    replace hn3 := own_ex hn3 hx6
    replace hn4 := own_ex hn4 hx6
    replace hF := hF.ex hx6
    refine seg 10 [.op [1, 1, 1, 1, 1, 0, 0] 1, .co [1, 1, 1, 1, 1, 0, 1], .co [1, 1, 1, 1, 1, 1]] [(0, .slice A len cap), (1, .int .i64 a), (3, .int .i64 wd), (10, .int .i64 (setE len a n wd)), (11, .slice A4 ((setL l a n wd).length) c4), (12, .int .i64 (setE len a n wd)), (13, .slice A6 ((partL l a wd).length) c6), (14, .int .i64 (partE len a wd)), (42, .slice A3 ((setL l a n wd).length) c3)] (by kernel_rfl) ?_
    refine st (b2sR (some 43) 22 9 5 A3 ((setL l a n wd).length) c3 (setL l a n wd) Try.underlying22 Try.underlying5 Try.underlying9 (by kernel_rfl) (Cs.of_own hn3) (by first | rfl | omega | (simp; done) | (simp; omega)) ?_)
    refine seg 1 [.op [1, 1, 1, 1, 1, 0, 0] 3, .co [1, 1, 1, 1, 1, 0, 1], .co [1, 1, 1, 1, 1, 1]] [(0, .slice A len cap), (1, .int .i64 a), (3, .int .i64 wd), (10, .int .i64 (setE len a n wd)), (12, .int .i64 (setE len a n wd)), (13, .slice A6 ((partL l a wd).length) c6), (14, .int .i64 (partE len a wd)), (43, .string (⟨(setL l a n wd).toArray⟩)), (44, .slice A4 ((setL l a n wd).length) c4)] (by kernel_rfl) ?_
    refine st (b2sR (some 45) 22 9 5 A4 ((setL l a n wd).length) c4 (setL l a n wd) Try.underlying22 Try.underlying5 Try.underlying9 (by kernel_rfl) (Cs.of_own hn4) (by first | rfl | omega | (simp; done) | (simp; omega)) ?_)
    refine seg 2 [.op [1, 1, 1, 1, 1, 0, 0] 6, .co [1, 1, 1, 1, 1, 0, 1], .co [1, 1, 1, 1, 1, 1]] [(0, .slice A len cap), (1, .int .i64 a), (3, .int .i64 wd), (10, .int .i64 (setE len a n wd)), (12, .int .i64 (setE len a n wd)), (13, .slice A6 ((partL l a wd).length) c6), (14, .int .i64 (partE len a wd)), (47, .bool (!(ByteArray.toList (⟨(setL l a n wd).toArray⟩) == ByteArray.toList (⟨(setL l a n wd).toArray⟩))))] (by kernel_rfl) ?_
    rw [show (ByteArray.toList (⟨(setL l a n wd).toArray⟩) == ByteArray.toList (⟨(setL l a n wd).toArray⟩)) = true from streq_t rfl]
    refine seg 1 [.op [1, 1, 1, 1, 1, 0, 0] 7, .co [1, 1, 1, 1, 1, 0, 1], .co [1, 1, 1, 1, 1, 1]] [(0, .slice A len cap), (1, .int .i64 a), (3, .int .i64 wd), (12, .int .i64 (setE len a n wd)), (13, .slice A6 ((partL l a wd).length) c6), (14, .int .i64 (partE len a wd)), (47, .bool false), (48, .int .i64 (setE len a n wd))] (by kernel_rfl) ?_
    have hlt9 := own_lt hn3
    have hlt10 := own_lt hn4
    have hlt11 := own_lt hn6
    refine st (callR (some 49) 18 #[.int .i64 (setE len a n wd)] Try.call18 (num_c w6 (setE len a n wd)) (by kernel_rfl) ?_)
    rintro _ _ ⟨rfl, rfl⟩
    refine seg 4 [.co [1, 1, 1, 1, 1, 0, 1], .co [1, 1, 1, 1, 1, 1]] [(0, .slice A len cap), (1, .int .i64 a), (3, .int .i64 wd), (13, .slice A6 ((partL l a wd).length) c6), (14, .int .i64 (partE len a wd)), (52, .bool ((setE len a n wd) != (setE len a n wd)))] (by kernel_rfl) ?_
    rw [show ((setE len a n wd) != (setE len a n wd)) = false from by simp]
    refine seg 8 [.op [1, 1, 1, 1, 1, 1, 0, 0] 3, .co [1, 1, 1, 1, 1, 1, 0, 1], .co [1, 1, 1, 1, 1, 1, 1]] [(0, .slice A len cap), (1, .int .i64 a), (3, .int .i64 wd), (13, .slice A6 ((partL l a wd).length) c6), (14, .int .i64 (partE len a wd)), (53, .slice A len cap), (54, .int .i64 a), (55, .int .i64 wd)] (by kernel_rfl) ?_
    have hlt12 := own_lt hn3
    have hlt13 := own_lt hn4
    have hlt14 := own_lt hn6
    refine st (callR (some 56) 26 #[.slice A len cap, .int .i64 a, .int .i64 wd] Try.call26 (rin_c w6 A len cap a wd (by omega) (by omega) (by omega)) (by kernel_rfl) ?_)
    rintro _ _ ⟨rfl, rfl⟩
    refine seg 2 [.co [1, 1, 1, 1, 1, 1, 0, 1], .co [1, 1, 1, 1, 1, 1, 1]] [(0, .slice A len cap), (1, .int .i64 a), (3, .int .i64 wd), (13, .slice A6 ((partL l a wd).length) c6), (14, .int .i64 (partE len a wd)), (57, .bool (!(withinB len a wd)))] (by kernel_rfl) ?_
    rcases bsplit (withinB len a wd) with hb15 | hb15
    · rw [hb15]
      have h15 := within_of hb15
      refine seg 3 [.co [1, 1, 1, 1, 1, 1, 1, 0], .co [1, 1, 1, 1, 1, 1, 1, 1]] [(0, .slice A len cap), (1, .int .i64 a), (3, .int .i64 wd), (13, .slice A6 ((partL l a wd).length) c6), (14, .int .i64 (partE len a wd))] (by kernel_rfl) ?_
      refine drawT (fun _ => False) (by kernel_rfl) (by kernel_rfl) ?_
      intro w16 hx16 hz16
      have h_16 := h
      have hn6_16 := hn6
      replace h_16 := h_16.ex hx16
      replace hn6_16 := own_ex hn6_16 hx16
      replace hF := hF.ex hx16
      have hS16 := Kp.refl (fun _ => False) w16
      refine segD [0] [0] [(0, .slice A len cap), (1, .int .i64 a), (3, .int .i64 wd), (13, .slice A6 ((partL l a wd).length) c6), (69, .int .i64 (partE len a wd))] (by kernel_rfl) ?_
      have hlt17 := own_lt hn6_16
      refine stD (i := 1) (by kernel_rfl) hS16 (callR (some 70) 18 #[.int .i64 (partE len a wd)] Try.call18 (num_c w16 (partE len a wd)) (by kernel_rfl) ?_)
      rintro _ _ ⟨rfl, rfl⟩
      refine segD [2, 3] [0, 1, 2, 3] [(0, .slice A len cap), (1, .int .i64 a), (3, .int .i64 wd), (13, .slice A6 ((partL l a wd).length) c6), (72, .bool ((partE len a wd) == 0))] (by kernel_rfl) ?_
      rw [show ((partE len a wd) == 0) = true from by simp [partE, hb1, hb15]]
      refine segD [4, 6, 7, 8, 9, 10] [0, 1, 2, 3, 4, 6, 7, 8, 9, 10] [(72, .bool true), (73, .slice A6 ((partL l a wd).length) c6), (75, .slice A len cap), (76, .int .i64 a), (79, .int .i64 (IntKind.i64.wrap (a + wd)))] (by kernel_rfl) ?_
      rw [show IntKind.i64.wrap (a + wd) = (a + wd) from w64 (by omega)]
      refine takeD (i := 5) (d := (some 74)) (s := vS (convert 22 9 (.slice A6 ((partL l a wd).length) c6))) (v := .string (⟨(partL l a wd).toArray⟩)) (by kernel_rfl) (by kernel_rfl) (fun w' hw' => b2s_run _ _ 5 _ _ _ _ Try.underlying22 Try.underlying5 Try.underlying9 (Cs.kp (Cs.of_own hn6_16) hw' (fun _ e => e.elim)) (by first | rfl | omega | (simp; done) | (simp; omega))) ?_
      refine stD (i := 11) (by kernel_rfl) hS16 (sliR (some 80) 22 5 1 A len cap (some (.int .i64 a)) (some (.int .i64 (a + wd))) ((a).toNat) (((a + wd)).toNat) (by kernel_rfl) (by kernel_rfl) (.inr ⟨_, _, rfl, by omega⟩) (.inr ⟨_, _, rfl, by omega⟩) (by omega) (by omega) ?_)
      intro A18 hA18 hB18 hC18
      have hs18 := (hA18 _ _ _ _ h_16 (by rw [bs_length]; omega)).take (((a + wd)).toNat - (a).toNat)
      rw [show ((a).toNat) * 1 = (a).toNat from by omega, ← bs_drop, ← bs_take] at hs18
      refine stD (i := 12) (by kernel_rfl) hS16 (b2sR (some 81) 22 9 5 A18 (((a + wd)).toNat - (a).toNat) (cap - (a).toNat) ((l.drop ((a).toNat)).take (((a + wd)).toNat - (a).toNat)) Try.underlying22 Try.underlying5 Try.underlying9 (by kernel_rfl) hs18 (by first | rfl | omega | (simp; done) | (simp; omega)) ?_)
      refine segD [13, 14, 15] [0, 1, 2, 3, 4, 6, 7, 8, 9, 10, 5, 11, 12, 13, 14, 15] [(84, .bool (ByteArray.toList (⟨(partL l a wd).toArray⟩) == ByteArray.toList (⟨((l.drop ((a).toNat)).take (((a + wd)).toNat - (a).toNat)).toArray⟩)))] (by kernel_rfl) ?_
      rw [show (ByteArray.toList (⟨(partL l a wd).toArray⟩) == ByteArray.toList (⟨((l.drop ((a).toNat)).take (((a + wd)).toNat - (a).toNat)).toArray⟩)) = true from streq_t (by simp [partL, hl, hb1, hb15]; first | rfl | (congr 1; omega))]
      have hlt20 := own_lt hn6_16
      refine stD (i := 16) (by kernel_rfl) hS16 (callR (some 85) 15 #[] Try.call15 (live_c w16) (by kernel_rfl) ?_)
      rintro _ w19 ⟨rfl, hx19⟩
      have hz19 := hx19.size
      have hS16_19 := hS16
      replace hS16_19 := hS16_19.ex hx19
      replace hF := hF.ex hx19
      refine segD [17, 18] [0, 1, 2, 3, 4, 6, 7, 8, 9, 10, 5, 11, 12, 13, 14, 15, 16, 17, 18] [(8, .bool true)] (by kernel_rfl) ?_
      refine endD (by kernel_rfl) hS16_19 ?_
      refine retR [8] [.bool true] (by kernel_rfl) (by kernel_rfl) (by kernel_rfl) ?_
      exact ⟨_, rfl, rfl, hF⟩
    · rw [hb15]
      refine seg 4 [.op [1, 1, 1, 1, 1, 1, 0, 1, 0, 0] 1, .co [1, 1, 1, 1, 1, 1, 0, 1, 0, 1], .co [1, 1, 1, 1, 1, 1, 1]] [(13, .slice A6 ((partL l a wd).length) c6), (58, .int .i64 (partE len a wd))] (by kernel_rfl) ?_
      have hlt21 := own_lt hn3
      have hlt22 := own_lt hn4
      have hlt23 := own_lt hn6
      refine st (callR (some 59) 18 #[.int .i64 (partE len a wd)] Try.call18 (num_c w6 (partE len a wd)) (by kernel_rfl) ?_)
      rintro _ _ ⟨rfl, rfl⟩
      refine seg 2 [.op [1, 1, 1, 1, 1, 1, 0, 1, 0, 0] 4, .co [1, 1, 1, 1, 1, 1, 0, 1, 0, 1], .co [1, 1, 1, 1, 1, 1, 1]] [(13, .slice A6 ((partL l a wd).length) c6), (61, .bool ((partE len a wd) == 9))] (by kernel_rfl) ?_
      rw [show ((partE len a wd) == 9) = true from by simp [partE, hb1, hb15]]
      refine seg 5 [.op [1, 1, 1, 1, 1, 1, 0, 1, 0, 0] 9, .co [1, 1, 1, 1, 1, 1, 0, 1, 0, 1], .co [1, 1, 1, 1, 1, 1, 1]] [(66, .bool (((partL l a wd).length : Int) == 0))] (by kernel_rfl) ?_
      rw [show (((partL l a wd).length : Int) == 0) = true from by simp [partL, hl, hb1, hb15]]
      have hlt25 := own_lt hn3
      have hlt26 := own_lt hn4
      have hlt27 := own_lt hn6
      refine st (callR (some 67) 15 #[] Try.call15 (live_c w6) (by kernel_rfl) ?_)
      rintro _ w24 ⟨rfl, hx24⟩
      have hz24 := hx24.size
      replace hF := hF.ex hx24
      refine seg 3 [.co [1, 1, 1, 1, 1, 1, 0, 1, 0, 1], .co [1, 1, 1, 1, 1, 1, 1]] [(8, .bool true)] (by kernel_rfl) ?_
      refine retR [8] [.bool true] (by kernel_rfl) (by kernel_rfl) (by kernel_rfl) ?_
      exact ⟨_, rfl, rfl, hF⟩

end Go.Proofs.Ytgkiegplmohgkaa.F
