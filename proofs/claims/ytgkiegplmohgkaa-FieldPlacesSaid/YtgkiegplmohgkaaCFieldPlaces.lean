/- FieldPlaces: the walk. -/
import Derived.Test.YtgkiegplmohgkaaF2
set_option linter.unusedVariables false
set_option linter.unusedSimpArgs false
namespace Go.Proofs.Ytgkiegplmohgkaa.F
open Go Go.RowKit Go.Proofs.Ytgkiegplmohgkaa.K
theorem fieldPlaces_c (w : World) (A : Option Addr) (len cap : Nat) {l : List UInt8} (h : Cs 0 w.heap.size w A (bs l)) (hl : l.length = len) (hcap : len ≤ cap) (hmax : cap ≤ maxLen) (a : Int) (ha : -9223372036854775808 ≤ a ∧ a ≤ 9223372036854775807) (n : Nat) (hn : n < 18446744073709551616) (wd : Int) (hb : -9223372036854775808 ≤ wd ∧ wd ≤ 9223372036854775807) :
    Calls Try.prog 5 #[.slice A len cap, .int .i64 a, .int .u64 (n : Int), .int .i64 wd] w fun e w' => ∃ v, e = .returned v ∧ (v = .bool true ∧ Ex w w') := by
  refine callsR Try.func5 (by kernel_rfl) (by kernel_rfl) ?_
  have hmx : maxLen = 9223372036854775807 := rfl
  have hF : Ex w w := Kp.refl _ _
  refine seg 11 [.co [1, 0, 1], .co [1, 1]] [(0, .slice A len cap), (1, .int .i64 a), (2, .int .u64 (n : Int)), (3, .int .i64 wd), (17, .bool (decide ((len : Int) > 3000)))] (by kernel_rfl) ?_
  rcases bsplit (decide ((len : Int) > 3000)) with hb1 | hb1
  · rw [hb1]
    have h1 := of_decide_eq_true hb1
    refine seg 3 [.op [1, 0, 1, 0, 0] 0, .co [1, 0, 1, 0, 1], .co [1, 1]] [] (by kernel_rfl) ?_
    refine st (callR (some 18) 15 #[] Try.call15 (live_c w) (by kernel_rfl) ?_)
    rintro _ w2 ⟨rfl, hx2⟩
    have hz2 := hx2.size
    replace hF := hF.ex hx2
    refine seg 2 [.co [1, 0, 1, 0, 1], .co [1, 1]] [(8, .bool true)] (by kernel_rfl) ?_
    refine retR [8] [.bool true] (by kernel_rfl) (by kernel_rfl) (by kernel_rfl) ?_
    exact ⟨_, rfl, rfl, hF⟩
  · rw [hb1]
    have h1 := of_decide_eq_false hb1
    refine seg 4 [.op [1, 1, 0] 0, .co [1, 1, 1]] [(0, .slice A len cap), (1, .int .i64 a), (2, .int .u64 (n : Int)), (3, .int .i64 wd)] (by kernel_rfl) ?_
    refine st (newR (some 19) (fun g => .slice (some ⟨g, 0, none⟩) 0 0) (.cells #[] 5) (by kernel_rfl) ?_)
    intro g3 w3 hgs3 hx3 hg3 hz3
    replace h := h.ex hx3
    replace hF := hF.ex hx3
    refine seg 1 [.op [1, 1, 0] 2, .co [1, 1, 1]] [(0, .slice A len cap), (1, .int .i64 a), (2, .int .u64 (n : Int)), (3, .int .i64 wd), (19, .slice (some ⟨g3, 0, none⟩) 0 0), (20, .slice A len cap)] (by kernel_rfl) ?_
    have ho4 := own_of_blk (base := w.heap.size) (n := 0) (sz := 1) hg3 (by omega) (by simp [maxLen]) (by simp)
    refine st (appR (some 21) 22 5 1 1 (.int .u8 0) 22 w.heap.size (some ⟨g3, 0, none⟩) A 0 0 len cap ([]) (bs l) ⟨Try.underlying22, by kernel_rfl⟩ rfl (by decide) (by kernel_rfl) ho4 h (by first | (rw [bs_length]; omega) | (simp [bs_length]; omega)) (bs_one _) (by omega) (by decide) (by omega) ?_)
    intro A5 c5 w5 hn5 hx5 hb5 hc5 hz5
    replace h := h.kp hx5 (fun k hk => by first | exact .inr (by have := own_ge ho4 hk; omega))
    replace hF := hF.step hx5 (fun k hk hlt => absurd (own_ge ho4 hk) (by omega))
    rw [List.nil_append] at hn5
    rw [Nat.zero_add] at hn5 hc5 ⊢
    refine seg 8 [.op [1, 1, 1, 0] 4, .co [1, 1, 1, 1]] [(0, .slice A len cap), (1, .int .i64 a), (2, .int .u64 (n : Int)), (3, .int .i64 wd), (9, .slice A5 len c5), (23, .slice A5 len c5), (24, .int .i64 a), (25, .int .u64 (n : Int)), (26, .int .i64 wd)] (by kernel_rfl) ?_
    have hll6 : (l).length = len := (by first | rfl | omega | (simp; omega))
    have hlt7 := own_lt hn5
    refine st (callR (some 27) 23 #[.slice A5 len c5, .int .i64 a, .int .u64 (n : Int), .int .i64 wd] Try.call23 (set_c w5 A5 len c5 (Cs.of_own hn5) hll6 (by omega) (by omega) a n (by omega) wd (by omega) (by omega)) (by kernel_rfl) ?_)
    rintro _ w6 ⟨A6, c6, rfl, hx6, hn6⟩
    have hz6 := hx6.size
    have hc6 := own_cap hn6
    replace h := h.ex hx6
    replace hn5 := own_ex hn5 hx6
    replace hF := hF.ex hx6
    refine seg 10 [.op [1, 1, 1, 1, 0, 0] 1, .co [1, 1, 1, 1, 0, 1], .co [1, 1, 1, 1, 1]] [(0, .slice A len cap), (1, .int .i64 a), (2, .int .u64 (n : Int)), (3, .int .i64 wd), (9, .slice A5 len c5), (10, .slice A6 ((setL l a n wd).length) c6), (11, .int .i64 (setE len a n wd)), (30, .slice A5 len c5)] (by kernel_rfl) ?_
    refine st (b2sR (some 31) 22 9 5 A5 len c5 l Try.underlying22 Try.underlying5 Try.underlying9 (by kernel_rfl) (Cs.of_own hn5) (by first | rfl | omega | (simp; done) | (simp; omega)) ?_)
    refine seg 1 [.op [1, 1, 1, 1, 0, 0] 3, .co [1, 1, 1, 1, 0, 1], .co [1, 1, 1, 1, 1]] [(0, .slice A len cap), (1, .int .i64 a), (2, .int .u64 (n : Int)), (3, .int .i64 wd), (9, .slice A5 len c5), (10, .slice A6 ((setL l a n wd).length) c6), (11, .int .i64 (setE len a n wd)), (31, .string (⟨l.toArray⟩)), (32, .slice A len cap)] (by kernel_rfl) ?_
    refine st (b2sR (some 33) 22 9 5 A len cap l Try.underlying22 Try.underlying5 Try.underlying9 (by kernel_rfl) h (by first | rfl | omega | (simp; done) | (simp; omega)) ?_)
    refine seg 2 [.co [1, 1, 1, 1, 0, 1], .co [1, 1, 1, 1, 1]] [(0, .slice A len cap), (1, .int .i64 a), (2, .int .u64 (n : Int)), (3, .int .i64 wd), (9, .slice A5 len c5), (10, .slice A6 ((setL l a n wd).length) c6), (11, .int .i64 (setE len a n wd)), (34, .bool (!(ByteArray.toList (⟨l.toArray⟩) == ByteArray.toList (⟨l.toArray⟩))))] (by kernel_rfl) ?_
    rw [show (ByteArray.toList (⟨l.toArray⟩) == ByteArray.toList (⟨l.toArray⟩)) = true from streq_t rfl]
    refine seg 6 [.op [1, 1, 1, 1, 1, 0, 0] 1, .co [1, 1, 1, 1, 1, 0, 1], .co [1, 1, 1, 1, 1, 1]] [(0, .slice A len cap), (1, .int .i64 a), (2, .int .u64 (n : Int)), (3, .int .i64 wd), (9, .slice A5 len c5), (10, .slice A6 ((setL l a n wd).length) c6), (35, .int .i64 (setE len a n wd))] (by kernel_rfl) ?_
    have hlt8 := own_lt hn5
    have hlt9 := own_lt hn6
    refine st (callR (some 36) 18 #[.int .i64 (setE len a n wd)] Try.call18 (num_c w6 (setE len a n wd)) (by kernel_rfl) ?_)
    rintro _ _ ⟨rfl, rfl⟩
    refine seg 2 [.co [1, 1, 1, 1, 1, 0, 1], .co [1, 1, 1, 1, 1, 1]] [(0, .slice A len cap), (1, .int .i64 a), (2, .int .u64 (n : Int)), (3, .int .i64 wd), (9, .slice A5 len c5), (10, .slice A6 ((setL l a n wd).length) c6), (37, .bool ((setE len a n wd) != 0))] (by kernel_rfl) ?_
    rcases bsplit ((setE len a n wd) != 0) with hb10 | hb10
    · rw [hb10]
      have h10 : (setE len a n wd) ≠ 0 := by simpa using hb10
      refine seg 7 [.op [1, 1, 1, 1, 1, 0, 1, 0, 0] 4, .co [1, 1, 1, 1, 1, 0, 1, 0, 1], .co [1, 1, 1, 1, 1, 1]] [(41, .bool (((setL l a n wd).length : Int) == 0))] (by kernel_rfl) ?_
      rw [show (((setL l a n wd).length : Int) == 0) = true from by simp [setL_no (l := l) (by rw [hl]; assumption)]]
      have hlt12 := own_lt hn5
      have hlt13 := own_lt hn6
      refine st (callR (some 42) 15 #[] Try.call15 (live_c w6) (by kernel_rfl) ?_)
      rintro _ w11 ⟨rfl, hx11⟩
      have hz11 := hx11.size
      replace hF := hF.ex hx11
      refine seg 3 [.co [1, 1, 1, 1, 1, 0, 1, 0, 1], .co [1, 1, 1, 1, 1, 1]] [(8, .bool true)] (by kernel_rfl) ?_
      refine retR [8] [.bool true] (by kernel_rfl) (by kernel_rfl) (by kernel_rfl) ?_
      exact ⟨_, rfl, rfl, hF⟩
    · rw [hb10]
      have h10 : (setE len a n wd) = 0 := by simpa using hb10
      have hs0 : setE l.length a n wd = 0 := by rw [hl]; exact h10
      obtain ⟨hs1, hs2, hs3⟩ := setE_zero hs0
      rw [hl] at hs2
      have hs4 := within_of hs2
      have hs5 := setL_len hs0
      refine seg 7 [.op [1, 1, 1, 1, 1, 1, 0] 3, .co [1, 1, 1, 1, 1, 1, 1]] [(0, .slice A len cap), (1, .int .i64 a), (2, .int .u64 (n : Int)), (3, .int .i64 wd), (9, .slice A5 len c5), (10, .slice A6 ((setL l a n wd).length) c6), (45, .slice A6 ((setL l a n wd).length) c6), (46, .int .i64 a), (47, .int .i64 wd)] (by kernel_rfl) ?_
      have hll14 : ((setL l a n wd)).length = (setL l a n wd).length := (by first | rfl | omega | (simp; omega))
      have hlt15 := own_lt hn5
      have hlt16 := own_lt hn6
      refine st (callR (some 48) 16 #[.slice A6 ((setL l a n wd).length) c6, .int .i64 a, .int .i64 wd] Try.call16 (get_c w6 A6 ((setL l a n wd).length) c6 (Cs.of_own hn6) hll14 (by omega) (by omega) a wd (by omega) (by omega)) (by kernel_rfl) ?_)
      rintro _ _ ⟨rfl, rfl⟩
      refine seg 10 [.op [1, 1, 1, 1, 1, 1, 1, 0, 0] 1, .co [1, 1, 1, 1, 1, 1, 1, 0, 1], .co [1, 1, 1, 1, 1, 1, 1, 1]] [(0, .slice A len cap), (1, .int .i64 a), (2, .int .u64 (n : Int)), (3, .int .i64 wd), (9, .slice A5 len c5), (10, .slice A6 ((setL l a n wd).length) c6), (12, .int .u64 ((getN (setL l a n wd) a wd : Nat) : Int)), (51, .int .i64 (getE ((setL l a n wd).length) a wd))] (by kernel_rfl) ?_
      have hlt17 := own_lt hn5
      have hlt18 := own_lt hn6
      refine st (callR (some 52) 18 #[.int .i64 (getE ((setL l a n wd).length) a wd)] Try.call18 (num_c w6 (getE ((setL l a n wd).length) a wd)) (by kernel_rfl) ?_)
      rintro _ _ ⟨rfl, rfl⟩
      refine seg 2 [.op [1, 1, 1, 1, 1, 1, 1, 0, 0] 4, .co [1, 1, 1, 1, 1, 1, 1, 0, 1], .co [1, 1, 1, 1, 1, 1, 1, 1]] [(0, .slice A len cap), (1, .int .i64 a), (2, .int .u64 (n : Int)), (3, .int .i64 wd), (9, .slice A5 len c5), (10, .slice A6 ((setL l a n wd).length) c6), (12, .int .u64 ((getN (setL l a n wd) a wd : Nat) : Int)), (54, .bool ((getE ((setL l a n wd).length) a wd) != 0))] (by kernel_rfl) ?_
      rw [show ((getE ((setL l a n wd).length) a wd) != 0) = false from by simp [getE, setL_len hs0, hl, hs1, hs2]]
      refine seg 5 [.op [1, 1, 1, 1, 1, 1, 1, 0, 0] 9, .co [1, 1, 1, 1, 1, 1, 1, 0, 1], .co [1, 1, 1, 1, 1, 1, 1, 1]] [(0, .slice A len cap), (1, .int .i64 a), (3, .int .i64 wd), (9, .slice A5 len c5), (10, .slice A6 ((setL l a n wd).length) c6), (59, .bool (((getN (setL l a n wd) a wd : Nat) : Int) != (n : Int)))] (by kernel_rfl) ?_
      rw [show (((getN (setL l a n wd) a wd : Nat) : Int) != (n : Int)) = false from by simp [setL_get hs0]]
      refine seg 7 [.co [1, 1, 1, 1, 1, 1, 1, 0, 1], .co [1, 1, 1, 1, 1, 1, 1, 1]] [(0, .slice A len cap), (1, .int .i64 a), (3, .int .i64 wd), (9, .slice A5 len c5), (10, .slice A6 ((setL l a n wd).length) c6), (65, .bool (((setL l a n wd).length : Int) != (len : Int)))] (by kernel_rfl) ?_
      rw [show (((setL l a n wd).length : Int) != (len : Int)) = false from by simp [setL_len hs0, hl]]
      refine seg 8 [.co [1, 1, 1, 1, 1, 1, 1, 1, 0, 1, 0], .bl 0, .co [1, 1, 1, 1, 1, 1, 1, 1, 1]] [(0, .slice A len cap), (1, .int .i64 a), (3, .int .i64 wd), (9, .slice A5 len c5), (10, .slice A6 ((setL l a n wd).length) c6), (14, .int .i64 0)] (by kernel_rfl) ?_
      have hlt19 := own_lt hn5
      have hlt20 := own_lt hn6
      refine loopR 0 (fun (x : Nat × List UInt8) => [(0, .slice A len cap), (1, .int .i64 a), (3, .int .i64 wd), (9, .slice A5 len c5), (10, .slice A6 ((setL l a n wd).length) c6), (14, .int .i64 (x.1 : Int))]) (fun (x : Nat × List UInt8) (w9 : World) => x.1 ≤ len ∧ x.2.length = len ∧ (∀ j, x.1 ≤ j → x.2.getD j 0 = (setL l a n wd).getD j 0) ∧ w9.ownsRow w5.heap.size 5 1 (.slice A6 ((setL l a n wd).length) c6) ((setL l a n wd).length) (bs x.2) ∧ Ex w w9 ∧ Cs 0 w.heap.size w9 A (bs l) ∧ w9.ownsRow w.heap.size 5 1 (.slice A5 len c5) len (bs l)) (fun (x : Nat × List UInt8) => len - x.1) (0, setL l a n wd) (by kernel_rfl) (by kernel_rfl) (by kernel_rfl) ?_ ?_
      · exact ⟨Nat.zero_le _, by simp only [hs5, hl], fun _ _ => rfl, hn6, hF, h, hn5⟩
      rintro ⟨i, m⟩ w9 ⟨hI1, hI2, hI3, hn9, hF, h, hc9⟩
      simp only [] at hI1 hI2 hI3 hn9
      have hsz := hF.size
      refine seg 8 [.co [1, 1, 1, 1, 1, 1, 1, 1, 0, 1, 0, 0, 0, 1], .co [1, 1, 1, 1, 1, 1, 1, 1, 0, 1, 0, 0, 1], .le 0, .bl 0, .co [1, 1, 1, 1, 1, 1, 1, 1, 1]] [(0, .slice A len cap), (1, .int .i64 a), (3, .int .i64 wd), (9, .slice A5 len c5), (10, .slice A6 ((setL l a n wd).length) c6), (14, .int .i64 (i : Int)), (69, .bool (decide ((i : Int) < (len : Int))))] (by kernel_rfl) ?_
      rcases bsplit (decide ((i : Int) < (len : Int))) with hb21 | hb21
      · rw [hb21]
        have h21 := of_decide_eq_true hb21
        refine seg 6 [.co [1, 1, 1, 1, 1, 1, 1, 1, 0, 1, 0, 0, 1, 0, 0, 0, 0], .co [1, 1, 1, 1, 1, 1, 1, 1, 0, 1, 0, 0, 1, 0, 0, 0, 1], .co [1, 1, 1, 1, 1, 1, 1, 1, 0, 1, 0, 0, 1, 0, 0, 1], .bl 1, .co [1, 1, 1, 1, 1, 1, 1, 1, 0, 1, 0, 0, 1, 1], .le 0, .bl 0, .co [1, 1, 1, 1, 1, 1, 1, 1, 1]] [(0, .slice A len cap), (1, .int .i64 a), (3, .int .i64 wd), (9, .slice A5 len c5), (10, .slice A6 ((setL l a n wd).length) c6), (14, .int .i64 (i : Int))] (by kernel_rfl) ?_
        refine drawT (fun _ => False) (by kernel_rfl) (by kernel_rfl) ?_
        intro w22 hx22 hz22
        have h_22 := h
        have hn9_22 := hn9
        have hc9_22 := hc9
        replace h_22 := h_22.ex hx22
        replace hn9_22 := own_ex hn9_22 hx22
        replace hc9_22 := own_ex hc9_22 hx22
        replace hF := hF.ex hx22
        have hS22 := Kp.refl (fun _ => False) w22
        refine segD [0, 1, 2, 3] [0, 1, 2, 3] [(0, .slice A len cap), (1, .int .i64 a), (3, .int .i64 wd), (9, .slice A5 len c5), (10, .slice A6 ((setL l a n wd).length) c6), (14, .int .i64 (i : Int)), (75, .bool (decide ((i : Int) < a)))] (by kernel_rfl) ?_
        rcases bsplit (decide ((i : Int) < a)) with hb23 | hb23
        · rw [hb23]
          have h23 := of_decide_eq_true hb23
          refine segD [4, 5, 6, 7, 8, 9, 10, 11, 12, 15, 16] [0, 1, 2, 3, 4, 5, 6, 7, 8, 9, 10, 11, 12, 15, 16] [(0, .slice A len cap), (1, .int .i64 a), (3, .int .i64 wd), (9, .slice A5 len c5), (10, .slice A6 ((setL l a n wd).length) c6), (14, .int .i64 (i : Int)), (82, .bool true), (83, .slice A6 ((setL l a n wd).length) c6), (84, .int .i64 (i : Int)), (87, .slice A len cap), (88, .int .i64 (i : Int))] (by kernel_rfl) ?_
          have u24 := UInt8.toNat_lt (m.getD i 0)
          obtain ⟨ad25, ea25, ca25⟩ := (Cs.of_own hn9_22).at_ (bs_get m i (by omega))
          refine takeD (i := 13) (d := (some 85)) (s := vS (Instr.indexAt 22 (.slice A6 ((setL l a n wd).length) c6) (.int .i64 (i : Int)))) (v := .pointer (some (ad25.add i))) (by kernel_rfl) (by kernel_rfl) (fun w' hw' => idx_run 22 5 1 _ ad25 _ _ _ _ i ea25 (by kernel_rfl) (by omega) (by omega) (by omega)) ?_
          refine takeD (i := 14) (d := (some 86)) (s := vS (Instr.loadAt 5 (.pointer (some (ad25.add i))))) (v := .int .u8 ((m.getD i 0).toNat : Int)) (by kernel_rfl) (by kernel_rfl) (fun w' hw' => ld_run _ _ _ (by kernel_rfl) (hw'.cell ca25 (fun e => e))) ?_
          have u26 := UInt8.toNat_lt (l.getD i 0)
          obtain ⟨ad27, ea27, ca27⟩ := h_22.at_ (bs_get l i (by omega))
          refine stD (i := 17) (by kernel_rfl) hS22 (idxR (some 89) 22 5 1 A ad27 len cap .i64 (i : Int) i ea27 (by kernel_rfl) (by kernel_rfl) (by omega) (by omega) (by omega) ?_)
          refine stD (i := 18) (by kernel_rfl) hS22 (ldR (some 90) 5 (ad27.add i) (.int .u8 ((l.getD i 0).toNat : Int)) (by kernel_rfl) (by kernel_rfl) ca27 ?_)
          refine segD [19, 20] [0, 1, 2, 3, 4, 5, 6, 7, 8, 9, 10, 11, 12, 15, 16, 13, 14, 17, 18, 19, 20] [(0, .slice A len cap), (1, .int .i64 a), (3, .int .i64 wd), (9, .slice A5 len c5), (10, .slice A6 ((setL l a n wd).length) c6), (14, .int .i64 (i : Int)), (92, .bool (((m.getD i 0).toNat : Int) != ((l.getD i 0).toNat : Int)))] (by kernel_rfl) ?_
          refine endD (by kernel_rfl) hS22 ?_
          rw [show (((m.getD i 0).toNat : Int) != ((l.getD i 0).toNat : Int)) = false from by rw [hI3 i (by omega), setL_other hs0 i (by omega) (by omega)]; simp]
          refine seg 5 [.op [1, 1, 1, 1, 1, 1, 1, 1, 0, 1, 0, 0, 1, 0, 0, 1] 2, .bl 1, .co [1, 1, 1, 1, 1, 1, 1, 1, 0, 1, 0, 0, 1, 1], .le 0, .bl 0, .co [1, 1, 1, 1, 1, 1, 1, 1, 1]] [(0, .slice A len cap), (1, .int .i64 a), (3, .int .i64 wd), (9, .slice A5 len c5), (10, .slice A6 ((setL l a n wd).length) c6), (14, .int .i64 (i : Int)), (93, .slice A6 ((setL l a n wd).length) c6), (94, .int .i64 (i : Int))] (by kernel_rfl) ?_
          have u28 := UInt8.toNat_lt (m.getD i 0)
          obtain ⟨ad29, ea29, ca29⟩ := (Cs.of_own hn9_22).at_ (bs_get m i (by omega))
          refine st (idxR (some 95) 22 5 1 A6 ad29 ((setL l a n wd).length) c6 .i64 (i : Int) i ea29 (by kernel_rfl) (by kernel_rfl) (by omega) (by omega) (by omega) ?_)
          refine st (ldR (some 96) 5 (ad29.add i) (.int .u8 ((m.getD i 0).toNat : Int)) (by kernel_rfl) (by kernel_rfl) ca29 ?_)
          refine seg 1 [.op [1, 1, 1, 1, 1, 1, 1, 1, 0, 1, 0, 0, 1, 0, 0, 1] 5, .bl 1, .co [1, 1, 1, 1, 1, 1, 1, 1, 0, 1, 0, 0, 1, 1], .le 0, .bl 0, .co [1, 1, 1, 1, 1, 1, 1, 1, 1]] [(0, .slice A len cap), (1, .int .i64 a), (3, .int .i64 wd), (9, .slice A5 len c5), (10, .slice A6 ((setL l a n wd).length) c6), (14, .int .i64 (i : Int)), (93, .slice A6 ((setL l a n wd).length) c6), (94, .int .i64 (i : Int)), (97, .int .u8 (IntKind.u8.wrap (((m.getD i 0).toNat : Int) + 1)))] (by kernel_rfl) ?_
          rw [show IntKind.u8.wrap (((m.getD i 0).toNat : Int) + 1) = ((m.getD i 0 + 1).toNat : Int) from wrap_succ _]
          have u30 := UInt8.toNat_lt (m.getD i 0)
          obtain ⟨ad31, ea31, ca31⟩ := (Cs.of_own hn9_22).at_ (bs_get m i (by omega))
          refine st (idxR (some 98) 22 5 1 A6 ad31 ((setL l a n wd).length) c6 .i64 (i : Int) i ea31 (by kernel_rfl) (by kernel_rfl) (by omega) (by omega) (by omega) ?_)
          have hlt33 := own_lt hc9_22
          refine st (stOwnR none 5 w5.heap.size 5 1 A6 ((setL l a n wd).length) c6 (bs m) ad31 i (.int .u8 ((m.getD i 0 + 1).toNat : Int)) (by kernel_rfl) (by kernel_rfl) rfl hn9_22 ea31 (by first | (rw [bs_length]; omega) | (simp; omega)) ?_)
          intro w32 hn32 hx32 hz32
          replace h_22 := h_22.kp hx32 (fun k hk => by first | exact .inr (by have := own_ge hn9_22 hk; omega) | exact .inl (by have := hlt9 k hk; omega) | exact .inl (by have := hlt16 k hk; omega) | exact .inl (by have := hlt18 k hk; omega) | exact .inl (by have := hlt20 k hk; omega))
          replace hc9_22 := own_kp hc9_22 hx32 (fun k hk e => by have h1 := own_ge hc9_22 hk.symm; first | (have h2 := own_ge hn9_22 e; omega) | (have h2 := own_ge hn9_22 e; have h3 := hlt7 k hk.symm; omega) | (have h2 := own_ge hn9_22 e; have h3 := hlt8 k hk.symm; omega) | (have h2 := own_ge hn9_22 e; have h3 := hlt15 k hk.symm; omega) | (have h2 := own_ge hn9_22 e; have h3 := hlt17 k hk.symm; omega) | (have h2 := own_ge hn9_22 e; have h3 := hlt19 k hk.symm; omega) | (have h2 := own_ge hn9_22 e; have h3 := hlt33 k hk.symm; omega) | (have h2 := hlt9 k e; omega) | (have h2 := hlt16 k e; omega) | (have h2 := hlt18 k e; omega) | (have h2 := hlt20 k e; omega))
          replace hF := hF.step hx32 (fun k hk hlt => absurd (own_ge hn9_22 hk) (by omega))
          rw [bs_set] at hn32
          refine seg 7 [.le 0, .bl 0, .co [1, 1, 1, 1, 1, 1, 1, 1, 1]] [(0, .slice A len cap), (1, .int .i64 a), (3, .int .i64 wd), (9, .slice A5 len c5), (10, .slice A6 ((setL l a n wd).length) c6), (14, .int .i64 (IntKind.i64.wrap ((i : Int) + 1)))] (by kernel_rfl) ?_
          rw [show IntKind.i64.wrap ((i : Int) + 1) = ((i : Int) + 1) from w64 (by omega)]
          refine leR (i + 1, m.set i (m.getD i 0 + 1)) (by simp only []; omega) ⟨by simp only []; omega, by simp only [List.length_set]; omega, ?_, ?_, hF, ?_, ?_⟩ (by kernel_rfl)
          · intro j hj
            simp only [] at hj ⊢
            rw [← hI3 j (by omega), List.getD_eq_getElem?_getD, List.getD_eq_getElem?_getD, List.getElem?_set_ne (by omega), ← List.getD_eq_getElem?_getD]
          · exact hn32
          · exact h_22
          · exact hc9_22
        · rw [hb23]
          have h23 := of_decide_eq_false hb23
          refine segD [4, 5, 6, 7] [0, 1, 2, 3, 4, 5, 6, 7] [(0, .slice A len cap), (1, .int .i64 a), (3, .int .i64 wd), (9, .slice A5 len c5), (10, .slice A6 ((setL l a n wd).length) c6), (14, .int .i64 (i : Int)), (75, .bool false), (76, .int .i64 (i : Int)), (79, .int .i64 (IntKind.i64.wrap (a + wd)))] (by kernel_rfl) ?_
          rw [show IntKind.i64.wrap (a + wd) = (a + wd) from w64 (by omega)]
          refine segD [8, 9, 10] [0, 1, 2, 3, 4, 5, 6, 7, 8, 9, 10] [(0, .slice A len cap), (1, .int .i64 a), (3, .int .i64 wd), (9, .slice A5 len c5), (10, .slice A6 ((setL l a n wd).length) c6), (14, .int .i64 (i : Int)), (82, .bool (decide ((i : Int) ≥ (a + wd))))] (by kernel_rfl) ?_
          rcases bsplit (decide ((i : Int) ≥ (a + wd))) with hb34 | hb34
          · rw [hb34]
            have h34 := of_decide_eq_true hb34
            refine segD [11, 12, 15, 16] [0, 1, 2, 3, 4, 5, 6, 7, 8, 9, 10, 11, 12, 15, 16] [(0, .slice A len cap), (1, .int .i64 a), (3, .int .i64 wd), (9, .slice A5 len c5), (10, .slice A6 ((setL l a n wd).length) c6), (14, .int .i64 (i : Int)), (82, .bool true), (83, .slice A6 ((setL l a n wd).length) c6), (84, .int .i64 (i : Int)), (87, .slice A len cap), (88, .int .i64 (i : Int))] (by kernel_rfl) ?_
            have u35 := UInt8.toNat_lt (m.getD i 0)
            obtain ⟨ad36, ea36, ca36⟩ := (Cs.of_own hn9_22).at_ (bs_get m i (by omega))
            refine takeD (i := 13) (d := (some 85)) (s := vS (Instr.indexAt 22 (.slice A6 ((setL l a n wd).length) c6) (.int .i64 (i : Int)))) (v := .pointer (some (ad36.add i))) (by kernel_rfl) (by kernel_rfl) (fun w' hw' => idx_run 22 5 1 _ ad36 _ _ _ _ i ea36 (by kernel_rfl) (by omega) (by omega) (by omega)) ?_
            refine takeD (i := 14) (d := (some 86)) (s := vS (Instr.loadAt 5 (.pointer (some (ad36.add i))))) (v := .int .u8 ((m.getD i 0).toNat : Int)) (by kernel_rfl) (by kernel_rfl) (fun w' hw' => ld_run _ _ _ (by kernel_rfl) (hw'.cell ca36 (fun e => e))) ?_
            have u37 := UInt8.toNat_lt (l.getD i 0)
            obtain ⟨ad38, ea38, ca38⟩ := h_22.at_ (bs_get l i (by omega))
            refine stD (i := 17) (by kernel_rfl) hS22 (idxR (some 89) 22 5 1 A ad38 len cap .i64 (i : Int) i ea38 (by kernel_rfl) (by kernel_rfl) (by omega) (by omega) (by omega) ?_)
            refine stD (i := 18) (by kernel_rfl) hS22 (ldR (some 90) 5 (ad38.add i) (.int .u8 ((l.getD i 0).toNat : Int)) (by kernel_rfl) (by kernel_rfl) ca38 ?_)
            refine segD [19, 20] [0, 1, 2, 3, 4, 5, 6, 7, 8, 9, 10, 11, 12, 15, 16, 13, 14, 17, 18, 19, 20] [(0, .slice A len cap), (1, .int .i64 a), (3, .int .i64 wd), (9, .slice A5 len c5), (10, .slice A6 ((setL l a n wd).length) c6), (14, .int .i64 (i : Int)), (92, .bool (((m.getD i 0).toNat : Int) != ((l.getD i 0).toNat : Int)))] (by kernel_rfl) ?_
            refine endD (by kernel_rfl) hS22 ?_
            rw [show (((m.getD i 0).toNat : Int) != ((l.getD i 0).toNat : Int)) = false from by rw [hI3 i (by omega), setL_other hs0 i (by omega) (by omega)]; simp]
            refine seg 5 [.op [1, 1, 1, 1, 1, 1, 1, 1, 0, 1, 0, 0, 1, 0, 0, 1] 2, .bl 1, .co [1, 1, 1, 1, 1, 1, 1, 1, 0, 1, 0, 0, 1, 1], .le 0, .bl 0, .co [1, 1, 1, 1, 1, 1, 1, 1, 1]] [(0, .slice A len cap), (1, .int .i64 a), (3, .int .i64 wd), (9, .slice A5 len c5), (10, .slice A6 ((setL l a n wd).length) c6), (14, .int .i64 (i : Int)), (93, .slice A6 ((setL l a n wd).length) c6), (94, .int .i64 (i : Int))] (by kernel_rfl) ?_
            have u39 := UInt8.toNat_lt (m.getD i 0)
            obtain ⟨ad40, ea40, ca40⟩ := (Cs.of_own hn9_22).at_ (bs_get m i (by omega))
            refine st (idxR (some 95) 22 5 1 A6 ad40 ((setL l a n wd).length) c6 .i64 (i : Int) i ea40 (by kernel_rfl) (by kernel_rfl) (by omega) (by omega) (by omega) ?_)
            refine st (ldR (some 96) 5 (ad40.add i) (.int .u8 ((m.getD i 0).toNat : Int)) (by kernel_rfl) (by kernel_rfl) ca40 ?_)
            refine seg 1 [.op [1, 1, 1, 1, 1, 1, 1, 1, 0, 1, 0, 0, 1, 0, 0, 1] 5, .bl 1, .co [1, 1, 1, 1, 1, 1, 1, 1, 0, 1, 0, 0, 1, 1], .le 0, .bl 0, .co [1, 1, 1, 1, 1, 1, 1, 1, 1]] [(0, .slice A len cap), (1, .int .i64 a), (3, .int .i64 wd), (9, .slice A5 len c5), (10, .slice A6 ((setL l a n wd).length) c6), (14, .int .i64 (i : Int)), (93, .slice A6 ((setL l a n wd).length) c6), (94, .int .i64 (i : Int)), (97, .int .u8 (IntKind.u8.wrap (((m.getD i 0).toNat : Int) + 1)))] (by kernel_rfl) ?_
            rw [show IntKind.u8.wrap (((m.getD i 0).toNat : Int) + 1) = ((m.getD i 0 + 1).toNat : Int) from wrap_succ _]
            have u41 := UInt8.toNat_lt (m.getD i 0)
            obtain ⟨ad42, ea42, ca42⟩ := (Cs.of_own hn9_22).at_ (bs_get m i (by omega))
            refine st (idxR (some 98) 22 5 1 A6 ad42 ((setL l a n wd).length) c6 .i64 (i : Int) i ea42 (by kernel_rfl) (by kernel_rfl) (by omega) (by omega) (by omega) ?_)
            have hlt44 := own_lt hc9_22
            refine st (stOwnR none 5 w5.heap.size 5 1 A6 ((setL l a n wd).length) c6 (bs m) ad42 i (.int .u8 ((m.getD i 0 + 1).toNat : Int)) (by kernel_rfl) (by kernel_rfl) rfl hn9_22 ea42 (by first | (rw [bs_length]; omega) | (simp; omega)) ?_)
            intro w43 hn43 hx43 hz43
            replace h_22 := h_22.kp hx43 (fun k hk => by first | exact .inr (by have := own_ge hn9_22 hk; omega) | exact .inl (by have := hlt9 k hk; omega) | exact .inl (by have := hlt16 k hk; omega) | exact .inl (by have := hlt18 k hk; omega) | exact .inl (by have := hlt20 k hk; omega))
            replace hc9_22 := own_kp hc9_22 hx43 (fun k hk e => by have h1 := own_ge hc9_22 hk.symm; first | (have h2 := own_ge hn9_22 e; omega) | (have h2 := own_ge hn9_22 e; have h3 := hlt7 k hk.symm; omega) | (have h2 := own_ge hn9_22 e; have h3 := hlt8 k hk.symm; omega) | (have h2 := own_ge hn9_22 e; have h3 := hlt15 k hk.symm; omega) | (have h2 := own_ge hn9_22 e; have h3 := hlt17 k hk.symm; omega) | (have h2 := own_ge hn9_22 e; have h3 := hlt19 k hk.symm; omega) | (have h2 := own_ge hn9_22 e; have h3 := hlt44 k hk.symm; omega) | (have h2 := hlt9 k e; omega) | (have h2 := hlt16 k e; omega) | (have h2 := hlt18 k e; omega) | (have h2 := hlt20 k e; omega))
            replace hF := hF.step hx43 (fun k hk hlt => absurd (own_ge hn9_22 hk) (by omega))
            rw [bs_set] at hn43
            refine seg 7 [.le 0, .bl 0, .co [1, 1, 1, 1, 1, 1, 1, 1, 1]] [(0, .slice A len cap), (1, .int .i64 a), (3, .int .i64 wd), (9, .slice A5 len c5), (10, .slice A6 ((setL l a n wd).length) c6), (14, .int .i64 (IntKind.i64.wrap ((i : Int) + 1)))] (by kernel_rfl) ?_
            rw [show IntKind.i64.wrap ((i : Int) + 1) = ((i : Int) + 1) from w64 (by omega)]
            refine leR (i + 1, m.set i (m.getD i 0 + 1)) (by simp only []; omega) ⟨by simp only []; omega, by simp only [List.length_set]; omega, ?_, ?_, hF, ?_, ?_⟩ (by kernel_rfl)
            · intro j hj
              simp only [] at hj ⊢
              rw [← hI3 j (by omega), List.getD_eq_getElem?_getD, List.getD_eq_getElem?_getD, List.getElem?_set_ne (by omega), ← List.getD_eq_getElem?_getD]
            · exact hn43
            · exact h_22
            · exact hc9_22
          · rw [hb34]
            have h34 := of_decide_eq_false hb34
            refine segD [11, 12, 13, 14, 15, 16, 17, 18, 19, 20] [0, 1, 2, 3, 4, 5, 6, 7, 8, 9, 10, 11, 12, 13, 14, 15, 16, 17, 18, 19, 20] [(0, .slice A len cap), (1, .int .i64 a), (3, .int .i64 wd), (9, .slice A5 len c5), (10, .slice A6 ((setL l a n wd).length) c6), (14, .int .i64 (i : Int)), (92, .bool false)] (by kernel_rfl) ?_
            refine endD (by kernel_rfl) hS22 ?_
            refine seg 5 [.op [1, 1, 1, 1, 1, 1, 1, 1, 0, 1, 0, 0, 1, 0, 0, 1] 2, .bl 1, .co [1, 1, 1, 1, 1, 1, 1, 1, 0, 1, 0, 0, 1, 1], .le 0, .bl 0, .co [1, 1, 1, 1, 1, 1, 1, 1, 1]] [(0, .slice A len cap), (1, .int .i64 a), (3, .int .i64 wd), (9, .slice A5 len c5), (10, .slice A6 ((setL l a n wd).length) c6), (14, .int .i64 (i : Int)), (93, .slice A6 ((setL l a n wd).length) c6), (94, .int .i64 (i : Int))] (by kernel_rfl) ?_
            have u45 := UInt8.toNat_lt (m.getD i 0)
            obtain ⟨ad46, ea46, ca46⟩ := (Cs.of_own hn9_22).at_ (bs_get m i (by omega))
            refine st (idxR (some 95) 22 5 1 A6 ad46 ((setL l a n wd).length) c6 .i64 (i : Int) i ea46 (by kernel_rfl) (by kernel_rfl) (by omega) (by omega) (by omega) ?_)
            refine st (ldR (some 96) 5 (ad46.add i) (.int .u8 ((m.getD i 0).toNat : Int)) (by kernel_rfl) (by kernel_rfl) ca46 ?_)
            refine seg 1 [.op [1, 1, 1, 1, 1, 1, 1, 1, 0, 1, 0, 0, 1, 0, 0, 1] 5, .bl 1, .co [1, 1, 1, 1, 1, 1, 1, 1, 0, 1, 0, 0, 1, 1], .le 0, .bl 0, .co [1, 1, 1, 1, 1, 1, 1, 1, 1]] [(0, .slice A len cap), (1, .int .i64 a), (3, .int .i64 wd), (9, .slice A5 len c5), (10, .slice A6 ((setL l a n wd).length) c6), (14, .int .i64 (i : Int)), (93, .slice A6 ((setL l a n wd).length) c6), (94, .int .i64 (i : Int)), (97, .int .u8 (IntKind.u8.wrap (((m.getD i 0).toNat : Int) + 1)))] (by kernel_rfl) ?_
            rw [show IntKind.u8.wrap (((m.getD i 0).toNat : Int) + 1) = ((m.getD i 0 + 1).toNat : Int) from wrap_succ _]
            have u47 := UInt8.toNat_lt (m.getD i 0)
            obtain ⟨ad48, ea48, ca48⟩ := (Cs.of_own hn9_22).at_ (bs_get m i (by omega))
            refine st (idxR (some 98) 22 5 1 A6 ad48 ((setL l a n wd).length) c6 .i64 (i : Int) i ea48 (by kernel_rfl) (by kernel_rfl) (by omega) (by omega) (by omega) ?_)
            have hlt50 := own_lt hc9_22
            refine st (stOwnR none 5 w5.heap.size 5 1 A6 ((setL l a n wd).length) c6 (bs m) ad48 i (.int .u8 ((m.getD i 0 + 1).toNat : Int)) (by kernel_rfl) (by kernel_rfl) rfl hn9_22 ea48 (by first | (rw [bs_length]; omega) | (simp; omega)) ?_)
            intro w49 hn49 hx49 hz49
            replace h_22 := h_22.kp hx49 (fun k hk => by first | exact .inr (by have := own_ge hn9_22 hk; omega) | exact .inl (by have := hlt9 k hk; omega) | exact .inl (by have := hlt16 k hk; omega) | exact .inl (by have := hlt18 k hk; omega) | exact .inl (by have := hlt20 k hk; omega))
            replace hc9_22 := own_kp hc9_22 hx49 (fun k hk e => by have h1 := own_ge hc9_22 hk.symm; first | (have h2 := own_ge hn9_22 e; omega) | (have h2 := own_ge hn9_22 e; have h3 := hlt7 k hk.symm; omega) | (have h2 := own_ge hn9_22 e; have h3 := hlt8 k hk.symm; omega) | (have h2 := own_ge hn9_22 e; have h3 := hlt15 k hk.symm; omega) | (have h2 := own_ge hn9_22 e; have h3 := hlt17 k hk.symm; omega) | (have h2 := own_ge hn9_22 e; have h3 := hlt19 k hk.symm; omega) | (have h2 := own_ge hn9_22 e; have h3 := hlt50 k hk.symm; omega) | (have h2 := hlt9 k e; omega) | (have h2 := hlt16 k e; omega) | (have h2 := hlt18 k e; omega) | (have h2 := hlt20 k e; omega))
            replace hF := hF.step hx49 (fun k hk hlt => absurd (own_ge hn9_22 hk) (by omega))
            rw [bs_set] at hn49
            refine seg 7 [.le 0, .bl 0, .co [1, 1, 1, 1, 1, 1, 1, 1, 1]] [(0, .slice A len cap), (1, .int .i64 a), (3, .int .i64 wd), (9, .slice A5 len c5), (10, .slice A6 ((setL l a n wd).length) c6), (14, .int .i64 (IntKind.i64.wrap ((i : Int) + 1)))] (by kernel_rfl) ?_
            rw [show IntKind.i64.wrap ((i : Int) + 1) = ((i : Int) + 1) from w64 (by omega)]
            refine leR (i + 1, m.set i (m.getD i 0 + 1)) (by simp only []; omega) ⟨by simp only []; omega, by simp only [List.length_set]; omega, ?_, ?_, hF, ?_, ?_⟩ (by kernel_rfl)
            · intro j hj
              simp only [] at hj ⊢
              rw [← hI3 j (by omega), List.getD_eq_getElem?_getD, List.getD_eq_getElem?_getD, List.getElem?_set_ne (by omega), ← List.getD_eq_getElem?_getD]
            · exact hn49
            · exact h_22
            · exact hc9_22
      · rw [hb21]
        have h21 := of_decide_eq_false hb21
        refine seg 5 [.op [1, 1, 1, 1, 1, 1, 1, 1, 1, 0] 1, .co [1, 1, 1, 1, 1, 1, 1, 1, 1, 1]] [(0, .slice A len cap), (99, .slice A5 len c5)] (by kernel_rfl) ?_
        refine st (b2sR (some 100) 22 9 5 A5 len c5 l Try.underlying22 Try.underlying5 Try.underlying9 (by kernel_rfl) (Cs.of_own hc9) (by first | rfl | omega | (simp; done) | (simp; omega)) ?_)
        refine seg 1 [.op [1, 1, 1, 1, 1, 1, 1, 1, 1, 0] 3, .co [1, 1, 1, 1, 1, 1, 1, 1, 1, 1]] [(100, .string (⟨l.toArray⟩)), (101, .slice A len cap)] (by kernel_rfl) ?_
        refine st (b2sR (some 102) 22 9 5 A len cap l Try.underlying22 Try.underlying5 Try.underlying9 (by kernel_rfl) h (by first | rfl | omega | (simp; done) | (simp; omega)) ?_)
        refine seg 2 [.op [1, 1, 1, 1, 1, 1, 1, 1, 1, 0] 6, .co [1, 1, 1, 1, 1, 1, 1, 1, 1, 1]] [(104, .bool (ByteArray.toList (⟨l.toArray⟩) == ByteArray.toList (⟨l.toArray⟩)))] (by kernel_rfl) ?_
        rw [show (ByteArray.toList (⟨l.toArray⟩) == ByteArray.toList (⟨l.toArray⟩)) = true from streq_t rfl]
        have hlt52 := own_lt hn9
        have hlt53 := own_lt hc9
        refine st (callR (some 105) 15 #[] Try.call15 (live_c w9) (by kernel_rfl) ?_)
        rintro _ w51 ⟨rfl, hx51⟩
        have hz51 := hx51.size
        replace hF := hF.ex hx51
        refine seg 3 [.co [1, 1, 1, 1, 1, 1, 1, 1, 1, 1]] [(8, .bool true)] (by kernel_rfl) ?_
        refine retR [8] [.bool true] (by kernel_rfl) (by kernel_rfl) (by kernel_rfl) ?_
        exact ⟨_, rfl, rfl, hF⟩

end Go.Proofs.Ytgkiegplmohgkaa.F
