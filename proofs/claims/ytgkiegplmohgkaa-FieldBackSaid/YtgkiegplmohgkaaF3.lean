/- readers, writers: contracts -/
import Derived.Test.YtgkiegplmohgkaaF2
import Derived.Test.YtgkiegplmohgkaaK7
set_option linter.unusedVariables false
set_option linter.unusedSimpArgs false
namespace Go.Proofs.Ytgkiegplmohgkaa.F
open Go Go.RowKit Go.Proofs.Ytgkiegplmohgkaa.K
theorem right_c (w : World) (g : Nat) (A : Option Addr) (m c : Nat) (most e0 e1 more : Int) (hg : w.heap[g]? = some (.cells #[.slice A m c, .int .i64 most, .int .i64 e0] 95 (0, 0))) (hm : 0 ≤ most ∧ most ≤ 9223372036854775807) (hl : m ≤ 140737488355328) (hmore : -9223372036854775808 ≤ more ∧ more ≤ 9223372036854775807) :
    Calls Try.prog 61 #[.pointer (some (⟨g, 0, none⟩)), .int .i64 e1, .int .i64 more] w fun e w' => ∃ v, e = .returned v ∧ (v = .bool (addE most m e0 e1 more == 0) ∧ Kp (fun k => k = g) w w' ∧ w'.heap[g]? = some (.cells #[.slice A m c, .int .i64 most, .int .i64 (addE most m e0 e1 more)] 95 (0, 0))) := by
  refine callsR Try.func61 (by kernel_rfl) (by kernel_rfl) ?_
  have hlt := blk_lt hg
  have hF : Kp (fun k => k = g) w w := Kp.refl _ _
  refine seg 13 [.op [1, 0, 0] 6, .co [1, 0, 1], .co [1, 1]] [(0, .pointer (some (⟨g, 0, none⟩))), (1, .int .i64 e1), (2, .int .i64 more), (9, .bool false), (12, .pointer (some (⟨g, 2, none⟩)))] (by kernel_rfl) ?_
  refine st (ldR (some 13) 25 (⟨g, 2, none⟩) (.int .i64 e0) (by kernel_rfl) (by kernel_rfl) (blk_cell hg rfl) ?_)
  refine seg 3 [.co [1, 0, 1], .co [1, 1]] [(0, .pointer (some (⟨g, 0, none⟩))), (1, .int .i64 e1), (2, .int .i64 more), (15, .bool (e0 != 0))] (by kernel_rfl) ?_
  rcases bsplit (e0 != 0) with hb1 | hb1
  · rw [hb1]
    have h1 : e0 ≠ 0 := by simpa using hb1
    refine seg 5 [.co [1, 0, 1, 0, 1], .co [1, 1]] [(6, .bool false)] (by kernel_rfl) ?_
    refine retR [6] [.bool false] (by kernel_rfl) (by kernel_rfl) (by kernel_rfl) ?_
    have ee : addE most m e0 e1 more = e0 := by simp [addE, h1]
    rw [ee]
    refine ⟨_, rfl, by simp [packV, h1], hF, hg⟩
  · rw [hb1]
    have h1 : e0 = 0 := by simpa using hb1
    refine seg 4 [.co [1, 1, 0, 0], .co [1, 1, 0, 1], .co [1, 1, 1]] [(0, .pointer (some (⟨g, 0, none⟩))), (1, .int .i64 e1), (2, .int .i64 more)] (by kernel_rfl) ?_
    refine drawT (fun _ => False) (by kernel_rfl) (by kernel_rfl) ?_
    intro w2 hx2 hz2
    have hg_2 := hg
    replace hg_2 := hx2.blk hg_2 (fun e => e)
    replace hF := hF.ex hx2
    have hS2 := Kp.refl (fun _ => False) w2
    refine segD [0, 1, 2] [0, 1, 2] [(0, .pointer (some (⟨g, 0, none⟩))), (1, .int .i64 e1), (2, .int .i64 more), (18, .bool (e1 == 0))] (by kernel_rfl) ?_
    rcases bsplit (e1 == 0) with hb3 | hb3
    · rw [hb3]
      have h3 : e1 = 0 := by simpa using hb3
      refine segD [3, 4, 5, 6, 8, 9, 10] [0, 1, 2, 3, 4, 5, 6, 8, 9, 10] [(0, .pointer (some (⟨g, 0, none⟩))), (1, .int .i64 e1), (18, .bool true), (19, .int .i64 more), (22, .pointer (some (⟨g, 1, none⟩))), (26, .pointer (some (⟨g, 0, none⟩)))] (by kernel_rfl) ?_
      refine takeD (i := 7) (d := (some 23)) (s := vS (Instr.loadAt 3 (.pointer (some (⟨g, 1, none⟩))))) (v := .int .i64 most) (by kernel_rfl) (by kernel_rfl) (fun w' hw' => ld_run _ _ _ (by kernel_rfl) (hw'.cell (blk_cell hg_2 rfl) (fun e => e))) ?_
      refine stD (i := 11) (by kernel_rfl) hS2 (ldR (some 27) 22 (⟨g, 0, none⟩) (.slice A m c) (by kernel_rfl) (by kernel_rfl) (blk_cell hg_2 rfl) ?_)
      refine segD [12, 13] [0, 1, 2, 3, 4, 5, 6, 8, 9, 10, 7, 11, 12, 13] [(0, .pointer (some (⟨g, 0, none⟩))), (1, .int .i64 e1), (18, .bool true), (19, .int .i64 more), (29, .int .i64 (IntKind.i64.wrap (most - (m : Int))))] (by kernel_rfl) ?_
      rw [show IntKind.i64.wrap (most - (m : Int)) = (most - (m : Int)) from w64 (by omega)]
      refine segD [14, 15] [0, 1, 2, 3, 4, 5, 6, 8, 9, 10, 7, 11, 12, 13, 14, 15] [(0, .pointer (some (⟨g, 0, none⟩))), (1, .int .i64 e1), (31, .bool (decide (more > (most - (m : Int)))))] (by kernel_rfl) ?_
      refine endD (by kernel_rfl) hS2 ?_
      rcases bsplit (decide (more > (most - (m : Int)))) with hb4 | hb4
      · rw [hb4]
        have h4 := of_decide_eq_true hb4
        refine seg 10 [.op [1, 1, 1, 0] 4, .co [1, 1, 1, 1]] [(1, .int .i64 2), (33, .int .i64 2), (35, .pointer (some (⟨g, 2, none⟩)))] (by kernel_rfl) ?_
        refine st (stR none 25 g 2 (.int .i64 2) #[.slice A m c, .int .i64 most, .int .i64 e0] 95 (by kernel_rfl) (by kernel_rfl) rfl hg_2 (by simp) ?_)
        intro w5 hx5 hg5 hz5
        replace hF := hF.step hx5 (fun k hk hlt => hk)
        replace hg5 : w5.heap[g]? = some (.cells #[.slice A m c, .int .i64 most, .int .i64 2] 95 (0, 0)) := hg5
        refine seg 7 [.co [1, 1, 1, 1, 1]] [(6, .bool false)] (by kernel_rfl) ?_
        refine retR [6] [.bool false] (by kernel_rfl) (by kernel_rfl) (by kernel_rfl) ?_
        have ee : addE most m e0 e1 more = 2 := by simp [addE, h1, h3, h4]
        rw [ee]
        refine ⟨_, rfl, by simp [packV, h1, h3, h4], hF, hg5⟩
      · rw [hb4]
        have h4 := of_decide_eq_false hb4
        refine seg 8 [.op [1, 1, 1, 0] 4, .co [1, 1, 1, 1]] [(1, .int .i64 e1), (33, .int .i64 e1), (35, .pointer (some (⟨g, 2, none⟩)))] (by kernel_rfl) ?_
        refine st (stR none 25 g 2 (.int .i64 e1) #[.slice A m c, .int .i64 most, .int .i64 e0] 95 (by kernel_rfl) (by kernel_rfl) rfl hg_2 (by simp) ?_)
        intro w6 hx6 hg6 hz6
        replace hF := hF.step hx6 (fun k hk hlt => hk)
        replace hg6 : w6.heap[g]? = some (.cells #[.slice A m c, .int .i64 most, .int .i64 e1] 95 (0, 0)) := hg6
        refine seg 7 [.co [1, 1, 1, 1, 1]] [(6, .bool (e1 == 0))] (by kernel_rfl) ?_
        refine retR [6] [.bool (e1 == 0)] (by kernel_rfl) (by kernel_rfl) (by kernel_rfl) ?_
        have ee : addE most m e0 e1 more = e1 := by simp [addE, h1, h3, h4]
        rw [ee]
        refine ⟨_, rfl, by simp [packV, h1, h3, h4], hF, hg6⟩
    · rw [hb3]
      have h3 : e1 ≠ 0 := by simpa using hb3
      refine segD [3, 4, 5, 6, 7, 8, 9, 10, 11, 12, 13, 14, 15] [0, 1, 2, 3, 4, 5, 6, 7, 8, 9, 10, 11, 12, 13, 14, 15] [(0, .pointer (some (⟨g, 0, none⟩))), (1, .int .i64 e1), (31, .bool false)] (by kernel_rfl) ?_
      refine endD (by kernel_rfl) hS2 ?_
      refine seg 8 [.op [1, 1, 1, 0] 4, .co [1, 1, 1, 1]] [(1, .int .i64 e1), (33, .int .i64 e1), (35, .pointer (some (⟨g, 2, none⟩)))] (by kernel_rfl) ?_
      refine st (stR none 25 g 2 (.int .i64 e1) #[.slice A m c, .int .i64 most, .int .i64 e0] 95 (by kernel_rfl) (by kernel_rfl) rfl hg_2 (by simp) ?_)
      intro w7 hx7 hg7 hz7
      replace hF := hF.step hx7 (fun k hk hlt => hk)
      replace hg7 : w7.heap[g]? = some (.cells #[.slice A m c, .int .i64 most, .int .i64 e1] 95 (0, 0)) := hg7
      refine seg 7 [.co [1, 1, 1, 1, 1]] [(6, .bool (e1 == 0))] (by kernel_rfl) ?_
      refine retR [6] [.bool (e1 == 0)] (by kernel_rfl) (by kernel_rfl) (by kernel_rfl) ?_
      have ee : addE most m e0 e1 more = e1 := by simp [addE, h1, h3]
      rw [ee]
      refine ⟨_, rfl, by simp [packV, h1, h3], hF, hg7⟩

theorem wnum_c (w : World) (g base m c : Nat) (A : Option Addr) {l : List UInt8} (most e0 : Int) (hg : w.heap[g]? = some (.cells #[.slice A m c, .int .i64 most, .int .i64 e0] 95 (0, 0))) (ho : w.ownsRow base 5 1 (.slice A m c) m (bs l)) (hb : g < base ∧ base ≤ w.heap.size) (hm : 0 ≤ most ∧ most ≤ 9223372036854775807) (hl : m ≤ 140737400000000) (n : Nat) (hn : n < 18446744073709551616) (wd : Int) (hwd : -9223372036854775808 ≤ wd ∧ wd ≤ 9223372036854775807) :
    Calls Try.prog 32 #[.pointer (some (⟨g, 0, none⟩)), .int .u64 (n : Int), .int .i64 wd] w fun e w' => ∃ v, e = .returned v ∧ (∃ A' c', v = .tuple #[] ∧ w'.heap[g]? = some (.cells #[.slice A' (addL l (addE most l.length e0 (putE n wd) wd) (enc wd.toNat n)).length c', .int .i64 most, .int .i64 (addE most l.length e0 (putE n wd) wd)] 95 (0, 0)) ∧ w'.ownsRow base 5 1 (.slice A' (addL l (addE most l.length e0 (putE n wd) wd) (enc wd.toNat n)).length c') (addL l (addE most l.length e0 (putE n wd) wd) (enc wd.toNat n)).length (bs (addL l (addE most l.length e0 (putE n wd) wd) (enc wd.toNat n))) ∧ WrT g w (.slice A m c) w' (.slice A' (addL l (addE most l.length e0 (putE n wd) wd) (enc wd.toNat n)).length c')) := by
  refine callsR Try.func32 (by kernel_rfl) (by kernel_rfl) ?_
  have hlt := blk_lt hg
  have hF : WrT g w (.slice A m c) w (.slice A m c) := WrT.refl _ _ _
  have hml : m = l.length := by have := ho.1; rw [bs_length] at this; omega
  refine seg 9 [.op [1, 0, 0, 0] 1, .co [1, 0, 0, 1], .bl 0, .co [1, 1]] [(0, .pointer (some (⟨g, 0, none⟩))), (1, .int .u64 (n : Int)), (2, .int .i64 wd), (6, .int .i64 0), (8, .int .i64 wd)] (by kernel_rfl) ?_
  have hlt1 := own_lt ho
  refine st (callR (some 9) 52 #[.int .i64 wd] Try.call52 (wide_c w wd) (by kernel_rfl) ?_)
  rintro _ _ ⟨rfl, rfl⟩
  refine seg 3 [.co [1, 0, 0, 1], .bl 0, .co [1, 1]] [(0, .pointer (some (⟨g, 0, none⟩))), (1, .int .u64 (n : Int)), (2, .int .i64 wd), (6, .int .i64 0), (7, .bool (!(wideB wd)))] (by kernel_rfl) ?_
  rcases bsplit (wideB wd) with hb2 | hb2
  · rw [hb2]
    have h2 := wide_of hb2
    refine seg 5 [.op [1, 0, 0, 1, 1, 0] 2, .co [1, 0, 0, 1, 1, 1], .bl 0, .co [1, 1]] [(0, .pointer (some (⟨g, 0, none⟩))), (1, .int .u64 (n : Int)), (2, .int .i64 wd), (6, .int .i64 0), (12, .int .u64 (n : Int)), (13, .int .i64 wd)] (by kernel_rfl) ?_
    have hlt3 := own_lt ho
    refine st (callR (some 14) 56 #[.int .u64 (n : Int), .int .i64 wd] Try.call56 (fits_c w n wd (by omega) (by omega)) (by kernel_rfl) ?_)
    rintro _ _ ⟨rfl, rfl⟩
    refine seg 3 [.co [1, 0, 0, 1, 1, 1], .bl 0, .co [1, 1]] [(0, .pointer (some (⟨g, 0, none⟩))), (1, .int .u64 (n : Int)), (2, .int .i64 wd), (6, .int .i64 0), (11, .bool (!(fitsB n (wd).toNat)))] (by kernel_rfl) ?_
    rcases bsplit (fitsB n (wd).toNat) with hb4 | hb4
    · rw [hb4]
      refine seg 8 [.op [1, 1, 0] 3, .co [1, 1, 1]] [(0, .pointer (some (⟨g, 0, none⟩))), (1, .int .u64 (n : Int)), (2, .int .i64 wd), (16, .pointer (some (⟨g, 0, none⟩))), (17, .int .i64 0), (18, .int .i64 wd)] (by kernel_rfl) ?_
      have hlt6 := own_lt ho
      refine st (callR (some 19) 61 #[.pointer (some (⟨g, 0, none⟩)), .int .i64 0, .int .i64 wd] Try.call61 (right_c w g A m c most e0 0 wd hg (by omega) (by omega) (by omega)) (by kernel_rfl) ?_)
      rintro _ w5 ⟨rfl, hx5, hg5⟩
      have hz5 := hx5.size
      replace ho := own_kp ho hx5 (fun k hk (e : k = g) => by have h1 := own_ge ho hk.symm; first | omega | (have h2 := hlt1 k hk.symm; omega) | (have h2 := hlt3 k hk.symm; omega) | (have h2 := hlt6 k hk.symm; omega))
      replace hF := hF.blk hx5
      refine seg 1 [.co [1, 1, 1]] [(0, .pointer (some (⟨g, 0, none⟩))), (1, .int .u64 (n : Int)), (2, .int .i64 wd), (19, .bool ((addE most m e0 0 wd) == 0))] (by kernel_rfl) ?_
      rcases bsplit ((addE most m e0 0 wd) == 0) with hb7 | hb7
      · rw [hb7]
        have h7 : (addE most m e0 0 wd) = 0 := by simpa using hb7
        refine seg 6 [.op [1, 1, 1, 0] 4] [(1, .int .u64 (n : Int)), (2, .int .i64 wd), (20, .pointer (some (⟨g, 0, none⟩))), (23, .pointer (some (⟨g, 0, none⟩)))] (by kernel_rfl) ?_
        refine st (ldR (some 24) 22 (⟨g, 0, none⟩) (.slice A m c) (by kernel_rfl) (by kernel_rfl) (blk_cell hg5 rfl) ?_)
        refine seg 2 [.op [1, 1, 1, 0] 7] [(20, .pointer (some (⟨g, 0, none⟩))), (24, .slice A m c), (25, .int .u64 (n : Int)), (26, .int .i64 wd)] (by kernel_rfl) ?_
        have hlt9 := own_lt ho
        refine st (callR (some 27) 57 #[.slice A m c, .int .u64 (n : Int), .int .i64 wd] Try.call57 (store_c w5 A m c n wd base ho (by omega) (by omega) (by omega) (by omega)) (by kernel_rfl) ?_)
        rintro _ w8 ⟨A8, c8, rfl, hn8, hG8⟩
        have hz8 := hG8.kp.size
        replace hg5 := hG8.kp.blk hg5 (fun e => by first | (have := own_ge ho e; omega) | (have := hlt1 _ e; omega) | (have := hlt3 _ e; omega) | (have := hlt6 _ e; omega) | (have := hlt9 _ e; omega))
        replace hF := hF.trans hG8
        refine seg 2 [.op [1, 1, 1, 0] 10] [(27, .slice A8 (m + (wd).toNat) c8), (29, .pointer (some (⟨g, 0, none⟩)))] (by kernel_rfl) ?_
        refine st (stR none 22 g 0 (.slice A8 (m + (wd).toNat) c8) #[.slice A m c, .int .i64 most, .int .i64 (addE most m e0 0 wd)] 95 (by kernel_rfl) (by kernel_rfl) rfl hg5 (by simp) ?_)
        intro w10 hx10 hg10 hz10
        replace hn8 := own_kp hn8 hx10 (fun k hk (e : k = g) => by have h1 := own_ge hn8 hk.symm; first | omega)
        replace hF := hF.blk hx10
        replace hg10 : w10.heap[g]? = some (.cells #[.slice A8 (m + (wd).toNat) c8, .int .i64 most, .int .i64 (addE most m e0 0 wd)] 95 (0, 0)) := hg10
        refine seg 1 [] [] (by kernel_rfl) ?_
        refine endR [] [] (by kernel_rfl) (by kernel_rfl) ?_
        have e1 : putE n wd = 0 := by simp [putE, hb2, hb4]
        rw [e1]
        rw [← hml]
        have ez : (addE most m e0 0 wd) = 0 := h7
        have ex : addL l ((addE most m e0 0 wd)) ((enc wd.toNat n)) = l ++ (enc wd.toNat n) := by simp only [addL, ez, if_true]
        rw [ex]
        have el : (l ++ (enc wd.toNat n)).length = m + (wd).toNat := by simp only [List.length_append, bs_length, enc_length] at *; omega
        rw [el]
        exact ⟨_, rfl, _, _, rfl, hg10, hn8, hF⟩
      · rw [hb7]
        have h7 : (addE most m e0 0 wd) ≠ 0 := by simpa using hb7
        refine seg 2 [] [] (by kernel_rfl) ?_
        refine endR [] [] (by kernel_rfl) (by kernel_rfl) ?_
        have e1 : putE n wd = 0 := by simp [putE, hb2, hb4]
        rw [e1]
        rw [← hml]
        have ez : (addE most m e0 0 wd) ≠ 0 := h7
        have ex : addL l ((addE most m e0 0 wd)) ((enc wd.toNat n)) = l := by simp only [addL, ez, if_false]
        rw [ex, ← hml]
        exact ⟨_, rfl, _, _, rfl, hg5, ho, hF⟩
    · rw [hb4]
      refine seg 10 [.op [1, 1, 0] 3, .co [1, 1, 1]] [(0, .pointer (some (⟨g, 0, none⟩))), (1, .int .u64 (n : Int)), (2, .int .i64 wd), (16, .pointer (some (⟨g, 0, none⟩))), (17, .int .i64 9), (18, .int .i64 wd)] (by kernel_rfl) ?_
      have hlt12 := own_lt ho
      refine st (callR (some 19) 61 #[.pointer (some (⟨g, 0, none⟩)), .int .i64 9, .int .i64 wd] Try.call61 (right_c w g A m c most e0 9 wd hg (by omega) (by omega) (by omega)) (by kernel_rfl) ?_)
      rintro _ w11 ⟨rfl, hx11, hg11⟩
      have hz11 := hx11.size
      replace ho := own_kp ho hx11 (fun k hk (e : k = g) => by have h1 := own_ge ho hk.symm; first | omega | (have h2 := hlt1 k hk.symm; omega) | (have h2 := hlt3 k hk.symm; omega) | (have h2 := hlt12 k hk.symm; omega))
      replace hF := hF.blk hx11
      refine seg 1 [.co [1, 1, 1]] [(0, .pointer (some (⟨g, 0, none⟩))), (1, .int .u64 (n : Int)), (2, .int .i64 wd), (19, .bool ((addE most m e0 9 wd) == 0))] (by kernel_rfl) ?_
      rw [show ((addE most m e0 9 wd) == 0) = false from by simpa using addE_bad (by decide)]
      refine seg 2 [] [] (by kernel_rfl) ?_
      refine endR [] [] (by kernel_rfl) (by kernel_rfl) ?_
      have e1 : putE n wd = 9 := by simp [putE, hb2, hb4]
      rw [e1]
      rw [← hml]
      have ez : (addE most m e0 9 wd) ≠ 0 := addE_bad (by decide)
      have ex : addL l ((addE most m e0 9 wd)) ((enc wd.toNat n)) = l := by simp only [addL, ez, if_false]
      rw [ex, ← hml]
      exact ⟨_, rfl, _, _, rfl, hg11, ho, hF⟩
  · rw [hb2]
    refine seg 10 [.op [1, 1, 0] 3, .co [1, 1, 1]] [(0, .pointer (some (⟨g, 0, none⟩))), (1, .int .u64 (n : Int)), (2, .int .i64 wd), (16, .pointer (some (⟨g, 0, none⟩))), (17, .int .i64 1), (18, .int .i64 wd)] (by kernel_rfl) ?_
    have hlt14 := own_lt ho
    refine st (callR (some 19) 61 #[.pointer (some (⟨g, 0, none⟩)), .int .i64 1, .int .i64 wd] Try.call61 (right_c w g A m c most e0 1 wd hg (by omega) (by omega) (by omega)) (by kernel_rfl) ?_)
    rintro _ w13 ⟨rfl, hx13, hg13⟩
    have hz13 := hx13.size
    replace ho := own_kp ho hx13 (fun k hk (e : k = g) => by have h1 := own_ge ho hk.symm; first | omega | (have h2 := hlt1 k hk.symm; omega) | (have h2 := hlt14 k hk.symm; omega))
    replace hF := hF.blk hx13
    refine seg 1 [.co [1, 1, 1]] [(0, .pointer (some (⟨g, 0, none⟩))), (1, .int .u64 (n : Int)), (2, .int .i64 wd), (19, .bool ((addE most m e0 1 wd) == 0))] (by kernel_rfl) ?_
    rw [show ((addE most m e0 1 wd) == 0) = false from by simpa using addE_bad (by decide)]
    refine seg 2 [] [] (by kernel_rfl) ?_
    refine endR [] [] (by kernel_rfl) (by kernel_rfl) ?_
    have e1 : putE n wd = 1 := by simp [putE, hb2]
    rw [e1]
    rw [← hml]
    have ez : (addE most m e0 1 wd) ≠ 0 := addE_bad (by decide)
    have ex : addL l ((addE most m e0 1 wd)) ((enc wd.toNat n)) = l := by simp only [addL, ez, if_false]
    rw [ex, ← hml]
    exact ⟨_, rfl, _, _, rfl, hg13, ho, hF⟩

theorem wbytes_c (w : World) (g base m c : Nat) (A : Option Addr) {l : List UInt8} (most e0 : Int) (hg : w.heap[g]? = some (.cells #[.slice A m c, .int .i64 most, .int .i64 e0] 95 (0, 0))) (ho : w.ownsRow base 5 1 (.slice A m c) m (bs l)) (hb : g < base ∧ base ≤ w.heap.size) (hm : 0 ≤ most ∧ most ≤ 9223372036854775807) (hl : m ≤ 140737400000000) (X : Option Addr) (n cx : Nat) {lo hi : Nat} {x : List UInt8} (hX : Cs lo hi w X (bs x)) (hn : x.length = n) (hn2 : n ≤ 1000000) (hgl : g < lo ∨ hi ≤ g) :
    Calls Try.prog 33 #[.pointer (some (⟨g, 0, none⟩)), .slice X n cx] w fun e w' => ∃ v, e = .returned v ∧ (∃ A' c', v = .tuple #[] ∧ w'.heap[g]? = some (.cells #[.slice A' (addL l (addE most l.length e0 0 x.length) x).length c', .int .i64 most, .int .i64 (addE most l.length e0 0 x.length)] 95 (0, 0)) ∧ w'.ownsRow base 5 1 (.slice A' (addL l (addE most l.length e0 0 x.length) x).length c') (addL l (addE most l.length e0 0 x.length) x).length (bs (addL l (addE most l.length e0 0 x.length) x)) ∧ WrT g w (.slice A m c) w' (.slice A' (addL l (addE most l.length e0 0 x.length) x).length c')) := by
  refine callsR Try.func33 (by kernel_rfl) (by kernel_rfl) ?_
  have hlt := blk_lt hg
  have hF : WrT g w (.slice A m c) w (.slice A m c) := WrT.refl _ _ _
  have hml : m = l.length := by have := ho.1; rw [bs_length] at this; omega
  refine seg 5 [.op [0] 3, .co [1]] [(0, .pointer (some (⟨g, 0, none⟩))), (1, .slice X n cx), (4, .pointer (some (⟨g, 0, none⟩))), (6, .int .i64 (n : Int))] (by kernel_rfl) ?_
  have hlt2 := own_lt ho
  refine st (callR (some 7) 61 #[.pointer (some (⟨g, 0, none⟩)), .int .i64 0, .int .i64 (n : Int)] Try.call61 (right_c w g A m c most e0 0 (n : Int) hg (by omega) (by omega) (by omega)) (by kernel_rfl) ?_)
  rintro _ w1 ⟨rfl, hx1, hg1⟩
  have hz1 := hx1.size
  replace hX := hX.kp hx1 (fun k (hk : k = g) => by omega)
  replace ho := own_kp ho hx1 (fun k hk (e : k = g) => by have h1 := own_ge ho hk.symm; first | omega | (have h2 := hlt2 k hk.symm; omega))
  replace hF := hF.blk hx1
  refine seg 1 [.co [1]] [(0, .pointer (some (⟨g, 0, none⟩))), (1, .slice X n cx), (7, .bool ((addE most m e0 0 (n : Int)) == 0))] (by kernel_rfl) ?_
  rcases bsplit ((addE most m e0 0 (n : Int)) == 0) with hb3 | hb3
  · rw [hb3]
    have h3 : (addE most m e0 0 (n : Int)) = 0 := by simpa using hb3
    refine seg 6 [.op [1, 0] 4] [(1, .slice X n cx), (8, .pointer (some (⟨g, 0, none⟩))), (11, .pointer (some (⟨g, 0, none⟩)))] (by kernel_rfl) ?_
    refine st (ldR (some 12) 22 (⟨g, 0, none⟩) (.slice A m c) (by kernel_rfl) (by kernel_rfl) (blk_cell hg1 rfl) ?_)
    refine seg 1 [.op [1, 0] 6] [(8, .pointer (some (⟨g, 0, none⟩))), (12, .slice A m c), (13, .slice X n cx)] (by kernel_rfl) ?_
    refine st (appR (some 14) 22 5 1 1 (.int .u8 0) 22 base A X m c n cx (bs l) (bs x) ⟨Try.underlying22, by kernel_rfl⟩ rfl (by decide) (by kernel_rfl) ho hX (by first | (rw [bs_length]; omega) | (simp [bs_length]; omega)) (bs_one _) (by omega) (by decide) (by omega) ?_)
    intro A4 c4 w4 hn4 hx4 hb4 hc4 hz4
    replace hF := hF.trans (Grew.app hx4 hb4)
    replace hg1 := hx4.blk hg1 (fun e => by first | (have := own_ge ho e; omega) | (have := hlt2 _ e; omega))
    rw [← bs_append] at hn4
    refine seg 2 [.op [1, 0] 9] [(14, .slice A4 (m + n) c4), (16, .pointer (some (⟨g, 0, none⟩)))] (by kernel_rfl) ?_
    refine st (stR none 22 g 0 (.slice A4 (m + n) c4) #[.slice A m c, .int .i64 most, .int .i64 (addE most m e0 0 (n : Int))] 95 (by kernel_rfl) (by kernel_rfl) rfl hg1 (by simp) ?_)
    intro w5 hx5 hg5 hz5
    replace hn4 := own_kp hn4 hx5 (fun k hk (e : k = g) => by have h1 := own_ge hn4 hk.symm; first | omega)
    replace hF := hF.blk hx5
    replace hg5 : w5.heap[g]? = some (.cells #[.slice A4 (m + n) c4, .int .i64 most, .int .i64 (addE most m e0 0 (n : Int))] 95 (0, 0)) := hg5
    refine seg 1 [] [] (by kernel_rfl) ?_
    refine endR [] [] (by kernel_rfl) (by kernel_rfl) ?_
    rw [hn, ← hml]
    have ez : (addE most m e0 0 (n : Int)) = 0 := h3
    have ex : addL l ((addE most m e0 0 (n : Int))) (x) = l ++ x := by simp only [addL, ez, if_true]
    rw [ex]
    have el : (l ++ x).length = m + n := by simp only [List.length_append, bs_length, enc_length] at *; omega
    rw [el]
    exact ⟨_, rfl, _, _, rfl, hg5, hn4, hF⟩
  · rw [hb3]
    have h3 : (addE most m e0 0 (n : Int)) ≠ 0 := by simpa using hb3
    refine seg 2 [] [] (by kernel_rfl) ?_
    refine endR [] [] (by kernel_rfl) (by kernel_rfl) ?_
    rw [hn, ← hml]
    have ez : (addE most m e0 0 (n : Int)) ≠ 0 := h3
    have ex : addL l ((addE most m e0 0 (n : Int))) (x) = l := by simp only [addL, ez, if_false]
    rw [ex, ← hml]
    exact ⟨_, rfl, _, _, rfl, hg1, ho, hF⟩

theorem wtext_c (w : World) (g base m c : Nat) (A : Option Addr) {l : List UInt8} (most e0 : Int) (hg : w.heap[g]? = some (.cells #[.slice A m c, .int .i64 most, .int .i64 e0] 95 (0, 0))) (ho : w.ownsRow base 5 1 (.slice A m c) m (bs l)) (hb : g < base ∧ base ≤ w.heap.size) (hm : 0 ≤ most ∧ most ≤ 9223372036854775807) (hl : m ≤ 140737400000000) (X : Option Addr) (n cx : Nat) {lo hi : Nat} {x : List UInt8} (hX : Cs lo hi w X (bs x)) (hn : x.length = n) (hn2 : n ≤ 1000000) (hgl : g < lo ∨ hi ≤ g) (hap : ∀ k, some k = (Value.slice A m c).ownBlock → k < lo ∨ hi ≤ k) :
    Calls Try.prog 34 #[.pointer (some (⟨g, 0, none⟩)), .slice X n cx] w fun e w' => ∃ v, e = .returned v ∧ (∃ A' c', v = .tuple #[] ∧ w'.heap[g]? = some (.cells #[.slice A' (addL l (addE most l.length e0 (if x.length > 65535 then 9 else 0) (x.length + 2)) (enc 2 x.length ++ x)).length c', .int .i64 most, .int .i64 (addE most l.length e0 (if x.length > 65535 then 9 else 0) (x.length + 2))] 95 (0, 0)) ∧ w'.ownsRow base 5 1 (.slice A' (addL l (addE most l.length e0 (if x.length > 65535 then 9 else 0) (x.length + 2)) (enc 2 x.length ++ x)).length c') (addL l (addE most l.length e0 (if x.length > 65535 then 9 else 0) (x.length + 2)) (enc 2 x.length ++ x)).length (bs (addL l (addE most l.length e0 (if x.length > 65535 then 9 else 0) (x.length + 2)) (enc 2 x.length ++ x))) ∧ WrT g w (.slice A m c) w' (.slice A' (addL l (addE most l.length e0 (if x.length > 65535 then 9 else 0) (x.length + 2)) (enc 2 x.length ++ x)).length c')) := by
  refine callsR Try.func34 (by kernel_rfl) (by kernel_rfl) ?_
  have hlt := blk_lt hg
  have hF : WrT g w (.slice A m c) w (.slice A m c) := WrT.refl _ _ _
  have hml : m = l.length := by have := ho.1; rw [bs_length] at this; omega
  refine seg 11 [.co [1, 0, 1], .co [1, 1]] [(0, .pointer (some (⟨g, 0, none⟩))), (1, .slice X n cx), (4, .int .i64 0), (7, .bool (decide ((n : Int) > 65535)))] (by kernel_rfl) ?_
  rcases bsplit (decide ((n : Int) > 65535)) with hb1 | hb1
  · rw [hb1]
    have h1 := of_decide_eq_true hb1
    refine seg 12 [.op [1, 1, 0] 6, .co [1, 1, 1]] [(0, .pointer (some (⟨g, 0, none⟩))), (1, .slice X n cx), (8, .pointer (some (⟨g, 0, none⟩))), (9, .int .i64 9), (13, .int .i64 (IntKind.i64.wrap ((if 65535 < (n : Int) then 65535 else (n : Int)) + 2)))] (by kernel_rfl) ?_
    rw [show IntKind.i64.wrap ((if 65535 < (n : Int) then 65535 else (n : Int)) + 2) = ((if 65535 < (n : Int) then 65535 else (n : Int)) + 2) from w64 (by omega)]
    have hlt3 := own_lt ho
    refine st (callR (some 14) 61 #[.pointer (some (⟨g, 0, none⟩)), .int .i64 9, .int .i64 ((if 65535 < (n : Int) then 65535 else (n : Int)) + 2)] Try.call61 (right_c w g A m c most e0 9 ((if 65535 < (n : Int) then 65535 else (n : Int)) + 2) hg (by omega) (by omega) (by omega)) (by kernel_rfl) ?_)
    rintro _ w2 ⟨rfl, hx2, hg2⟩
    have hz2 := hx2.size
    replace hX := hX.kp hx2 (fun k (hk : k = g) => by omega)
    replace ho := own_kp ho hx2 (fun k hk (e : k = g) => by have h1 := own_ge ho hk.symm; first | omega | (have h2 := hlt3 k hk.symm; omega))
    replace hF := hF.blk hx2
    refine seg 1 [.co [1, 1, 1]] [(0, .pointer (some (⟨g, 0, none⟩))), (1, .slice X n cx), (14, .bool ((addE most m e0 9 ((if 65535 < (n : Int) then 65535 else (n : Int)) + 2)) == 0))] (by kernel_rfl) ?_
    rw [show ((addE most m e0 9 ((if 65535 < (n : Int) then 65535 else (n : Int)) + 2)) == 0) = false from by simpa using addE_bad (by decide)]
    refine seg 2 [] [] (by kernel_rfl) ?_
    refine endR [] [] (by kernel_rfl) (by kernel_rfl) ?_
    rw [hn, ← hml]
    rw [if_pos (show n > 65535 by omega)]
    have eb : addE most m e0 9 ((n : Int) + 2) = addE most m e0 9 ((if 65535 < (n : Int) then 65535 else (n : Int)) + 2) := by simp [addE]
    rw [eb]
    have ez : (addE most m e0 9 ((if 65535 < (n : Int) then 65535 else (n : Int)) + 2)) ≠ 0 := addE_bad (by decide)
    have ex : addL l ((addE most m e0 9 ((if 65535 < (n : Int) then 65535 else (n : Int)) + 2))) ((enc 2 n ++ x)) = l := by simp only [addL, ez, if_false]
    rw [ex, ← hml]
    exact ⟨_, rfl, _, _, rfl, hg2, ho, hF⟩
  · rw [hb1]
    have h1 := of_decide_eq_false hb1
    refine seg 10 [.op [1, 1, 0] 6, .co [1, 1, 1]] [(0, .pointer (some (⟨g, 0, none⟩))), (1, .slice X n cx), (8, .pointer (some (⟨g, 0, none⟩))), (9, .int .i64 0), (13, .int .i64 (IntKind.i64.wrap ((if 65535 < (n : Int) then 65535 else (n : Int)) + 2)))] (by kernel_rfl) ?_
    rw [show IntKind.i64.wrap ((if 65535 < (n : Int) then 65535 else (n : Int)) + 2) = ((if 65535 < (n : Int) then 65535 else (n : Int)) + 2) from w64 (by omega)]
    have hlt5 := own_lt ho
    refine st (callR (some 14) 61 #[.pointer (some (⟨g, 0, none⟩)), .int .i64 0, .int .i64 ((if 65535 < (n : Int) then 65535 else (n : Int)) + 2)] Try.call61 (right_c w g A m c most e0 0 ((if 65535 < (n : Int) then 65535 else (n : Int)) + 2) hg (by omega) (by omega) (by omega)) (by kernel_rfl) ?_)
    rintro _ w4 ⟨rfl, hx4, hg4⟩
    have hz4 := hx4.size
    replace hX := hX.kp hx4 (fun k (hk : k = g) => by omega)
    replace ho := own_kp ho hx4 (fun k hk (e : k = g) => by have h1 := own_ge ho hk.symm; first | omega | (have h2 := hlt5 k hk.symm; omega))
    replace hF := hF.blk hx4
    refine seg 1 [.co [1, 1, 1]] [(0, .pointer (some (⟨g, 0, none⟩))), (1, .slice X n cx), (14, .bool ((addE most m e0 0 ((if 65535 < (n : Int) then 65535 else (n : Int)) + 2)) == 0))] (by kernel_rfl) ?_
    rcases bsplit ((addE most m e0 0 ((if 65535 < (n : Int) then 65535 else (n : Int)) + 2)) == 0) with hb6 | hb6
    · rw [hb6]
      have h6 : (addE most m e0 0 ((if 65535 < (n : Int) then 65535 else (n : Int)) + 2)) = 0 := by simpa using hb6
      refine seg 6 [.op [1, 1, 1, 0] 4] [(1, .slice X n cx), (15, .pointer (some (⟨g, 0, none⟩))), (18, .pointer (some (⟨g, 0, none⟩)))] (by kernel_rfl) ?_
      refine st (ldR (some 19) 22 (⟨g, 0, none⟩) (.slice A m c) (by kernel_rfl) (by kernel_rfl) (blk_cell hg4 rfl) ?_)
      refine seg 3 [.op [1, 1, 1, 0] 8] [(1, .slice X n cx), (15, .pointer (some (⟨g, 0, none⟩))), (19, .slice A m c), (22, .int .u64 (IntKind.u64.wrap (n : Int)))] (by kernel_rfl) ?_
      rw [show IntKind.u64.wrap (n : Int) = (n : Int) from wu64 (by omega)]
      have hlt8 := own_lt ho
      refine st (callR (some 23) 57 #[.slice A m c, .int .u64 (n : Int), .int .i64 2] Try.call57 (store_c w4 A m c n 2 base ho (by omega) (by omega) (by omega) (by omega)) (by kernel_rfl) ?_)
      rintro _ w7 ⟨A7, c7, rfl, hn7, hG7⟩
      have hz7 := hG7.kp.size
      replace hX := hX.kp hG7.kp (fun k hk => hap k hk)
      replace hg4 := hG7.kp.blk hg4 (fun e => by first | (have := own_ge ho e; omega) | (have := hlt5 _ e; omega) | (have := hlt8 _ e; omega))
      replace hF := hF.trans hG7
      refine seg 1 [.op [1, 1, 1, 0] 10] [(15, .pointer (some (⟨g, 0, none⟩))), (23, .slice A7 (m + 2) c7), (24, .slice X n cx)] (by kernel_rfl) ?_
      refine st (appR (some 25) 22 5 1 1 (.int .u8 0) 22 base A7 X (m + 2) c7 n cx (bs (l ++ enc 2 n)) (bs x) ⟨Try.underlying22, by kernel_rfl⟩ rfl (by decide) (by kernel_rfl) hn7 hX (by first | (rw [bs_length]; omega) | (simp [bs_length]; omega)) (bs_one _) (by omega) (by decide) (by omega) ?_)
      intro A9 c9 w9 hn9 hx9 hb9 hc9 hz9
      replace hF := hF.trans (Grew.app hx9 hb9)
      replace hg4 := hx9.blk hg4 (fun e => by first | (have := own_ge hn7 e; omega))
      rw [← bs_append] at hn9
      refine seg 2 [.op [1, 1, 1, 0] 13] [(25, .slice A9 (m + 2 + n) c9), (27, .pointer (some (⟨g, 0, none⟩)))] (by kernel_rfl) ?_
      refine st (stR none 22 g 0 (.slice A9 (m + 2 + n) c9) #[.slice A m c, .int .i64 most, .int .i64 (addE most m e0 0 ((if 65535 < (n : Int) then 65535 else (n : Int)) + 2))] 95 (by kernel_rfl) (by kernel_rfl) rfl hg4 (by simp) ?_)
      intro w10 hx10 hg10 hz10
      replace hn9 := own_kp hn9 hx10 (fun k hk (e : k = g) => by have h1 := own_ge hn9 hk.symm; first | omega)
      replace hF := hF.blk hx10
      replace hg10 : w10.heap[g]? = some (.cells #[.slice A9 (m + 2 + n) c9, .int .i64 most, .int .i64 (addE most m e0 0 ((if 65535 < (n : Int) then 65535 else (n : Int)) + 2))] 95 (0, 0)) := hg10
      refine seg 1 [] [] (by kernel_rfl) ?_
      refine endR [] [] (by kernel_rfl) (by kernel_rfl) ?_
      rw [hn, ← hml]
      rw [if_neg (show ¬ n > 65535 by omega)]
      rw [show ((n : Int) + 2) = ((if 65535 < (n : Int) then 65535 else (n : Int)) + 2) from by first | rfl | (split <;> omega) | omega]
      have ez : (addE most m e0 0 ((if 65535 < (n : Int) then 65535 else (n : Int)) + 2)) = 0 := h6
      have ex : addL l ((addE most m e0 0 ((if 65535 < (n : Int) then 65535 else (n : Int)) + 2))) ((enc 2 n ++ x)) = l ++ (enc 2 n ++ x) := by simp only [addL, ez, if_true]
      rw [ex]
      have el : (l ++ (enc 2 n ++ x)).length = m + 2 + n := by simp only [List.length_append, bs_length, enc_length] at *; omega
      rw [el]
      exact ⟨_, rfl, _, _, rfl, hg10, (by rw [← List.append_assoc]; exact hn9), hF⟩
    · rw [hb6]
      have h6 : (addE most m e0 0 ((if 65535 < (n : Int) then 65535 else (n : Int)) + 2)) ≠ 0 := by simpa using hb6
      refine seg 2 [] [] (by kernel_rfl) ?_
      refine endR [] [] (by kernel_rfl) (by kernel_rfl) ?_
      rw [hn, ← hml]
      rw [if_neg (show ¬ n > 65535 by omega)]
      rw [show ((n : Int) + 2) = ((if 65535 < (n : Int) then 65535 else (n : Int)) + 2) from by first | rfl | (split <;> omega) | omega]
      have ez : (addE most m e0 0 ((if 65535 < (n : Int) then 65535 else (n : Int)) + 2)) ≠ 0 := h6
      have ex : addL l ((addE most m e0 0 ((if 65535 < (n : Int) then 65535 else (n : Int)) + 2))) ((enc 2 n ++ x)) = l := by simp only [addL, ez, if_false]
      rw [ex, ← hml]
      exact ⟨_, rfl, _, _, rfl, hg4, ho, hF⟩

theorem wdone_c (w : World) (g : Nat) (A : Option Addr) (m c : Nat) (most e0 : Int) (hg : w.heap[g]? = some (.cells #[.slice A m c, .int .i64 most, .int .i64 e0] 95 (0, 0))) {lo hi : Nat} {l : List UInt8} (h : Cs lo hi w A (bs l)) (hml : l.length = m) (hl : m ≤ 140737400000000) :
    Calls Try.prog 35 #[.pointer (some (⟨g, 0, none⟩))] w fun e w' => ∃ v, e = .returned v ∧ (∃ A' c', v = .tuple #[.slice A' (doneL l e0).length c', .int .i64 e0] ∧ Ex w w' ∧ w'.ownsRow w.heap.size 5 1 (.slice A' (doneL l e0).length c') (doneL l e0).length (bs (doneL l e0))) := by
  refine callsR Try.func35 (by kernel_rfl) (by kernel_rfl) ?_
  replace h := h.old
  have hlt := blk_lt hg
  have hF : Ex w w := Kp.refl _ _
  refine seg 19 [.op [1, 0, 0, 1, 1, 0] 3, .co [1, 0, 0, 1, 1, 1], .bl 0, .co [1, 1]] [(0, .pointer (some (⟨g, 0, none⟩))), (10, .pointer (some (⟨g, 2, none⟩)))] (by kernel_rfl) ?_
  refine st (ldR (some 11) 25 (⟨g, 2, none⟩) (.int .i64 e0) (by kernel_rfl) (by kernel_rfl) (blk_cell hg rfl) ?_)
  refine seg 3 [.co [1, 0, 0, 1, 1, 1], .bl 0, .co [1, 1]] [(0, .pointer (some (⟨g, 0, none⟩))), (7, .bool (e0 != 0))] (by kernel_rfl) ?_
  rcases bsplit (e0 != 0) with hb1 | hb1
  · rw [hb1]
    have h1 : e0 ≠ 0 := by simpa using hb1
    refine seg 2 [.co [1, 0, 0, 1, 1, 1, 0, 0], .co [1, 0, 0, 1, 1, 1, 0, 1], .bl 0, .co [1, 1]] [(0, .pointer (some (⟨g, 0, none⟩)))] (by kernel_rfl) ?_
    refine drawT (fun _ => False) (by kernel_rfl) (by kernel_rfl) ?_
    intro w2 hx2 hz2
    have h_2 := h
    have hg_2 := hg
    replace h_2 := h_2.ex hx2
    replace hg_2 := hx2.blk hg_2 (fun e => e)
    replace hF := hF.ex hx2
    have hS2 := Kp.refl (fun _ => False) w2
    refine segD [0, 1, 2, 4] [0, 1, 2, 4] [(2, .slice none 0 0), (15, .pointer (some (⟨g, 2, none⟩)))] (by kernel_rfl) ?_
    refine stD (i := 3) (by kernel_rfl) hS2 (ldR (some 16) 25 (⟨g, 2, none⟩) (.int .i64 e0) (by kernel_rfl) (by kernel_rfl) (blk_cell hg_2 rfl) ?_)
    refine segD [5] [0, 1, 2, 4, 3, 5] [(2, .slice none 0 0), (3, .int .i64 e0)] (by kernel_rfl) ?_
    refine endD (by kernel_rfl) hS2 ?_
    refine retR [2, 3] [.slice none 0 0, .int .i64 e0] (by kernel_rfl) (by kernel_rfl) (by kernel_rfl) ?_
    have ed : doneL l e0 = [] := by simp [doneL, h1]
    rw [ed]
    exact ⟨_, rfl, none, 0, rfl, hF, World.ownsRow_nil _ _ _ _⟩
  · rw [hb1]
    have h1 : e0 = 0 := by simpa using hb1
    refine seg 8 [.op [1, 1, 0] 3, .co [1, 1, 1]] [(19, .pointer (some (⟨g, 0, none⟩)))] (by kernel_rfl) ?_
    refine st (ldR (some 20) 22 (⟨g, 0, none⟩) (.slice A m c) (by kernel_rfl) (by kernel_rfl) (blk_cell hg rfl) ?_)
    have hll3 : l.length = m := (by first | omega | (simp; omega))
    refine st (callR (some 21) 58 #[.slice A m c] Try.call58 (copied_c w A m c h hll3 (by omega)) (by kernel_rfl) ?_)
    rintro _ w3 ⟨A3, c3, rfl, hx3, hn3⟩
    have hz3 := hx3.size
    have hc3 := own_cap hn3
    replace hF := hF.ex hx3
    refine seg 3 [.co [1, 1, 1]] [(2, .slice A3 m c3), (3, .int .i64 0)] (by kernel_rfl) ?_
    refine retR [2, 3] [.slice A3 m c3, .int .i64 0] (by kernel_rfl) (by kernel_rfl) (by kernel_rfl) ?_
    have ed : doneL l e0 = l := by simp [doneL, h1]
    rw [ed, hml]
    obtain rfl : e0 = 0 := h1
    exact ⟨_, rfl, _, _, rfl, hF, hn3⟩

theorem wlen_c (w : World) (g : Nat) (A : Option Addr) (m c : Nat) (most e0 : Int) (hg : w.heap[g]? = some (.cells #[.slice A m c, .int .i64 most, .int .i64 e0] 95 (0, 0))) :
    Calls Try.prog 36 #[.pointer (some (⟨g, 0, none⟩))] w fun e w' => ∃ v, e = .returned v ∧ (v = .int .i64 m ∧ w = w') := by
  refine callsR Try.func36 (by kernel_rfl) (by kernel_rfl) ?_
  refine seg 17 [.op [1, 1, 0] 3, .co [1, 1, 1]] [(7, .pointer (some (⟨g, 0, none⟩)))] (by kernel_rfl) ?_
  refine st (ldR (some 8) 22 (⟨g, 0, none⟩) (.slice A m c) (by kernel_rfl) (by kernel_rfl) (blk_cell hg rfl) ?_)
  refine seg 3 [.co [1, 1, 1]] [(2, .int .i64 (m : Int))] (by kernel_rfl) ?_
  refine retR [2] [.int .i64 (m : Int)] (by kernel_rfl) (by kernel_rfl) (by kernel_rfl) ?_
  exact ⟨_, rfl, rfl, rfl⟩

theorem wnew_c (w : World) (most : Int) (hm : -9223372036854775808 ≤ most ∧ most ≤ 9223372036854775807) :
    Calls Try.prog 30 #[.int .i64 most] w fun e w' => ∃ v, e = .returned v ∧ (∃ g, v = .pointer (some ⟨g, 0, none⟩) ∧ Ex w w' ∧ w.heap.size = g ∧ w'.heap.size = g + 1 ∧ w'.heap[g]? = some (.cells #[.slice none 0 0, .int .i64 (max most 0), .int .i64 0] 95 (0, 0))) := by
  refine callsR Try.func30 (by kernel_rfl) (by kernel_rfl) ?_
  have hF : Ex w w := Kp.refl _ _
  refine seg 9 [.op [1, 0] 3, .co [1, 1]] [(5, .agg #[.slice none 0 0, .int .i64 (if 0 > most then 0 else most), .int .i64 0])] (by kernel_rfl) ?_
  refine st (newR (some 6) (fun g => .pointer (some ⟨g, 0, none⟩)) (.cells #[.slice none 0 0, .int .i64 (if 0 > most then 0 else most), .int .i64 0] 95) (by kernel_rfl) ?_)
  intro g1 w1 hgs1 hx1 hg1 hz1
  replace hF := hF.ex hx1
  refine seg 2 [.co [1, 1]] [(2, .pointer (some (⟨g1, 0, none⟩)))] (by kernel_rfl) ?_
  refine retR [2] [.pointer (some (⟨g1, 0, none⟩))] (by kernel_rfl) (by kernel_rfl) (by kernel_rfl) ?_
  have em : (if 0 > most then 0 else most) = max most 0 := by split <;> omega
  have hgx := hg1
  rw [em] at hgx
  exact ⟨_, rfl, _, rfl, hF, hgs1, hz1, hgx⟩

theorem rtake_c (w : World) (g : Nat) (A : Option Addr) (m c : Nat) {lo hi : Nat} {l : List UInt8} (h : Cs lo hi w A (bs l)) (hml : l.length = m) (hmc : m ≤ c) (a e0 : Int) (hg : w.heap[g]? = some (.cells #[.slice A m c, .int .i64 a, .int .i64 e0] 98 (0, 0))) (hl : m ≤ 140737400000000) (hgl : g < lo ∨ hi ≤ g) (n : Int) (ha : 0 ≤ a ∧ a ≤ m) (hn : -9223372036854775808 ≤ n ∧ n ≤ 9223372036854775807) :
    Calls Try.prog 62 #[.pointer (some (⟨g, 0, none⟩)), .int .i64 n] w fun e w' => ∃ v, e = .returned v ∧ (∃ A' c', v = .slice A' (takeL l a n (takeE m a e0 n)).length c' ∧ Cs lo hi w' A' (bs (takeL l a n (takeE m a e0 n))) ∧ (takeL l a n (takeE m a e0 n)).length ≤ c' ∧ Kp (fun k => k = g) w w' ∧ w'.heap[g]? = some (.cells #[.slice A m c, .int .i64 (takeA a n (takeE m a e0 n)), .int .i64 (takeE m a e0 n)] 98 (0, 0))) := by
  refine callsR Try.func62 (by kernel_rfl) (by kernel_rfl) ?_
  have hlt := blk_lt hg
  have hF : Kp (fun k => k = g) w w := Kp.refl _ _
  refine seg 13 [.op [1, 0, 0] 6, .co [1, 0, 1], .co [1, 1]] [(0, .pointer (some (⟨g, 0, none⟩))), (1, .int .i64 n), (7, .bool false), (10, .pointer (some (⟨g, 2, none⟩)))] (by kernel_rfl) ?_
  refine st (ldR (some 11) 25 (⟨g, 2, none⟩) (.int .i64 e0) (by kernel_rfl) (by kernel_rfl) (blk_cell hg rfl) ?_)
  refine seg 3 [.co [1, 0, 1], .co [1, 1]] [(0, .pointer (some (⟨g, 0, none⟩))), (1, .int .i64 n), (13, .bool (e0 != 0))] (by kernel_rfl) ?_
  rcases bsplit (e0 != 0) with hb1 | hb1
  · rw [hb1]
    have h1 : e0 ≠ 0 := by simpa using hb1
    refine seg 5 [.co [1, 0, 1, 0, 1], .co [1, 1]] [(4, .slice none 0 0)] (by kernel_rfl) ?_
    refine retR [4] [.slice none 0 0] (by kernel_rfl) (by kernel_rfl) (by kernel_rfl) ?_
    have ee : takeE m a e0 n = e0 := by simp [takeE, h1]
    rw [ee]
    have ez : (e0 : Int) ≠ 0 := by first | assumption | decide
    have et : takeL l a n e0 = [] := by simp only [takeL, ez, if_false]
    have eu : takeA a n e0 = a := by simp only [takeA, ez, if_false]
    rw [et, eu]
    exact ⟨_, rfl, none, 0, rfl, Cs.nil _ _ _ _, Nat.le_refl _, hF, hg⟩
  · rw [hb1]
    have h1 : e0 = 0 := by simpa using hb1
    refine seg 10 [.co [1, 1, 0, 0, 1], .bl 0, .co [1, 1, 1]] [(0, .pointer (some (⟨g, 0, none⟩))), (1, .int .i64 n), (14, .bool (decide (n < 0)))] (by kernel_rfl) ?_
    rcases bsplit (decide (n < 0)) with hb2 | hb2
    · rw [hb2]
      have h2 := of_decide_eq_true hb2
      refine seg 6 [.op [1, 1, 0, 0, 1, 0, 0] 3, .co [1, 1, 0, 0, 1, 0, 1], .bl 0, .co [1, 1, 1]] [(19, .pointer (some (⟨g, 2, none⟩)))] (by kernel_rfl) ?_
      refine st (stR none 25 g 2 (.int .i64 1) #[.slice A m c, .int .i64 a, .int .i64 e0] 98 (by kernel_rfl) (by kernel_rfl) rfl hg (by simp) ?_)
      intro w3 hx3 hg3 hz3
      replace h := h.kp hx3 (fun k (hk : k = g) => by omega)
      replace hF := hF.step hx3 (fun k hk hlt => hk)
      replace hg3 : w3.heap[g]? = some (.cells #[.slice A m c, .int .i64 a, .int .i64 1] 98 (0, 0)) := hg3
      refine seg 5 [.co [1, 1, 0, 0, 1, 0, 1, 1], .bl 0, .co [1, 1, 1]] [(4, .slice none 0 0)] (by kernel_rfl) ?_
      refine retR [4] [.slice none 0 0] (by kernel_rfl) (by kernel_rfl) (by kernel_rfl) ?_
      have ee : takeE m a e0 n = 1 := by simp [takeE, h1, h2]
      rw [ee]
      have ez : (1 : Int) ≠ 0 := by first | assumption | decide
      have et : takeL l a n 1 = [] := by simp only [takeL, ez, if_false]
      have eu : takeA a n 1 = a := by simp only [takeA, ez, if_false]
      rw [et, eu]
      exact ⟨_, rfl, none, 0, rfl, Cs.nil _ _ _ _, Nat.le_refl _, hF, hg3⟩
    · rw [hb2]
      have h2 := of_decide_eq_false hb2
      refine seg 2 [.co [1, 1, 0, 0, 1, 1, 0], .co [1, 1, 0, 0, 1, 1, 1], .bl 0, .co [1, 1, 1]] [(0, .pointer (some (⟨g, 0, none⟩))), (1, .int .i64 n)] (by kernel_rfl) ?_
      refine drawT (fun _ => False) (by kernel_rfl) (by kernel_rfl) ?_
      intro w4 hx4 hz4
      have h_4 := h
      have hg_4 := hg
      replace h_4 := h_4.ex hx4
      replace hg_4 := hx4.blk hg_4 (fun e => e)
      replace hF := hF.ex hx4
      have hS4 := Kp.refl (fun _ => False) w4
      refine segD [0, 1, 2, 4, 5, 6, 8] [0, 1, 2, 4, 5, 6, 8] [(0, .pointer (some (⟨g, 0, none⟩))), (1, .int .i64 n), (23, .pointer (some (⟨g, 0, none⟩))), (27, .pointer (some (⟨g, 1, none⟩))), (29, .int .i64 n)] (by kernel_rfl) ?_
      refine takeD (i := 3) (d := (some 24)) (s := vS (Instr.loadAt 22 (.pointer (some (⟨g, 0, none⟩))))) (v := .slice A m c) (by kernel_rfl) (by kernel_rfl) (fun w' hw' => ld_run _ _ _ (by kernel_rfl) (hw'.cell (blk_cell hg_4 rfl) (fun e => e))) ?_
      refine stD (i := 7) (by kernel_rfl) hS4 (ldR (some 28) 3 (⟨g, 1, none⟩) (.int .i64 a) (by kernel_rfl) (by kernel_rfl) (blk_cell hg_4 rfl) ?_)
      refine stD (i := 9) (by kernel_rfl) hS4 (callR (some 30) 53 #[.slice A m c, .int .i64 a, .int .i64 n] Try.call53 (within_c w4 A m c a n (by omega) (by omega) (by omega)) (by kernel_rfl) ?_)
      rintro _ _ ⟨rfl, rfl⟩
      refine segD [10, 11] [0, 1, 2, 4, 5, 6, 8, 3, 7, 9, 10, 11] [(0, .pointer (some (⟨g, 0, none⟩))), (1, .int .i64 n), (20, .bool (!(withinB m a n)))] (by kernel_rfl) ?_
      refine endD (by kernel_rfl) hS4 ?_
      rcases bsplit (withinB m a n) with hb5 | hb5
      · rw [hb5]
        have h5 := within_of hb5
        refine seg 8 [.op [1, 1, 1, 0] 3, .co [1, 1, 1, 1]] [(0, .pointer (some (⟨g, 0, none⟩))), (1, .int .i64 n), (35, .pointer (some (⟨g, 0, none⟩))), (37, .pointer (some (⟨g, 1, none⟩)))] (by kernel_rfl) ?_
        refine st (ldR (some 38) 3 (⟨g, 1, none⟩) (.int .i64 a) (by kernel_rfl) (by kernel_rfl) (blk_cell hg_4 rfl) ?_)
        refine seg 4 [.op [1, 1, 1, 0] 8, .co [1, 1, 1, 1]] [(0, .pointer (some (⟨g, 0, none⟩))), (1, .int .i64 n), (40, .int .i64 (IntKind.i64.wrap (a + n))), (42, .pointer (some (⟨g, 1, none⟩)))] (by kernel_rfl) ?_
        rw [show IntKind.i64.wrap (a + n) = (a + n) from w64 (by omega)]
        refine st (stR none 3 g 1 (.int .i64 (a + n)) #[.slice A m c, .int .i64 a, .int .i64 e0] 98 (by kernel_rfl) (by kernel_rfl) rfl hg_4 (by simp) ?_)
        intro w6 hx6 hg6 hz6
        replace h_4 := h_4.kp hx6 (fun k (hk : k = g) => by omega)
        replace hF := hF.step hx6 (fun k hk hlt => hk)
        replace hg6 : w6.heap[g]? = some (.cells #[.slice A m c, .int .i64 (a + n), .int .i64 e0] 98 (0, 0)) := hg6
        refine seg 2 [.co [1, 1, 1, 1, 0], .co [1, 1, 1, 1, 1]] [(0, .pointer (some (⟨g, 0, none⟩))), (1, .int .i64 n)] (by kernel_rfl) ?_
        refine drawT (fun _ => False) (by kernel_rfl) (by kernel_rfl) ?_
        intro w7 hx7 hz7
        have h_7 := h_4
        have hg6_7 := hg6
        replace h_7 := h_7.ex hx7
        replace hg6_7 := hx7.blk hg6_7 (fun e => e)
        replace hF := hF.ex hx7
        have hS7 := Kp.refl (fun _ => False) w7
        refine segD [0, 1, 2, 4, 5, 6, 8, 10, 11, 12] [0, 1, 2, 4, 5, 6, 8, 10, 11, 12] [(45, .pointer (some (⟨g, 0, none⟩))), (49, .pointer (some (⟨g, 1, none⟩))), (51, .int .i64 n), (55, .pointer (some (⟨g, 1, none⟩)))] (by kernel_rfl) ?_
        refine takeD (i := 3) (d := (some 46)) (s := vS (Instr.loadAt 22 (.pointer (some (⟨g, 0, none⟩))))) (v := .slice A m c) (by kernel_rfl) (by kernel_rfl) (fun w' hw' => ld_run _ _ _ (by kernel_rfl) (hw'.cell (blk_cell hg6_7 rfl) (fun e => e))) ?_
        refine takeD (i := 7) (d := (some 50)) (s := vS (Instr.loadAt 3 (.pointer (some (⟨g, 1, none⟩))))) (v := .int .i64 (a + n)) (by kernel_rfl) (by kernel_rfl) (fun w' hw' => ld_run _ _ _ (by kernel_rfl) (hw'.cell (blk_cell hg6_7 rfl) (fun e => e))) ?_
        refine segD [9] [0, 1, 2, 4, 5, 6, 8, 10, 11, 12, 3, 7, 9] [(46, .slice A m c), (52, .int .i64 (IntKind.i64.wrap ((a + n) - n))), (55, .pointer (some (⟨g, 1, none⟩)))] (by kernel_rfl) ?_
        rw [show IntKind.i64.wrap ((a + n) - n) = ((a + n) - n) from w64 (by omega)]
        refine stD (i := 13) (by kernel_rfl) hS7 (ldR (some 56) 3 (⟨g, 1, none⟩) (.int .i64 (a + n)) (by kernel_rfl) (by kernel_rfl) (blk_cell hg6_7 rfl) ?_)
        refine stD (i := 14) (by kernel_rfl) hS7 (sliR (some 57) 22 5 1 A m c (some (.int .i64 ((a + n) - n))) (some (.int .i64 (a + n))) ((((a + n) - n)).toNat) (((a + n)).toNat) (by kernel_rfl) (by kernel_rfl) (.inr ⟨_, _, rfl, by omega⟩) (.inr ⟨_, _, rfl, by omega⟩) (by omega) (by omega) ?_)
        intro A8 hA8 hB8 hC8
        have hs8 := (hA8 _ _ _ _ h_7 (by rw [bs_length]; omega)).take (((a + n)).toNat - (((a + n) - n)).toNat)
        rw [show ((((a + n) - n)).toNat) * 1 = (((a + n) - n)).toNat from by omega, ← bs_drop, ← bs_take] at hs8
        refine segD [15] [0, 1, 2, 4, 5, 6, 8, 10, 11, 12, 3, 7, 9, 13, 14, 15] [(4, .slice A8 (((a + n)).toNat - (((a + n) - n)).toNat) (c - (((a + n) - n)).toNat))] (by kernel_rfl) ?_
        refine endD (by kernel_rfl) hS7 ?_
        refine retR [4] [.slice A8 (((a + n)).toNat - (((a + n) - n)).toNat) (c - (((a + n) - n)).toNat)] (by kernel_rfl) (by kernel_rfl) (by kernel_rfl) ?_
        have ee : takeE m a e0 n = e0 := by simp [takeE, h1, h2, hb5]
        rw [ee]
        obtain rfl : e0 = 0 := h1
        have t1 : (a + n - n).toNat = a.toNat := by omega
        have t2 : (a + n).toNat - a.toNat = n.toNat := by omega
        rw [t1, t2] at hs8
        have et : takeL l a n 0 = (l.drop a.toNat).take n.toNat := by simp [takeL]
        have eu : takeA a n 0 = a + n := by simp [takeA]
        rw [et, eu]
        have el : ((l.drop a.toNat).take n.toNat).length = n.toNat := by simp; omega
        rw [el]
        refine ⟨_, rfl, A8, (c - (((a + n) - n)).toNat), ?_, hs8, ?_, hF, hg6_7⟩
        · rw [packV, t1, t2]
        · omega
      · rw [hb5]
        refine seg 6 [.op [1, 1, 0, 0, 1, 1, 1, 0, 0] 3, .co [1, 1, 0, 0, 1, 1, 1, 0, 1], .bl 0, .co [1, 1, 1]] [(34, .pointer (some (⟨g, 2, none⟩)))] (by kernel_rfl) ?_
        refine st (stR none 25 g 2 (.int .i64 6) #[.slice A m c, .int .i64 a, .int .i64 e0] 98 (by kernel_rfl) (by kernel_rfl) rfl hg_4 (by simp) ?_)
        intro w9 hx9 hg9 hz9
        replace h_4 := h_4.kp hx9 (fun k (hk : k = g) => by omega)
        replace hF := hF.step hx9 (fun k hk hlt => hk)
        replace hg9 : w9.heap[g]? = some (.cells #[.slice A m c, .int .i64 a, .int .i64 6] 98 (0, 0)) := hg9
        refine seg 5 [.co [1, 1, 0, 0, 1, 1, 1, 0, 1, 1], .bl 0, .co [1, 1, 1]] [(4, .slice none 0 0)] (by kernel_rfl) ?_
        refine retR [4] [.slice none 0 0] (by kernel_rfl) (by kernel_rfl) (by kernel_rfl) ?_
        have ee : takeE m a e0 n = 6 := by simp [takeE, h1, h2, hb5]
        rw [ee]
        have ez : (6 : Int) ≠ 0 := by first | assumption | decide
        have et : takeL l a n 6 = [] := by simp only [takeL, ez, if_false]
        have eu : takeA a n 6 = a := by simp only [takeA, ez, if_false]
        rw [et, eu]
        exact ⟨_, rfl, none, 0, rfl, Cs.nil _ _ _ _, Nat.le_refl _, hF, hg9⟩

theorem rnum_c (w : World) (g : Nat) (A : Option Addr) (m c : Nat) {lo hi : Nat} {l : List UInt8} (h : Cs lo hi w A (bs l)) (hml : l.length = m) (hmc : m ≤ c) (a e0 : Int) (hg : w.heap[g]? = some (.cells #[.slice A m c, .int .i64 a, .int .i64 e0] 98 (0, 0))) (hl : m ≤ 140737400000000) (hgl : g < lo ∨ hi ≤ g) (n : Int) (ha : 0 ≤ a ∧ a ≤ m) (hn : -9223372036854775808 ≤ n ∧ n ≤ 9223372036854775807) :
    Calls Try.prog 39 #[.pointer (some (⟨g, 0, none⟩)), .int .i64 n] w fun e w' => ∃ v, e = .returned v ∧ (v = .int .u64 ((le (takeL l a (numW n) (takeE m a e0 (numW n))) : Nat) : Int) ∧ Kp (fun k => k = g) w w' ∧ w'.heap[g]? = some (.cells #[.slice A m c, .int .i64 (takeA a (numW n) (takeE m a e0 (numW n))), .int .i64 (takeE m a e0 (numW n))] 98 (0, 0))) := by
  refine callsR Try.func39 (by kernel_rfl) (by kernel_rfl) ?_
  have hlt := blk_lt hg
  have hF : Kp (fun k => k = g) w w := Kp.refl _ _
  refine seg 8 [.op [1, 0, 0] 1, .co [1, 0, 1], .co [1, 1]] [(0, .pointer (some (⟨g, 0, none⟩))), (1, .int .i64 n), (5, .int .i64 n)] (by kernel_rfl) ?_
  refine st (callR (some 6) 52 #[.int .i64 n] Try.call52 (wide_c w n) (by kernel_rfl) ?_)
  rintro _ _ ⟨rfl, rfl⟩
  refine seg 2 [.co [1, 0, 1], .co [1, 1]] [(0, .pointer (some (⟨g, 0, none⟩))), (1, .int .i64 n), (7, .bool (!(wideB n)))] (by kernel_rfl) ?_
  rcases bsplit (wideB n) with hb1 | hb1
  · rw [hb1]
    have h1 := wide_of hb1
    refine seg 6 [.op [1, 1, 0] 2, .co [1, 1, 1]] [(8, .pointer (some (⟨g, 0, none⟩))), (9, .int .i64 n)] (by kernel_rfl) ?_
    have hll2 : (l).length = m := (by first | rfl | omega | (simp; omega))
    refine st (callR (some 10) 62 #[.pointer (some (⟨g, 0, none⟩)), .int .i64 n] Try.call62 (rtake_c w g A m c h hll2 (by omega) a e0 hg (by omega) (by omega) n (by omega) (by omega)) (by kernel_rfl) ?_)
    rintro _ w2 ⟨A2, c2, rfl, hs2, hc2, hx2, hg2⟩
    have hz2 := hx2.size
    have hlk2 := takeL_le l a n (takeE m a e0 n)
    have hlm2 := takeL_len l a n (takeE m a e0 n)
    replace h := h.kp hx2 (fun k (hk : k = g) => by omega)
    replace hF := hF.step hx2 (fun k hk hlt => hk)
    have hll3 : (takeL l a n (takeE m a e0 n)).length = (takeL l a n (takeE m a e0 n)).length := rfl
    refine st (callR (some 11) 54 #[.slice A2 ((takeL l a n (takeE m a e0 n)).length) c2] Try.call54 (load_c w2 A2 ((takeL l a n (takeE m a e0 n)).length) c2 hs2 hll3 (by omega)) (by kernel_rfl) ?_)
    rintro _ _ ⟨rfl, rfl⟩
    refine seg 2 [.co [1, 1, 1]] [(4, .int .u64 (le (takeL l a n (takeE m a e0 n)) : Int))] (by kernel_rfl) ?_
    refine retR [4] [.int .u64 (le (takeL l a n (takeE m a e0 n)) : Int)] (by kernel_rfl) (by kernel_rfl) (by kernel_rfl) ?_
    have en : numW n = n := by simp [numW, hb1]
    rw [en]
    exact ⟨_, rfl, rfl, hF, hg2⟩
  · rw [hb1]
    refine seg 8 [.op [1, 1, 0] 2, .co [1, 1, 1]] [(8, .pointer (some (⟨g, 0, none⟩))), (9, .int .i64 (-1))] (by kernel_rfl) ?_
    have hll4 : (l).length = m := (by first | rfl | omega | (simp; omega))
    refine st (callR (some 10) 62 #[.pointer (some (⟨g, 0, none⟩)), .int .i64 (-1)] Try.call62 (rtake_c w g A m c h hll4 (by omega) a e0 hg (by omega) (by omega) (-1) (by omega) (by omega)) (by kernel_rfl) ?_)
    rintro _ w4 ⟨A4, c4, rfl, hs4, hc4, hx4, hg4⟩
    have hz4 := hx4.size
    have hlk4 := takeL_le l a (-1) (takeE m a e0 (-1))
    have hlm4 := takeL_len l a (-1) (takeE m a e0 (-1))
    replace h := h.kp hx4 (fun k (hk : k = g) => by omega)
    replace hF := hF.step hx4 (fun k hk hlt => hk)
    have hll5 : (takeL l a (-1) (takeE m a e0 (-1))).length = (takeL l a (-1) (takeE m a e0 (-1))).length := rfl
    refine st (callR (some 11) 54 #[.slice A4 ((takeL l a (-1) (takeE m a e0 (-1))).length) c4] Try.call54 (load_c w4 A4 ((takeL l a (-1) (takeE m a e0 (-1))).length) c4 hs4 hll5 (by omega)) (by kernel_rfl) ?_)
    rintro _ _ ⟨rfl, rfl⟩
    refine seg 2 [.co [1, 1, 1]] [(4, .int .u64 (le (takeL l a (-1) (takeE m a e0 (-1))) : Int))] (by kernel_rfl) ?_
    refine retR [4] [.int .u64 (le (takeL l a (-1) (takeE m a e0 (-1))) : Int)] (by kernel_rfl) (by kernel_rfl) (by kernel_rfl) ?_
    have en : numW n = -1 := by simp [numW, hb1]
    rw [en]
    exact ⟨_, rfl, rfl, hF, hg4⟩

theorem rbytes_c (w : World) (g : Nat) (A : Option Addr) (m c : Nat) {lo hi : Nat} {l : List UInt8} (h : Cs lo hi w A (bs l)) (hml : l.length = m) (hmc : m ≤ c) (a e0 : Int) (hg : w.heap[g]? = some (.cells #[.slice A m c, .int .i64 a, .int .i64 e0] 98 (0, 0))) (hl : m ≤ 140737400000000) (hgl : g < lo ∨ hi ≤ g) (n : Int) (ha : 0 ≤ a ∧ a ≤ m) (hn : -9223372036854775808 ≤ n ∧ n ≤ 9223372036854775807) :
    Calls Try.prog 41 #[.pointer (some (⟨g, 0, none⟩)), .int .i64 n] w fun e w' => ∃ v, e = .returned v ∧ (∃ A' c', v = .slice A' (takeL l a n (takeE m a e0 n)).length c' ∧ w'.ownsRow w.heap.size 5 1 (.slice A' (takeL l a n (takeE m a e0 n)).length c') (takeL l a n (takeE m a e0 n)).length (bs (takeL l a n (takeE m a e0 n))) ∧ Kp (fun k => k = g) w w' ∧ w'.heap[g]? = some (.cells #[.slice A m c, .int .i64 (takeA a n (takeE m a e0 n)), .int .i64 (takeE m a e0 n)] 98 (0, 0))) := by
  refine callsR Try.func41 (by kernel_rfl) (by kernel_rfl) ?_
  have hlt := blk_lt hg
  have hF : Kp (fun k => k = g) w w := Kp.refl _ _
  refine seg 8 [.op [1, 0] 2, .co [1, 1]] [(5, .pointer (some (⟨g, 0, none⟩))), (6, .int .i64 n)] (by kernel_rfl) ?_
  have hll1 : (l).length = m := (by first | rfl | omega | (simp; omega))
  refine st (callR (some 7) 62 #[.pointer (some (⟨g, 0, none⟩)), .int .i64 n] Try.call62 (rtake_c w g A m c h hll1 (by omega) a e0 hg (by omega) (by omega) n (by omega) (by omega)) (by kernel_rfl) ?_)
  rintro _ w1 ⟨A1, c1, rfl, hs1, hc1, hx1, hg1⟩
  have hz1 := hx1.size
  have hlk1 := takeL_le l a n (takeE m a e0 n)
  have hlm1 := takeL_len l a n (takeE m a e0 n)
  replace h := h.kp hx1 (fun k (hk : k = g) => by omega)
  replace hF := hF.step hx1 (fun k hk hlt => hk)
  have hll2 : (takeL l a n (takeE m a e0 n)).length = (takeL l a n (takeE m a e0 n)).length := rfl
  refine st (callR (some 8) 58 #[.slice A1 ((takeL l a n (takeE m a e0 n)).length) c1] Try.call58 (copied_c w1 A1 ((takeL l a n (takeE m a e0 n)).length) c1 hs1 hll2 (by omega)) (by kernel_rfl) ?_)
  rintro _ w2 ⟨A2, c2, rfl, hx2, hn2⟩
  have hz2 := hx2.size
  have hc2 := own_cap hn2
  replace h := h.ex hx2
  replace hg1 := hx2.blk hg1 (fun e => e)
  replace hF := hF.ex hx2
  refine seg 2 [.co [1, 1]] [(4, .slice A2 ((takeL l a n (takeE m a e0 n)).length) c2)] (by kernel_rfl) ?_
  refine retR [4] [.slice A2 ((takeL l a n (takeE m a e0 n)).length) c2] (by kernel_rfl) (by kernel_rfl) (by kernel_rfl) ?_
  exact ⟨_, rfl, _, _, rfl, own_base' hn2 (by omega), hF, hg1⟩

theorem rtext_c (w : World) (g : Nat) (A : Option Addr) (m c : Nat) {lo hi : Nat} {l : List UInt8} (h : Cs lo hi w A (bs l)) (hml : l.length = m) (hmc : m ≤ c) (a e0 : Int) (hg : w.heap[g]? = some (.cells #[.slice A m c, .int .i64 a, .int .i64 e0] 98 (0, 0))) (hl : m ≤ 140737400000000) (hgl : g < lo ∨ hi ≤ g) (n : Int) (ha : 0 ≤ a ∧ a ≤ m) (hn : -9223372036854775808 ≤ n ∧ n ≤ 9223372036854775807) :
    Calls Try.prog 40 #[.pointer (some (⟨g, 0, none⟩)), .int .i64 n] w fun e w' => ∃ v, e = .returned v ∧ (∃ A' c', v = .slice A' (textL l a (textE l a e0 n)).length c' ∧ w'.ownsRow w.heap.size 5 1 (.slice A' (textL l a (textE l a e0 n)).length c') (textL l a (textE l a e0 n)).length (bs (textL l a (textE l a e0 n))) ∧ Kp (fun k => k = g) w w' ∧ w'.heap[g]? = some (.cells #[.slice A m c, .int .i64 (textA l a (textE l a e0 n)), .int .i64 (textE l a e0 n)] 98 (0, 0))) := by
  refine callsR Try.func40 (by kernel_rfl) (by kernel_rfl) ?_
  have hlt := blk_lt hg
  have hF : Kp (fun k => k = g) w w := Kp.refl _ _
  refine seg 13 [.op [1, 0, 0] 6, .co [1, 0, 1], .co [1, 1]] [(0, .pointer (some (⟨g, 0, none⟩))), (1, .int .i64 n), (10, .bool false), (13, .pointer (some (⟨g, 2, none⟩)))] (by kernel_rfl) ?_
  refine st (ldR (some 14) 25 (⟨g, 2, none⟩) (.int .i64 e0) (by kernel_rfl) (by kernel_rfl) (blk_cell hg rfl) ?_)
  refine seg 3 [.co [1, 0, 1], .co [1, 1]] [(0, .pointer (some (⟨g, 0, none⟩))), (1, .int .i64 n), (16, .bool (e0 != 0))] (by kernel_rfl) ?_
  rcases bsplit (e0 != 0) with hb1 | hb1
  · rw [hb1]
    have h1 : e0 ≠ 0 := by simpa using hb1
    refine seg 5 [.co [1, 0, 1, 0, 1], .co [1, 1]] [(4, .slice none 0 0)] (by kernel_rfl) ?_
    refine retR [4] [.slice none 0 0] (by kernel_rfl) (by kernel_rfl) (by kernel_rfl) ?_
    have ee : textE l a e0 n = e0 := by simp [textE, h1]
    rw [ee]
    have ez : (e0 : Int) ≠ 0 := by first | assumption | decide
    have et : textL l a e0 = [] := by simp only [textL, ez, if_false]
    have eu : textA l a e0 = a := by simp only [textA, ez, if_false]
    rw [et, eu]
    exact ⟨_, rfl, none, 0, rfl, World.ownsRow_nil _ _ _ _, hF, hg⟩
  · rw [hb1]
    have h1 : e0 = 0 := by simpa using hb1
    refine seg 8 [.co [1, 1, 0, 1], .co [1, 1, 1]] [(0, .pointer (some (⟨g, 0, none⟩))), (1, .int .i64 n), (18, .bool (decide (n < 0)))] (by kernel_rfl) ?_
    rcases bsplit (decide (n < 0)) with hb2 | hb2
    · rw [hb2]
      have h2 := of_decide_eq_true hb2
      refine seg 6 [.op [1, 1, 0, 1, 0, 0] 3, .co [1, 1, 0, 1, 0, 1], .co [1, 1, 1]] [(21, .pointer (some (⟨g, 2, none⟩)))] (by kernel_rfl) ?_
      refine st (stR none 25 g 2 (.int .i64 1) #[.slice A m c, .int .i64 a, .int .i64 e0] 98 (by kernel_rfl) (by kernel_rfl) rfl hg (by simp) ?_)
      intro w3 hx3 hg3 hz3
      replace h := h.kp hx3 (fun k (hk : k = g) => by omega)
      replace hF := hF.step hx3 (fun k hk hlt => hk)
      replace hg3 : w3.heap[g]? = some (.cells #[.slice A m c, .int .i64 a, .int .i64 1] 98 (0, 0)) := hg3
      refine seg 5 [.co [1, 1, 0, 1, 0, 1, 1], .co [1, 1, 1]] [(4, .slice none 0 0)] (by kernel_rfl) ?_
      refine retR [4] [.slice none 0 0] (by kernel_rfl) (by kernel_rfl) (by kernel_rfl) ?_
      have ee : textE l a e0 n = 1 := by simp [textE, h1, h2]
      rw [ee]
      have ez : (1 : Int) ≠ 0 := by first | assumption | decide
      have et : textL l a 1 = [] := by simp only [textL, ez, if_false]
      have eu : textA l a 1 = a := by simp only [textA, ez, if_false]
      rw [et, eu]
      exact ⟨_, rfl, none, 0, rfl, World.ownsRow_nil _ _ _ _, hF, hg3⟩
    · rw [hb2]
      have h2 := of_decide_eq_false hb2
      refine seg 7 [.op [1, 1, 1, 0] 3, .co [1, 1, 1, 1]] [(0, .pointer (some (⟨g, 0, none⟩))), (1, .int .i64 n), (24, .pointer (some (⟨g, 1, none⟩)))] (by kernel_rfl) ?_
      refine st (ldR (some 25) 3 (⟨g, 1, none⟩) (.int .i64 a) (by kernel_rfl) (by kernel_rfl) (blk_cell hg rfl) ?_)
      refine seg 5 [.op [1, 1, 1, 1, 0] 1, .co [1, 1, 1, 1, 1]] [(0, .pointer (some (⟨g, 0, none⟩))), (1, .int .i64 n), (5, .int .i64 a), (26, .pointer (some (⟨g, 0, none⟩)))] (by kernel_rfl) ?_
      have hll4 : (l).length = m := (by first | rfl | omega | (simp; omega))
      refine st (callR (some 27) 62 #[.pointer (some (⟨g, 0, none⟩)), .int .i64 2] Try.call62 (rtake_c w g A m c h hll4 (by omega) a e0 hg (by omega) (by omega) 2 (by omega) (by omega)) (by kernel_rfl) ?_)
      rintro _ w4 ⟨A4, c4, rfl, hs4, hc4, hx4, hg4⟩
      have hz4 := hx4.size
      have hlk4 := takeL_le l a 2 (takeE m a e0 2)
      have hlm4 := takeL_len l a 2 (takeE m a e0 2)
      replace h := h.kp hx4 (fun k (hk : k = g) => by omega)
      replace hF := hF.step hx4 (fun k hk hlt => hk)
      have z6 := le_takeL l a (takeE m a e0 2)
      have z7 := takeA_at (len := m) (at_ := a) (e := e0) (n := 2) ha
      have hll5 : (takeL l a 2 (takeE m a e0 2)).length = (takeL l a 2 (takeE m a e0 2)).length := rfl
      refine st (callR (some 28) 54 #[.slice A4 ((takeL l a 2 (takeE m a e0 2)).length) c4] Try.call54 (load_c w4 A4 ((takeL l a 2 (takeE m a e0 2)).length) c4 hs4 hll5 (by omega)) (by kernel_rfl) ?_)
      rintro _ _ ⟨rfl, rfl⟩
      refine seg 9 [.op [1, 1, 1, 1, 1, 0, 0] 3, .co [1, 1, 1, 1, 1, 0, 1], .co [1, 1, 1, 1, 1, 1]] [(0, .pointer (some (⟨g, 0, none⟩))), (1, .int .i64 n), (5, .int .i64 a), (6, .int .i64 (IntKind.i64.wrap (le (takeL l a 2 (takeE m a e0 2)) : Int))), (32, .pointer (some (⟨g, 2, none⟩)))] (by kernel_rfl) ?_
      rw [show IntKind.i64.wrap (le (takeL l a 2 (takeE m a e0 2)) : Int) = (le (takeL l a 2 (takeE m a e0 2)) : Int) from w64 (by omega)]
      refine st (ldR (some 33) 25 (⟨g, 2, none⟩) (.int .i64 (takeE m a e0 2)) (by kernel_rfl) (by kernel_rfl) (blk_cell hg4 rfl) ?_)
      refine seg 2 [.op [1, 1, 1, 1, 1, 0, 0] 6, .co [1, 1, 1, 1, 1, 0, 1], .co [1, 1, 1, 1, 1, 1]] [(0, .pointer (some (⟨g, 0, none⟩))), (1, .int .i64 n), (5, .int .i64 a), (6, .int .i64 (le (takeL l a 2 (takeE m a e0 2)) : Int)), (35, .bool ((takeE m a e0 2) == 0))] (by kernel_rfl) ?_
      rcases bsplit ((takeE m a e0 2) == 0) with hb6 | hb6
      · rw [hb6]
        have h6 : (takeE m a e0 2) = 0 := by simpa using hb6
        obtain ⟨z0, z1, z2⟩ := takeE_zero h6
        have z3 := within_of z2
        have z4 : takeL l a 2 (takeE m a e0 2) = (l.drop a.toNat).take 2 := by rw [takeL, if_pos h6]; rfl
        have z5 : takeA a 2 (takeE m a e0 2) = a + 2 := by rw [takeA, if_pos h6]
        refine seg 5 [.co [1, 1, 1, 1, 1, 0, 1], .co [1, 1, 1, 1, 1, 1]] [(0, .pointer (some (⟨g, 0, none⟩))), (5, .int .i64 a), (6, .int .i64 (le (takeL l a 2 (takeE m a e0 2)) : Int)), (39, .bool (decide ((le (takeL l a 2 (takeE m a e0 2)) : Int) > n)))] (by kernel_rfl) ?_
        rcases bsplit (decide ((le (takeL l a 2 (takeE m a e0 2)) : Int) > n)) with hb7 | hb7
        · rw [hb7]
          have h7 := of_decide_eq_true hb7
          refine seg 5 [.op [1, 1, 1, 1, 1, 0, 1, 0] 3, .co [1, 1, 1, 1, 1, 1]] [(0, .pointer (some (⟨g, 0, none⟩))), (5, .int .i64 a), (6, .int .i64 (le (takeL l a 2 (takeE m a e0 2)) : Int)), (42, .pointer (some (⟨g, 2, none⟩)))] (by kernel_rfl) ?_
          refine st (stR none 25 g 2 (.int .i64 2) #[.slice A m c, .int .i64 (takeA a 2 (takeE m a e0 2)), .int .i64 (takeE m a e0 2)] 98 (by kernel_rfl) (by kernel_rfl) rfl hg4 (by simp) ?_)
          intro w8 hx8 hg8 hz8
          replace h := h.kp hx8 (fun k (hk : k = g) => by omega)
          replace hF := hF.step hx8 (fun k hk hlt => hk)
          replace hg8 : w8.heap[g]? = some (.cells #[.slice A m c, .int .i64 (takeA a 2 (takeE m a e0 2)), .int .i64 2] 98 (0, 0)) := hg8
          refine seg 5 [.op [1, 1, 1, 1, 1, 1, 0] 2, .co [1, 1, 1, 1, 1, 1, 1]] [(0, .pointer (some (⟨g, 0, none⟩))), (5, .int .i64 a), (43, .pointer (some (⟨g, 0, none⟩))), (44, .int .i64 (le (takeL l a 2 (takeE m a e0 2)) : Int))] (by kernel_rfl) ?_
          have hll9 : (l).length = m := (by first | rfl | omega | (simp; omega))
          refine st (callR (some 45) 62 #[.pointer (some (⟨g, 0, none⟩)), .int .i64 (le (takeL l a 2 (takeE m a e0 2)) : Int)] Try.call62 (rtake_c w8 g A m c h hll9 (by omega) (takeA a 2 (takeE m a e0 2)) 2 hg8 (by omega) (by omega) (le (takeL l a 2 (takeE m a e0 2)) : Int) (by omega) (by omega)) (by kernel_rfl) ?_)
          rintro _ w9 ⟨A9, c9, rfl, hs9, hc9, hx9, hg9⟩
          have hz9 := hx9.size
          have hlk9 := takeL_le l (takeA a 2 (takeE m a e0 2)) (le (takeL l a 2 (takeE m a e0 2)) : Int) (takeE m (takeA a 2 (takeE m a e0 2)) 2 (le (takeL l a 2 (takeE m a e0 2)) : Int))
          have hlm9 := takeL_len l (takeA a 2 (takeE m a e0 2)) (le (takeL l a 2 (takeE m a e0 2)) : Int) (takeE m (takeA a 2 (takeE m a e0 2)) 2 (le (takeL l a 2 (takeE m a e0 2)) : Int))
          replace h := h.kp hx9 (fun k (hk : k = g) => by omega)
          replace hF := hF.step hx9 (fun k hk hlt => hk)
          refine seg 8 [.op [1, 1, 1, 1, 1, 1, 1, 0, 0] 3, .co [1, 1, 1, 1, 1, 1, 1, 0, 1], .co [1, 1, 1, 1, 1, 1, 1, 1]] [(0, .pointer (some (⟨g, 0, none⟩))), (5, .int .i64 a), (7, .slice A9 ((takeL l (takeA a 2 (takeE m a e0 2)) (le (takeL l a 2 (takeE m a e0 2)) : Int) (takeE m (takeA a 2 (takeE m a e0 2)) 2 (le (takeL l a 2 (takeE m a e0 2)) : Int))).length) c9), (48, .pointer (some (⟨g, 2, none⟩)))] (by kernel_rfl) ?_
          refine st (ldR (some 49) 25 (⟨g, 2, none⟩) (.int .i64 (takeE m (takeA a 2 (takeE m a e0 2)) 2 (le (takeL l a 2 (takeE m a e0 2)) : Int))) (by kernel_rfl) (by kernel_rfl) (blk_cell hg9 rfl) ?_)
          refine seg 2 [.co [1, 1, 1, 1, 1, 1, 1, 0, 1], .co [1, 1, 1, 1, 1, 1, 1, 1]] [(0, .pointer (some (⟨g, 0, none⟩))), (5, .int .i64 a), (7, .slice A9 ((takeL l (takeA a 2 (takeE m a e0 2)) (le (takeL l a 2 (takeE m a e0 2)) : Int) (takeE m (takeA a 2 (takeE m a e0 2)) 2 (le (takeL l a 2 (takeE m a e0 2)) : Int))).length) c9), (50, .bool ((takeE m (takeA a 2 (takeE m a e0 2)) 2 (le (takeL l a 2 (takeE m a e0 2)) : Int)) != 0))] (by kernel_rfl) ?_
          rw [show ((takeE m (takeA a 2 (takeE m a e0 2)) 2 (le (takeL l a 2 (takeE m a e0 2)) : Int)) != 0) = true from by rw [takeE_old (by decide)]; decide]
          refine seg 7 [.op [1, 1, 1, 1, 1, 1, 1, 0, 1, 0, 0] 4, .co [1, 1, 1, 1, 1, 1, 1, 0, 1, 0, 1], .co [1, 1, 1, 1, 1, 1, 1, 1]] [(52, .int .i64 a), (54, .pointer (some (⟨g, 1, none⟩)))] (by kernel_rfl) ?_
          refine st (stR none 3 g 1 (.int .i64 a) #[.slice A m c, .int .i64 (takeA (takeA a 2 (takeE m a e0 2)) (le (takeL l a 2 (takeE m a e0 2)) : Int) (takeE m (takeA a 2 (takeE m a e0 2)) 2 (le (takeL l a 2 (takeE m a e0 2)) : Int))), .int .i64 (takeE m (takeA a 2 (takeE m a e0 2)) 2 (le (takeL l a 2 (takeE m a e0 2)) : Int))] 98 (by kernel_rfl) (by kernel_rfl) rfl hg9 (by simp) ?_)
          intro w10 hx10 hg10 hz10
          replace h := h.kp hx10 (fun k (hk : k = g) => by omega)
          replace hF := hF.step hx10 (fun k hk hlt => hk)
          replace hg10 : w10.heap[g]? = some (.cells #[.slice A m c, .int .i64 a, .int .i64 (takeE m (takeA a 2 (takeE m a e0 2)) 2 (le (takeL l a 2 (takeE m a e0 2)) : Int))] 98 (0, 0)) := hg10
          refine seg 5 [.co [1, 1, 1, 1, 1, 1, 1, 0, 1, 0, 1, 1], .co [1, 1, 1, 1, 1, 1, 1, 1]] [(4, .slice none 0 0)] (by kernel_rfl) ?_
          refine retR [4] [.slice none 0 0] (by kernel_rfl) (by kernel_rfl) (by kernel_rfl) ?_
          rw [z4] at h7
          have ee : textE l a e0 n = 2 := by simp [textE, hml, h1, h2, z2, h7]
          rw [ee]
          have ez : (2 : Int) ≠ 0 := by first | assumption | decide
          have et : textL l a 2 = [] := by simp only [textL, ez, if_false]
          have eu : textA l a 2 = a := by simp only [textA, ez, if_false]
          rw [et, eu]
          rw [takeE_old (e := 2) (by decide)] at hg10
          exact ⟨_, rfl, none, 0, rfl, World.ownsRow_nil _ _ _ _, hF, hg10⟩
        · rw [hb7]
          have h7 := of_decide_eq_false hb7
          refine seg 6 [.op [1, 1, 1, 1, 1, 1, 0] 2, .co [1, 1, 1, 1, 1, 1, 1]] [(0, .pointer (some (⟨g, 0, none⟩))), (5, .int .i64 a), (43, .pointer (some (⟨g, 0, none⟩))), (44, .int .i64 (le (takeL l a 2 (takeE m a e0 2)) : Int))] (by kernel_rfl) ?_
          have hll11 : (l).length = m := (by first | rfl | omega | (simp; omega))
          refine st (callR (some 45) 62 #[.pointer (some (⟨g, 0, none⟩)), .int .i64 (le (takeL l a 2 (takeE m a e0 2)) : Int)] Try.call62 (rtake_c w4 g A m c h hll11 (by omega) (takeA a 2 (takeE m a e0 2)) (takeE m a e0 2) hg4 (by omega) (by omega) (le (takeL l a 2 (takeE m a e0 2)) : Int) (by omega) (by omega)) (by kernel_rfl) ?_)
          rintro _ w11 ⟨A11, c11, rfl, hs11, hc11, hx11, hg11⟩
          have hz11 := hx11.size
          have hlk11 := takeL_le l (takeA a 2 (takeE m a e0 2)) (le (takeL l a 2 (takeE m a e0 2)) : Int) (takeE m (takeA a 2 (takeE m a e0 2)) (takeE m a e0 2) (le (takeL l a 2 (takeE m a e0 2)) : Int))
          have hlm11 := takeL_len l (takeA a 2 (takeE m a e0 2)) (le (takeL l a 2 (takeE m a e0 2)) : Int) (takeE m (takeA a 2 (takeE m a e0 2)) (takeE m a e0 2) (le (takeL l a 2 (takeE m a e0 2)) : Int))
          replace h := h.kp hx11 (fun k (hk : k = g) => by omega)
          replace hF := hF.step hx11 (fun k hk hlt => hk)
          refine seg 8 [.op [1, 1, 1, 1, 1, 1, 1, 0, 0] 3, .co [1, 1, 1, 1, 1, 1, 1, 0, 1], .co [1, 1, 1, 1, 1, 1, 1, 1]] [(0, .pointer (some (⟨g, 0, none⟩))), (5, .int .i64 a), (7, .slice A11 ((takeL l (takeA a 2 (takeE m a e0 2)) (le (takeL l a 2 (takeE m a e0 2)) : Int) (takeE m (takeA a 2 (takeE m a e0 2)) (takeE m a e0 2) (le (takeL l a 2 (takeE m a e0 2)) : Int))).length) c11), (48, .pointer (some (⟨g, 2, none⟩)))] (by kernel_rfl) ?_
          refine st (ldR (some 49) 25 (⟨g, 2, none⟩) (.int .i64 (takeE m (takeA a 2 (takeE m a e0 2)) (takeE m a e0 2) (le (takeL l a 2 (takeE m a e0 2)) : Int))) (by kernel_rfl) (by kernel_rfl) (blk_cell hg11 rfl) ?_)
          refine seg 2 [.co [1, 1, 1, 1, 1, 1, 1, 0, 1], .co [1, 1, 1, 1, 1, 1, 1, 1]] [(0, .pointer (some (⟨g, 0, none⟩))), (5, .int .i64 a), (7, .slice A11 ((takeL l (takeA a 2 (takeE m a e0 2)) (le (takeL l a 2 (takeE m a e0 2)) : Int) (takeE m (takeA a 2 (takeE m a e0 2)) (takeE m a e0 2) (le (takeL l a 2 (takeE m a e0 2)) : Int))).length) c11), (50, .bool ((takeE m (takeA a 2 (takeE m a e0 2)) (takeE m a e0 2) (le (takeL l a 2 (takeE m a e0 2)) : Int)) != 0))] (by kernel_rfl) ?_
          rcases bsplit ((takeE m (takeA a 2 (takeE m a e0 2)) (takeE m a e0 2) (le (takeL l a 2 (takeE m a e0 2)) : Int)) != 0) with hb12 | hb12
          · rw [hb12]
            have h12 : (takeE m (takeA a 2 (takeE m a e0 2)) (takeE m a e0 2) (le (takeL l a 2 (takeE m a e0 2)) : Int)) ≠ 0 := by simpa using hb12
            refine seg 7 [.op [1, 1, 1, 1, 1, 1, 1, 0, 1, 0, 0] 4, .co [1, 1, 1, 1, 1, 1, 1, 0, 1, 0, 1], .co [1, 1, 1, 1, 1, 1, 1, 1]] [(52, .int .i64 a), (54, .pointer (some (⟨g, 1, none⟩)))] (by kernel_rfl) ?_
            refine st (stR none 3 g 1 (.int .i64 a) #[.slice A m c, .int .i64 (takeA (takeA a 2 (takeE m a e0 2)) (le (takeL l a 2 (takeE m a e0 2)) : Int) (takeE m (takeA a 2 (takeE m a e0 2)) (takeE m a e0 2) (le (takeL l a 2 (takeE m a e0 2)) : Int))), .int .i64 (takeE m (takeA a 2 (takeE m a e0 2)) (takeE m a e0 2) (le (takeL l a 2 (takeE m a e0 2)) : Int))] 98 (by kernel_rfl) (by kernel_rfl) rfl hg11 (by simp) ?_)
            intro w13 hx13 hg13 hz13
            replace h := h.kp hx13 (fun k (hk : k = g) => by omega)
            replace hF := hF.step hx13 (fun k hk hlt => hk)
            replace hg13 : w13.heap[g]? = some (.cells #[.slice A m c, .int .i64 a, .int .i64 (takeE m (takeA a 2 (takeE m a e0 2)) (takeE m a e0 2) (le (takeL l a 2 (takeE m a e0 2)) : Int))] 98 (0, 0)) := hg13
            refine seg 5 [.co [1, 1, 1, 1, 1, 1, 1, 0, 1, 0, 1, 1], .co [1, 1, 1, 1, 1, 1, 1, 1]] [(4, .slice none 0 0)] (by kernel_rfl) ?_
            refine retR [4] [.slice none 0 0] (by kernel_rfl) (by kernel_rfl) (by kernel_rfl) ?_
            rw [z4, z5, h6] at h12 hg13
            rw [z4] at h7
            have e2 : withinB m (a + 2) ((le ((l.drop a.toNat).take 2) : Nat) : Int) = false := by
              cases hw : withinB m (a + 2) ((le ((l.drop a.toNat).take 2) : Nat) : Int) with
              | false => rfl
              | true => exact absurd (by simp [takeE, hw] <;> omega) h12
            have ee : textE l a e0 n = 6 := by simp [textE, hml, h1, h2, z2, h7, e2]
            have ef : takeE m (a + 2) 0 ((le ((l.drop a.toNat).take 2) : Nat) : Int) = 6 := by simp [takeE, e2] <;> omega
            rw [ee]
            have ez : (6 : Int) ≠ 0 := by first | assumption | decide
            have et : textL l a 6 = [] := by simp only [textL, ez, if_false]
            have eu : textA l a 6 = a := by simp only [textA, ez, if_false]
            rw [et, eu]
            rw [ef] at hg13
            exact ⟨_, rfl, none, 0, rfl, World.ownsRow_nil _ _ _ _, hF, hg13⟩
          · rw [hb12]
            have h12 : (takeE m (takeA a 2 (takeE m a e0 2)) (takeE m a e0 2) (le (takeL l a 2 (takeE m a e0 2)) : Int)) = 0 := by simpa using hb12
            refine seg 5 [.op [1, 1, 1, 1, 1, 1, 1, 1, 0] 1, .co [1, 1, 1, 1, 1, 1, 1, 1, 1]] [(55, .slice A11 ((takeL l (takeA a 2 (takeE m a e0 2)) (le (takeL l a 2 (takeE m a e0 2)) : Int) (takeE m (takeA a 2 (takeE m a e0 2)) (takeE m a e0 2) (le (takeL l a 2 (takeE m a e0 2)) : Int))).length) c11)] (by kernel_rfl) ?_
            have hll14 : (takeL l (takeA a 2 (takeE m a e0 2)) (le (takeL l a 2 (takeE m a e0 2)) : Int) (takeE m (takeA a 2 (takeE m a e0 2)) (takeE m a e0 2) (le (takeL l a 2 (takeE m a e0 2)) : Int))).length = (takeL l (takeA a 2 (takeE m a e0 2)) (le (takeL l a 2 (takeE m a e0 2)) : Int) (takeE m (takeA a 2 (takeE m a e0 2)) (takeE m a e0 2) (le (takeL l a 2 (takeE m a e0 2)) : Int))).length := rfl
            refine st (callR (some 56) 58 #[.slice A11 ((takeL l (takeA a 2 (takeE m a e0 2)) (le (takeL l a 2 (takeE m a e0 2)) : Int) (takeE m (takeA a 2 (takeE m a e0 2)) (takeE m a e0 2) (le (takeL l a 2 (takeE m a e0 2)) : Int))).length) c11] Try.call58 (copied_c w11 A11 ((takeL l (takeA a 2 (takeE m a e0 2)) (le (takeL l a 2 (takeE m a e0 2)) : Int) (takeE m (takeA a 2 (takeE m a e0 2)) (takeE m a e0 2) (le (takeL l a 2 (takeE m a e0 2)) : Int))).length) c11 hs11 hll14 (by omega)) (by kernel_rfl) ?_)
            rintro _ w14 ⟨A14, c14, rfl, hx14, hn14⟩
            have hz14 := hx14.size
            have hc14 := own_cap hn14
            replace h := h.ex hx14
            replace hg11 := hx14.blk hg11 (fun e => e)
            replace hF := hF.ex hx14
            refine seg 2 [.co [1, 1, 1, 1, 1, 1, 1, 1, 1]] [(4, .slice A14 ((takeL l (takeA a 2 (takeE m a e0 2)) (le (takeL l a 2 (takeE m a e0 2)) : Int) (takeE m (takeA a 2 (takeE m a e0 2)) (takeE m a e0 2) (le (takeL l a 2 (takeE m a e0 2)) : Int))).length) c14)] (by kernel_rfl) ?_
            refine retR [4] [.slice A14 ((takeL l (takeA a 2 (takeE m a e0 2)) (le (takeL l a 2 (takeE m a e0 2)) : Int) (takeE m (takeA a 2 (takeE m a e0 2)) (takeE m a e0 2) (le (takeL l a 2 (takeE m a e0 2)) : Int))).length) c14] (by kernel_rfl) (by kernel_rfl) (by kernel_rfl) ?_
            rw [z4, z5, h6] at h12 hg11
            rw [z4] at h7
            obtain ⟨_, _, e2⟩ := takeE_zero h12
            have ee : textE l a e0 n = 0 := by simp [textE, hml, h1, h2, z2, h7, e2]
            rw [ee]
            rw [h12] at hg11
            have et : takeL l (takeA a 2 (takeE m a e0 2)) ((le (takeL l a 2 (takeE m a e0 2)) : Nat) : Int) (takeE m (takeA a 2 (takeE m a e0 2)) (takeE m a e0 2) ((le (takeL l a 2 (takeE m a e0 2)) : Nat) : Int)) = textL l a 0 := by
              rw [z4, z5, h6, h12]
              simp only [takeL, textL, if_true, Int.toNat_natCast]
              rw [show (a + 2).toNat = a.toNat + 2 by omega]
            have eu : takeA (a + 2) ((le ((l.drop a.toNat).take 2) : Nat) : Int) 0 = textA l a 0 := by simp [takeA, textA]
            rw [eu] at hg11
            rw [et] at hn14 ⊢
            exact ⟨_, rfl, _, _, rfl, own_base' hn14 (by omega), hF, hg11⟩
      · rw [hb6]
        have h6 : (takeE m a e0 2) ≠ 0 := by simpa using hb6
        have z2 : withinB m a 2 = false := by
          cases hw : withinB m a 2 with
          | false => rfl
          | true => exact absurd (by simp [takeE, hw, h1]) h6
        refine seg 11 [.op [1, 1, 1, 1, 1, 1, 0] 2, .co [1, 1, 1, 1, 1, 1, 1]] [(0, .pointer (some (⟨g, 0, none⟩))), (5, .int .i64 a), (43, .pointer (some (⟨g, 0, none⟩))), (44, .int .i64 (le (takeL l a 2 (takeE m a e0 2)) : Int))] (by kernel_rfl) ?_
        have hll15 : (l).length = m := (by first | rfl | omega | (simp; omega))
        refine st (callR (some 45) 62 #[.pointer (some (⟨g, 0, none⟩)), .int .i64 (le (takeL l a 2 (takeE m a e0 2)) : Int)] Try.call62 (rtake_c w4 g A m c h hll15 (by omega) (takeA a 2 (takeE m a e0 2)) (takeE m a e0 2) hg4 (by omega) (by omega) (le (takeL l a 2 (takeE m a e0 2)) : Int) (by omega) (by omega)) (by kernel_rfl) ?_)
        rintro _ w15 ⟨A15, c15, rfl, hs15, hc15, hx15, hg15⟩
        have hz15 := hx15.size
        have hlk15 := takeL_le l (takeA a 2 (takeE m a e0 2)) (le (takeL l a 2 (takeE m a e0 2)) : Int) (takeE m (takeA a 2 (takeE m a e0 2)) (takeE m a e0 2) (le (takeL l a 2 (takeE m a e0 2)) : Int))
        have hlm15 := takeL_len l (takeA a 2 (takeE m a e0 2)) (le (takeL l a 2 (takeE m a e0 2)) : Int) (takeE m (takeA a 2 (takeE m a e0 2)) (takeE m a e0 2) (le (takeL l a 2 (takeE m a e0 2)) : Int))
        replace h := h.kp hx15 (fun k (hk : k = g) => by omega)
        replace hF := hF.step hx15 (fun k hk hlt => hk)
        refine seg 8 [.op [1, 1, 1, 1, 1, 1, 1, 0, 0] 3, .co [1, 1, 1, 1, 1, 1, 1, 0, 1], .co [1, 1, 1, 1, 1, 1, 1, 1]] [(0, .pointer (some (⟨g, 0, none⟩))), (5, .int .i64 a), (7, .slice A15 ((takeL l (takeA a 2 (takeE m a e0 2)) (le (takeL l a 2 (takeE m a e0 2)) : Int) (takeE m (takeA a 2 (takeE m a e0 2)) (takeE m a e0 2) (le (takeL l a 2 (takeE m a e0 2)) : Int))).length) c15), (48, .pointer (some (⟨g, 2, none⟩)))] (by kernel_rfl) ?_
        refine st (ldR (some 49) 25 (⟨g, 2, none⟩) (.int .i64 (takeE m (takeA a 2 (takeE m a e0 2)) (takeE m a e0 2) (le (takeL l a 2 (takeE m a e0 2)) : Int))) (by kernel_rfl) (by kernel_rfl) (blk_cell hg15 rfl) ?_)
        refine seg 2 [.co [1, 1, 1, 1, 1, 1, 1, 0, 1], .co [1, 1, 1, 1, 1, 1, 1, 1]] [(0, .pointer (some (⟨g, 0, none⟩))), (5, .int .i64 a), (7, .slice A15 ((takeL l (takeA a 2 (takeE m a e0 2)) (le (takeL l a 2 (takeE m a e0 2)) : Int) (takeE m (takeA a 2 (takeE m a e0 2)) (takeE m a e0 2) (le (takeL l a 2 (takeE m a e0 2)) : Int))).length) c15), (50, .bool ((takeE m (takeA a 2 (takeE m a e0 2)) (takeE m a e0 2) (le (takeL l a 2 (takeE m a e0 2)) : Int)) != 0))] (by kernel_rfl) ?_
        rw [show ((takeE m (takeA a 2 (takeE m a e0 2)) (takeE m a e0 2) (le (takeL l a 2 (takeE m a e0 2)) : Int)) != 0) = true from by rw [takeE_old h6]; simpa using h6]
        refine seg 7 [.op [1, 1, 1, 1, 1, 1, 1, 0, 1, 0, 0] 4, .co [1, 1, 1, 1, 1, 1, 1, 0, 1, 0, 1], .co [1, 1, 1, 1, 1, 1, 1, 1]] [(52, .int .i64 a), (54, .pointer (some (⟨g, 1, none⟩)))] (by kernel_rfl) ?_
        refine st (stR none 3 g 1 (.int .i64 a) #[.slice A m c, .int .i64 (takeA (takeA a 2 (takeE m a e0 2)) (le (takeL l a 2 (takeE m a e0 2)) : Int) (takeE m (takeA a 2 (takeE m a e0 2)) (takeE m a e0 2) (le (takeL l a 2 (takeE m a e0 2)) : Int))), .int .i64 (takeE m (takeA a 2 (takeE m a e0 2)) (takeE m a e0 2) (le (takeL l a 2 (takeE m a e0 2)) : Int))] 98 (by kernel_rfl) (by kernel_rfl) rfl hg15 (by simp) ?_)
        intro w16 hx16 hg16 hz16
        replace h := h.kp hx16 (fun k (hk : k = g) => by omega)
        replace hF := hF.step hx16 (fun k hk hlt => hk)
        replace hg16 : w16.heap[g]? = some (.cells #[.slice A m c, .int .i64 a, .int .i64 (takeE m (takeA a 2 (takeE m a e0 2)) (takeE m a e0 2) (le (takeL l a 2 (takeE m a e0 2)) : Int))] 98 (0, 0)) := hg16
        refine seg 5 [.co [1, 1, 1, 1, 1, 1, 1, 0, 1, 0, 1, 1], .co [1, 1, 1, 1, 1, 1, 1, 1]] [(4, .slice none 0 0)] (by kernel_rfl) ?_
        refine retR [4] [.slice none 0 0] (by kernel_rfl) (by kernel_rfl) (by kernel_rfl) ?_
        have ee : textE l a e0 n = 6 := by simp [textE, hml, h1, h2, z2]
        have ef : takeE m a e0 2 = 6 := by simp [takeE, h1, z2]
        rw [ee]
        have ez : (6 : Int) ≠ 0 := by first | assumption | decide
        have et : textL l a 6 = [] := by simp only [textL, ez, if_false]
        have eu : textA l a 6 = a := by simp only [textA, ez, if_false]
        rw [et, eu]
        rw [takeE_old (e := takeE m a e0 2) (by rw [ef]; decide), ef] at hg16
        exact ⟨_, rfl, none, 0, rfl, World.ownsRow_nil _ _ _ _, hF, hg16⟩

theorem rleft_c (w : World) (g : Nat) (A : Option Addr) (m c : Nat) (a e0 : Int) (hg : w.heap[g]? = some (.cells #[.slice A m c, .int .i64 a, .int .i64 e0] 98 (0, 0))) (hl : m ≤ 140737400000000) (ha : 0 ≤ a ∧ a ≤ m) :
    Calls Try.prog 43 #[.pointer (some (⟨g, 0, none⟩))] w fun e w' => ∃ v, e = .returned v ∧ (v = .int .i64 (m - a) ∧ Ex w w') := by
  refine callsR Try.func43 (by kernel_rfl) (by kernel_rfl) ?_
  have hlt := blk_lt hg
  have hF : Ex w w := Kp.refl _ _
  refine seg 13 [.co [1, 1, 0], .co [1, 1, 1]] [(0, .pointer (some (⟨g, 0, none⟩)))] (by kernel_rfl) ?_
  refine drawT (fun _ => False) (by kernel_rfl) (by kernel_rfl) ?_
  intro w1 hx1 hz1
  have hg_1 := hg
  replace hg_1 := hx1.blk hg_1 (fun e => e)
  replace hF := hF.ex hx1
  have hS1 := Kp.refl (fun _ => False) w1
  refine segD [0, 1, 2, 5, 6, 7] [0, 1, 2, 5, 6, 7] [(7, .pointer (some (⟨g, 0, none⟩))), (12, .pointer (some (⟨g, 1, none⟩)))] (by kernel_rfl) ?_
  refine takeD (i := 3) (d := (some 8)) (s := vS (Instr.loadAt 22 (.pointer (some (⟨g, 0, none⟩))))) (v := .slice A m c) (by kernel_rfl) (by kernel_rfl) (fun w' hw' => ld_run _ _ _ (by kernel_rfl) (hw'.cell (blk_cell hg_1 rfl) (fun e => e))) ?_
  refine segD [4] [0, 1, 2, 5, 6, 7, 3, 4] [(9, .int .i64 (m : Int)), (12, .pointer (some (⟨g, 1, none⟩)))] (by kernel_rfl) ?_
  refine stD (i := 8) (by kernel_rfl) hS1 (ldR (some 13) 3 (⟨g, 1, none⟩) (.int .i64 a) (by kernel_rfl) (by kernel_rfl) (blk_cell hg_1 rfl) ?_)
  refine segD [9] [0, 1, 2, 5, 6, 7, 3, 4, 8, 9] [(14, .int .i64 (IntKind.i64.wrap ((m : Int) - a)))] (by kernel_rfl) ?_
  rw [show IntKind.i64.wrap ((m : Int) - a) = ((m : Int) - a) from w64 (by omega)]
  refine segD [10] [0, 1, 2, 5, 6, 7, 3, 4, 8, 9, 10] [(2, .int .i64 ((m : Int) - a))] (by kernel_rfl) ?_
  refine endD (by kernel_rfl) hS1 ?_
  refine retR [2] [.int .i64 ((m : Int) - a)] (by kernel_rfl) (by kernel_rfl) (by kernel_rfl) ?_
  exact ⟨_, rfl, rfl, hF⟩

theorem rerr_c (w : World) (g : Nat) (A : Option Addr) (m c : Nat) (a e0 : Int) (hg : w.heap[g]? = some (.cells #[.slice A m c, .int .i64 a, .int .i64 e0] 98 (0, 0))) (hl : m ≤ 140737400000000) (ha : 0 ≤ a ∧ a ≤ m) :
    Calls Try.prog 42 #[.pointer (some (⟨g, 0, none⟩))] w fun e w' => ∃ v, e = .returned v ∧ (v = .tuple #[.int .i64 a, .int .i64 e0] ∧ Ex w w') := by
  refine callsR Try.func42 (by kernel_rfl) (by kernel_rfl) ?_
  have hlt := blk_lt hg
  have hF : Ex w w := Kp.refl _ _
  refine seg 14 [.co [1, 1, 0], .co [1, 1, 1]] [(0, .pointer (some (⟨g, 0, none⟩)))] (by kernel_rfl) ?_
  refine drawT (fun _ => False) (by kernel_rfl) (by kernel_rfl) ?_
  intro w1 hx1 hz1
  have hg_1 := hg
  replace hg_1 := hx1.blk hg_1 (fun e => e)
  replace hF := hF.ex hx1
  have hS1 := Kp.refl (fun _ => False) w1
  refine segD [0, 1, 2, 4, 5, 6] [0, 1, 2, 4, 5, 6] [(8, .pointer (some (⟨g, 1, none⟩))), (12, .pointer (some (⟨g, 2, none⟩)))] (by kernel_rfl) ?_
  refine takeD (i := 3) (d := (some 9)) (s := vS (Instr.loadAt 3 (.pointer (some (⟨g, 1, none⟩))))) (v := .int .i64 a) (by kernel_rfl) (by kernel_rfl) (fun w' hw' => ld_run _ _ _ (by kernel_rfl) (hw'.cell (blk_cell hg_1 rfl) (fun e => e))) ?_
  refine segD [8] [0, 1, 2, 4, 5, 6, 3, 8] [(2, .int .i64 a), (12, .pointer (some (⟨g, 2, none⟩)))] (by kernel_rfl) ?_
  refine stD (i := 7) (by kernel_rfl) hS1 (ldR (some 13) 25 (⟨g, 2, none⟩) (.int .i64 e0) (by kernel_rfl) (by kernel_rfl) (blk_cell hg_1 rfl) ?_)
  refine segD [9] [0, 1, 2, 4, 5, 6, 3, 8, 7, 9] [(2, .int .i64 a), (3, .int .i64 e0)] (by kernel_rfl) ?_
  refine endD (by kernel_rfl) hS1 ?_
  refine retR [2, 3] [.int .i64 a, .int .i64 e0] (by kernel_rfl) (by kernel_rfl) (by kernel_rfl) ?_
  exact ⟨_, rfl, rfl, hF⟩

theorem rnew_c (w : World) (A : Option Addr) (n c : Nat) {lo hi : Nat} {x : List UInt8} (h : Cs lo hi w A (bs x)) (hn : x.length = n) (hl : n ≤ 140737400000000) :
    Calls Try.prog 37 #[.slice A n c] w fun e w' => ∃ v, e = .returned v ∧ (∃ g A' c', v = .pointer (some ⟨g, 0, none⟩) ∧ Ex w w' ∧ w'.heap[g]? = some (.cells #[.slice A' n c', .int .i64 0, .int .i64 0] 98 (0, 0)) ∧ Cs w.heap.size g w' A' (bs x) ∧ w.heap.size ≤ g ∧ n ≤ c' ∧ g < w'.heap.size) := by
  refine callsR Try.func37 (by kernel_rfl) (by kernel_rfl) ?_
  replace h := h.old
  have hF : Ex w w := Kp.refl _ _
  refine seg 7 [.op [1, 0] 1, .co [1, 1]] [(3, .slice A n c)] (by kernel_rfl) ?_
  have hll1 : x.length = n := (by first | omega | (simp; omega))
  refine st (callR (some 4) 58 #[.slice A n c] Try.call58 (copied_c w A n c h hll1 (by omega)) (by kernel_rfl) ?_)
  rintro _ w1 ⟨A1, c1, rfl, hx1, hn1⟩
  have hz1 := hx1.size
  have hc1 := own_cap hn1
  replace hF := hF.ex hx1
  refine seg 1 [.op [1, 0] 3, .co [1, 1]] [(5, .agg #[.slice A1 n c1, .int .i64 0, .int .i64 0])] (by kernel_rfl) ?_
  have hcs := Cs.of_own hn1
  have hcc := own_cap hn1
  have hlt2 := own_lt hn1
  refine st (newR (some 6) (fun g => .pointer (some ⟨g, 0, none⟩)) (.cells #[.slice A1 n c1, .int .i64 0, .int .i64 0] 98) (by kernel_rfl) ?_)
  intro g3 w3 hgs3 hx3 hg3 hz3
  replace hn1 := own_ex hn1 hx3
  replace hF := hF.ex hx3
  rw [hgs3] at hcs
  replace hcs := hcs.ex hx3
  refine seg 2 [.co [1, 1]] [(2, .pointer (some (⟨g3, 0, none⟩)))] (by kernel_rfl) ?_
  refine retR [2] [.pointer (some (⟨g3, 0, none⟩))] (by kernel_rfl) (by kernel_rfl) (by kernel_rfl) ?_
  exact ⟨_, rfl, _, _, _, rfl, hF, hg3, hcs, by omega, hcc.1, by omega⟩

theorem rtake_nil (w : World) (n : Int) :
    Calls Try.prog 62 #[.pointer none, .int .i64 n] w fun e w' => ∃ v, e = .returned v ∧ (v = .slice none 0 0 ∧ Ex w w') := by
  refine callsR Try.func62 (by kernel_rfl) (by kernel_rfl) ?_
  have hF : Ex w w := Kp.refl _ _
  refine seg 22 [.co [1, 0, 1, 0, 1], .co [1, 1]] [(4, .slice none 0 0)] (by kernel_rfl) ?_
  refine retR [4] [.slice none 0 0] (by kernel_rfl) (by kernel_rfl) (by kernel_rfl) ?_
  exact ⟨_, rfl, rfl, hF⟩

theorem rnum_nil (w : World) (n : Int) :
    Calls Try.prog 39 #[.pointer none, .int .i64 n] w fun e w' => ∃ v, e = .returned v ∧ (v = .int .u64 0 ∧ Ex w w') := by
  refine callsR Try.func39 (by kernel_rfl) (by kernel_rfl) ?_
  have hF : Ex w w := Kp.refl _ _
  refine seg 8 [.op [1, 0, 0] 1, .co [1, 0, 1], .co [1, 1]] [(0, .pointer none), (1, .int .i64 n), (5, .int .i64 n)] (by kernel_rfl) ?_
  refine st (callR (some 6) 52 #[.int .i64 n] Try.call52 (wide_c w n) (by kernel_rfl) ?_)
  rintro _ _ ⟨rfl, rfl⟩
  refine seg 2 [.co [1, 0, 1], .co [1, 1]] [(0, .pointer none), (1, .int .i64 n), (7, .bool (!(wideB n)))] (by kernel_rfl) ?_
  rcases bsplit (wideB n) with hb1 | hb1
  · rw [hb1]
    have h1 := wide_of hb1
    refine seg 6 [.op [1, 1, 0] 2, .co [1, 1, 1]] [(8, .pointer none), (9, .int .i64 n)] (by kernel_rfl) ?_
    refine st (callR (some 10) 62 #[.pointer none, .int .i64 n] Try.call62 (rtake_nil w n) (by kernel_rfl) ?_)
    rintro _ w2 ⟨rfl, hx2⟩
    have hz2 := hx2.size
    replace hF := hF.ex hx2
    have hll3 : ([] : List UInt8).length = 0 := rfl
    refine st (callR (some 11) 54 #[.slice none 0 0] Try.call54 (load_c w2 none 0 0 (Cs.nil 0 0 _ _) hll3 (by omega)) (by kernel_rfl) ?_)
    rintro _ _ ⟨rfl, rfl⟩
    refine seg 2 [.co [1, 1, 1]] [(4, .int .u64 (le ([] : List UInt8) : Int))] (by kernel_rfl) ?_
    refine retR [4] [.int .u64 (le ([] : List UInt8) : Int)] (by kernel_rfl) (by kernel_rfl) (by kernel_rfl) ?_
    exact ⟨_, rfl, rfl, hF⟩
  · rw [hb1]
    refine seg 8 [.op [1, 1, 0] 2, .co [1, 1, 1]] [(8, .pointer none), (9, .int .i64 (-1))] (by kernel_rfl) ?_
    refine st (callR (some 10) 62 #[.pointer none, .int .i64 (-1)] Try.call62 (rtake_nil w (-1)) (by kernel_rfl) ?_)
    rintro _ w4 ⟨rfl, hx4⟩
    have hz4 := hx4.size
    replace hF := hF.ex hx4
    have hll5 : ([] : List UInt8).length = 0 := rfl
    refine st (callR (some 11) 54 #[.slice none 0 0] Try.call54 (load_c w4 none 0 0 (Cs.nil 0 0 _ _) hll5 (by omega)) (by kernel_rfl) ?_)
    rintro _ _ ⟨rfl, rfl⟩
    refine seg 2 [.co [1, 1, 1]] [(4, .int .u64 (le ([] : List UInt8) : Int))] (by kernel_rfl) ?_
    refine retR [4] [.int .u64 (le ([] : List UInt8) : Int)] (by kernel_rfl) (by kernel_rfl) (by kernel_rfl) ?_
    exact ⟨_, rfl, rfl, hF⟩

theorem rbytes_nil (w : World) (n : Int) :
    Calls Try.prog 41 #[.pointer none, .int .i64 n] w fun e w' => ∃ v, e = .returned v ∧ (∃ A' c', v = .slice A' 0 c' ∧ Ex w w') := by
  refine callsR Try.func41 (by kernel_rfl) (by kernel_rfl) ?_
  have hF : Ex w w := Kp.refl _ _
  refine seg 8 [.op [1, 0] 2, .co [1, 1]] [(5, .pointer none), (6, .int .i64 n)] (by kernel_rfl) ?_
  refine st (callR (some 7) 62 #[.pointer none, .int .i64 n] Try.call62 (rtake_nil w n) (by kernel_rfl) ?_)
  rintro _ w1 ⟨rfl, hx1⟩
  have hz1 := hx1.size
  replace hF := hF.ex hx1
  have hll2 : ([] : List UInt8).length = 0 := rfl
  refine st (callR (some 8) 58 #[.slice none 0 0] Try.call58 (copied_c w1 none 0 0 (Cs.nil 0 0 _ _) hll2 (by omega)) (by kernel_rfl) ?_)
  rintro _ w2 ⟨A2, c2, rfl, hx2, hn2⟩
  have hz2 := hx2.size
  have hc2 := own_cap hn2
  replace hF := hF.ex hx2
  refine seg 2 [.co [1, 1]] [(4, .slice A2 0 c2)] (by kernel_rfl) ?_
  refine retR [4] [.slice A2 0 c2] (by kernel_rfl) (by kernel_rfl) (by kernel_rfl) ?_
  exact ⟨_, rfl, _, _, rfl, hF⟩

theorem rtext_nil (w : World) (n : Int) :
    Calls Try.prog 40 #[.pointer none, .int .i64 n] w fun e w' => ∃ v, e = .returned v ∧ (v = .slice none 0 0 ∧ Ex w w') := by
  refine callsR Try.func40 (by kernel_rfl) (by kernel_rfl) ?_
  have hF : Ex w w := Kp.refl _ _
  refine seg 22 [.co [1, 0, 1, 0, 1], .co [1, 1]] [(4, .slice none 0 0)] (by kernel_rfl) ?_
  refine retR [4] [.slice none 0 0] (by kernel_rfl) (by kernel_rfl) (by kernel_rfl) ?_
  exact ⟨_, rfl, rfl, hF⟩

theorem rleft_nil (w : World) :
    Calls Try.prog 43 #[.pointer none] w fun e w' => ∃ v, e = .returned v ∧ (v = .int .i64 0 ∧ Ex w w') := by
  refine callsR Try.func43 (by kernel_rfl) (by kernel_rfl) ?_
  have hF : Ex w w := Kp.refl _ _
  refine seg 15 [.co [1, 0, 1, 0, 1], .co [1, 1]] [(2, .int .i64 0)] (by kernel_rfl) ?_
  refine retR [2] [.int .i64 0] (by kernel_rfl) (by kernel_rfl) (by kernel_rfl) ?_
  exact ⟨_, rfl, rfl, hF⟩

theorem rerr_nil (w : World) :
    Calls Try.prog 42 #[.pointer none] w fun e w' => ∃ v, e = .returned v ∧ (v = .tuple #[.int .i64 0, .int .i64 5] ∧ Ex w w') := by
  refine callsR Try.func42 (by kernel_rfl) (by kernel_rfl) ?_
  have hF : Ex w w := Kp.refl _ _
  refine seg 17 [.co [1, 0, 1, 0, 1], .co [1, 1]] [(2, .int .i64 0), (3, .int .i64 5)] (by kernel_rfl) ?_
  refine retR [2, 3] [.int .i64 0, .int .i64 5] (by kernel_rfl) (by kernel_rfl) (by kernel_rfl) ?_
  exact ⟨_, rfl, rfl, hF⟩

theorem wright_nil (w : World) (e1 m : Int) :
    Calls Try.prog 61 #[.pointer none, .int .i64 e1, .int .i64 m] w fun e w' => ∃ v, e = .returned v ∧ (v = .bool false ∧ Ex w w') := by
  refine callsR Try.func61 (by kernel_rfl) (by kernel_rfl) ?_
  have hF : Ex w w := Kp.refl _ _
  refine seg 22 [.co [1, 0, 1, 0, 1], .co [1, 1]] [(6, .bool false)] (by kernel_rfl) ?_
  refine retR [6] [.bool false] (by kernel_rfl) (by kernel_rfl) (by kernel_rfl) ?_
  exact ⟨_, rfl, rfl, hF⟩

theorem wnum_nil (w : World) (n : Nat) (hn : n < 18446744073709551616) (wd : Int) :
    Calls Try.prog 32 #[.pointer none, .int .u64 (n : Int), .int .i64 wd] w fun e w' => ∃ v, e = .returned v ∧ (v = .tuple #[] ∧ Ex w w') := by
  refine callsR Try.func32 (by kernel_rfl) (by kernel_rfl) ?_
  have hF : Ex w w := Kp.refl _ _
  refine seg 9 [.op [1, 0, 0, 0] 1, .co [1, 0, 0, 1], .bl 0, .co [1, 1]] [(0, .pointer none), (1, .int .u64 (n : Int)), (2, .int .i64 wd), (6, .int .i64 0), (8, .int .i64 wd)] (by kernel_rfl) ?_
  refine st (callR (some 9) 52 #[.int .i64 wd] Try.call52 (wide_c w wd) (by kernel_rfl) ?_)
  rintro _ _ ⟨rfl, rfl⟩
  refine seg 3 [.co [1, 0, 0, 1], .bl 0, .co [1, 1]] [(0, .pointer none), (1, .int .u64 (n : Int)), (2, .int .i64 wd), (6, .int .i64 0), (7, .bool (!(wideB wd)))] (by kernel_rfl) ?_
  rcases bsplit (wideB wd) with hb1 | hb1
  · rw [hb1]
    have h1 := wide_of hb1
    refine seg 5 [.op [1, 0, 0, 1, 1, 0] 2, .co [1, 0, 0, 1, 1, 1], .bl 0, .co [1, 1]] [(0, .pointer none), (1, .int .u64 (n : Int)), (2, .int .i64 wd), (6, .int .i64 0), (12, .int .u64 (n : Int)), (13, .int .i64 wd)] (by kernel_rfl) ?_
    refine st (callR (some 14) 56 #[.int .u64 (n : Int), .int .i64 wd] Try.call56 (fits_c w n wd (by omega) (by omega)) (by kernel_rfl) ?_)
    rintro _ _ ⟨rfl, rfl⟩
    refine seg 3 [.co [1, 0, 0, 1, 1, 1], .bl 0, .co [1, 1]] [(0, .pointer none), (1, .int .u64 (n : Int)), (2, .int .i64 wd), (6, .int .i64 0), (11, .bool (!(fitsB n (wd).toNat)))] (by kernel_rfl) ?_
    rcases bsplit (fitsB n (wd).toNat) with hb2 | hb2
    · rw [hb2]
      refine seg 8 [.op [1, 1, 0] 3, .co [1, 1, 1]] [(0, .pointer none), (1, .int .u64 (n : Int)), (2, .int .i64 wd), (16, .pointer none), (17, .int .i64 0), (18, .int .i64 wd)] (by kernel_rfl) ?_
      refine st (callR (some 19) 61 #[.pointer none, .int .i64 0, .int .i64 wd] Try.call61 (wright_nil w 0 wd) (by kernel_rfl) ?_)
      rintro _ w3 ⟨rfl, hx3⟩
      have hz3 := hx3.size
      replace hF := hF.ex hx3
      refine seg 3 [] [] (by kernel_rfl) ?_
      refine endR [] [] (by kernel_rfl) (by kernel_rfl) ?_
      exact ⟨_, rfl, rfl, hF⟩
    · rw [hb2]
      refine seg 10 [.op [1, 1, 0] 3, .co [1, 1, 1]] [(0, .pointer none), (1, .int .u64 (n : Int)), (2, .int .i64 wd), (16, .pointer none), (17, .int .i64 9), (18, .int .i64 wd)] (by kernel_rfl) ?_
      refine st (callR (some 19) 61 #[.pointer none, .int .i64 9, .int .i64 wd] Try.call61 (wright_nil w 9 wd) (by kernel_rfl) ?_)
      rintro _ w4 ⟨rfl, hx4⟩
      have hz4 := hx4.size
      replace hF := hF.ex hx4
      refine seg 3 [] [] (by kernel_rfl) ?_
      refine endR [] [] (by kernel_rfl) (by kernel_rfl) ?_
      exact ⟨_, rfl, rfl, hF⟩
  · rw [hb1]
    refine seg 10 [.op [1, 1, 0] 3, .co [1, 1, 1]] [(0, .pointer none), (1, .int .u64 (n : Int)), (2, .int .i64 wd), (16, .pointer none), (17, .int .i64 1), (18, .int .i64 wd)] (by kernel_rfl) ?_
    refine st (callR (some 19) 61 #[.pointer none, .int .i64 1, .int .i64 wd] Try.call61 (wright_nil w 1 wd) (by kernel_rfl) ?_)
    rintro _ w5 ⟨rfl, hx5⟩
    have hz5 := hx5.size
    replace hF := hF.ex hx5
    refine seg 3 [] [] (by kernel_rfl) ?_
    refine endR [] [] (by kernel_rfl) (by kernel_rfl) ?_
    exact ⟨_, rfl, rfl, hF⟩

theorem wbytes_nil (w : World) (A : Option Addr) (n c : Nat) :
    Calls Try.prog 33 #[.pointer none, .slice A n c] w fun e w' => ∃ v, e = .returned v ∧ (v = .tuple #[] ∧ Ex w w') := by
  refine callsR Try.func33 (by kernel_rfl) (by kernel_rfl) ?_
  have hF : Ex w w := Kp.refl _ _
  refine seg 5 [.op [0] 3, .co [1]] [(0, .pointer none), (1, .slice A n c), (4, .pointer none), (6, .int .i64 (n : Int))] (by kernel_rfl) ?_
  refine st (callR (some 7) 61 #[.pointer none, .int .i64 0, .int .i64 (n : Int)] Try.call61 (wright_nil w 0 (n : Int)) (by kernel_rfl) ?_)
  rintro _ w1 ⟨rfl, hx1⟩
  have hz1 := hx1.size
  replace hF := hF.ex hx1
  refine seg 3 [] [] (by kernel_rfl) ?_
  refine endR [] [] (by kernel_rfl) (by kernel_rfl) ?_
  exact ⟨_, rfl, rfl, hF⟩

theorem wtext_nil (w : World) (A : Option Addr) (n c : Nat) (hn : n ≤ 9223372036854775807) :
    Calls Try.prog 34 #[.pointer none, .slice A n c] w fun e w' => ∃ v, e = .returned v ∧ (v = .tuple #[] ∧ Ex w w') := by
  refine callsR Try.func34 (by kernel_rfl) (by kernel_rfl) ?_
  have hF : Ex w w := Kp.refl _ _
  refine seg 11 [.co [1, 0, 1], .co [1, 1]] [(0, .pointer none), (1, .slice A n c), (4, .int .i64 0), (7, .bool (decide ((n : Int) > 65535)))] (by kernel_rfl) ?_
  rcases bsplit (decide ((n : Int) > 65535)) with hb1 | hb1
  · rw [hb1]
    have h1 := of_decide_eq_true hb1
    refine seg 12 [.op [1, 1, 0] 6, .co [1, 1, 1]] [(0, .pointer none), (1, .slice A n c), (8, .pointer none), (9, .int .i64 9), (13, .int .i64 (IntKind.i64.wrap ((if 65535 < (n : Int) then 65535 else (n : Int)) + 2)))] (by kernel_rfl) ?_
    rw [show IntKind.i64.wrap ((if 65535 < (n : Int) then 65535 else (n : Int)) + 2) = ((if 65535 < (n : Int) then 65535 else (n : Int)) + 2) from w64 (by omega)]
    refine st (callR (some 14) 61 #[.pointer none, .int .i64 9, .int .i64 ((if 65535 < (n : Int) then 65535 else (n : Int)) + 2)] Try.call61 (wright_nil w 9 ((if 65535 < (n : Int) then 65535 else (n : Int)) + 2)) (by kernel_rfl) ?_)
    rintro _ w2 ⟨rfl, hx2⟩
    have hz2 := hx2.size
    replace hF := hF.ex hx2
    refine seg 3 [] [] (by kernel_rfl) ?_
    refine endR [] [] (by kernel_rfl) (by kernel_rfl) ?_
    exact ⟨_, rfl, rfl, hF⟩
  · rw [hb1]
    have h1 := of_decide_eq_false hb1
    refine seg 10 [.op [1, 1, 0] 6, .co [1, 1, 1]] [(0, .pointer none), (1, .slice A n c), (8, .pointer none), (9, .int .i64 0), (13, .int .i64 (IntKind.i64.wrap ((if 65535 < (n : Int) then 65535 else (n : Int)) + 2)))] (by kernel_rfl) ?_
    rw [show IntKind.i64.wrap ((if 65535 < (n : Int) then 65535 else (n : Int)) + 2) = ((if 65535 < (n : Int) then 65535 else (n : Int)) + 2) from w64 (by omega)]
    refine st (callR (some 14) 61 #[.pointer none, .int .i64 0, .int .i64 ((if 65535 < (n : Int) then 65535 else (n : Int)) + 2)] Try.call61 (wright_nil w 0 ((if 65535 < (n : Int) then 65535 else (n : Int)) + 2)) (by kernel_rfl) ?_)
    rintro _ w3 ⟨rfl, hx3⟩
    have hz3 := hx3.size
    replace hF := hF.ex hx3
    refine seg 3 [] [] (by kernel_rfl) ?_
    refine endR [] [] (by kernel_rfl) (by kernel_rfl) ?_
    exact ⟨_, rfl, rfl, hF⟩

theorem wdone_nil (w : World) :
    Calls Try.prog 35 #[.pointer none] w fun e w' => ∃ v, e = .returned v ∧ (v = .tuple #[.slice none 0 0, .int .i64 5] ∧ Ex w w') := by
  refine callsR Try.func35 (by kernel_rfl) (by kernel_rfl) ?_
  have hF : Ex w w := Kp.refl _ _
  refine seg 19 [.co [1, 0, 0, 1, 0, 1], .bl 0, .co [1, 1]] [(2, .slice none 0 0), (3, .int .i64 5)] (by kernel_rfl) ?_
  refine retR [2, 3] [.slice none 0 0, .int .i64 5] (by kernel_rfl) (by kernel_rfl) (by kernel_rfl) ?_
  exact ⟨_, rfl, rfl, hF⟩

theorem wlen_nil (w : World) :
    Calls Try.prog 36 #[.pointer none] w fun e w' => ∃ v, e = .returned v ∧ (v = .int .i64 0 ∧ Ex w w') := by
  refine callsR Try.func36 (by kernel_rfl) (by kernel_rfl) ?_
  have hF : Ex w w := Kp.refl _ _
  refine seg 15 [.co [1, 0, 1, 0, 1], .co [1, 1]] [(2, .int .i64 0)] (by kernel_rfl) ?_
  refine retR [2] [.int .i64 0] (by kernel_rfl) (by kernel_rfl) (by kernel_rfl) ?_
  exact ⟨_, rfl, rfl, hF⟩

end Go.Proofs.Ytgkiegplmohgkaa.F
