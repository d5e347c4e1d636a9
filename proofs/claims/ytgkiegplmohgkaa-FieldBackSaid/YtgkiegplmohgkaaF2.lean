/- ref01: contracts. -/
import Derived.Test.YtgkiegplmohgkaaF1
set_option linter.unusedVariables false
set_option linter.unusedSimpArgs false
namespace Go.Proofs.Ytgkiegplmohgkaa.F
open Go Go.RowKit Go.Proofs.Ytgkiegplmohgkaa.K
theorem rwidth_c (w : World) (a : Int) :
    Calls Try.prog 20 #[.int .i64 a] w fun e w' => ∃ v, e = .returned v ∧ (v = .bool (wideB a) ∧ w = w') := by
  refine callsR Try.func20 (by kernel_rfl) (by kernel_rfl) ?_
  refine seg 9 [.op [1, 0] 3, .co [1, 1]] [(0, .int .i64 a), (5, .bool (a == 1))] (by kernel_rfl) ?_
  rcases bsplit (a == 1) with hb1 | hb1
  · rw [hb1]
    have h1 : a = 1 := by simpa using hb1
    refine seg 13 [.co [1, 1]] [(2, .bool true)] (by kernel_rfl) ?_
    refine retR [2] [.bool true] (by kernel_rfl) (by kernel_rfl) (by kernel_rfl) ?_
    exact ⟨_, rfl, by simp_all [packV, wideB], rfl⟩
  · rw [hb1]
    have h1 : a ≠ 1 := by simpa using hb1
    refine seg 4 [.op [1, 0] 7, .co [1, 1]] [(0, .int .i64 a), (9, .bool (a == 2))] (by kernel_rfl) ?_
    rcases bsplit (a == 2) with hb2 | hb2
    · rw [hb2]
      have h2 : a = 2 := by simpa using hb2
      refine seg 9 [.co [1, 1]] [(2, .bool true)] (by kernel_rfl) ?_
      refine retR [2] [.bool true] (by kernel_rfl) (by kernel_rfl) (by kernel_rfl) ?_
      exact ⟨_, rfl, by simp_all [packV, wideB], rfl⟩
    · rw [hb2]
      have h2 : a ≠ 2 := by simpa using hb2
      refine seg 4 [.op [1, 0] 11, .co [1, 1]] [(0, .int .i64 a), (13, .bool (a == 4))] (by kernel_rfl) ?_
      rcases bsplit (a == 4) with hb3 | hb3
      · rw [hb3]
        have h3 : a = 4 := by simpa using hb3
        refine seg 5 [.co [1, 1]] [(2, .bool true)] (by kernel_rfl) ?_
        refine retR [2] [.bool true] (by kernel_rfl) (by kernel_rfl) (by kernel_rfl) ?_
        exact ⟨_, rfl, by simp_all [packV, wideB], rfl⟩
      · rw [hb3]
        have h3 : a ≠ 4 := by simpa using hb3
        refine seg 5 [.co [1, 1]] [(2, .bool (a == 8))] (by kernel_rfl) ?_
        refine retR [2] [.bool (a == 8)] (by kernel_rfl) (by kernel_rfl) (by kernel_rfl) ?_
        exact ⟨_, rfl, by simp_all [packV, wideB], rfl⟩

theorem rin_c (w : World) (A : Option Addr) (len cap : Nat) (a b : Int) (hl : len ≤ 140737488355328) (ha : -9223372036854775808 ≤ a ∧ a ≤ 9223372036854775807) (hb : -9223372036854775808 ≤ b ∧ b ≤ 9223372036854775807) :
    Calls Try.prog 26 #[.slice A len cap, .int .i64 a, .int .i64 b] w fun e w' => ∃ v, e = .returned v ∧ (v = .bool (withinB len a b) ∧ w = w') := by
  refine callsR Try.func26 (by kernel_rfl) (by kernel_rfl) ?_
  refine seg 9 [.op [1, 0] 3, .co [1, 1]] [(0, .slice A len cap), (1, .int .i64 a), (2, .int .i64 b), (9, .bool (decide (a ≥ 0)))] (by kernel_rfl) ?_
  rcases bsplit (decide (a ≥ 0)) with hb1 | hb1
  · rw [hb1]
    have h1 := of_decide_eq_true hb1
    refine seg 4 [.op [1, 0] 7, .co [1, 1]] [(0, .slice A len cap), (1, .int .i64 a), (2, .int .i64 b), (13, .bool (decide (b ≥ 0)))] (by kernel_rfl) ?_
    rcases bsplit (decide (b ≥ 0)) with hb2 | hb2
    · rw [hb2]
      have h2 := of_decide_eq_true hb2
      refine seg 6 [.op [1, 0] 13, .co [1, 1]] [(0, .slice A len cap), (1, .int .i64 a), (2, .int .i64 b), (19, .bool (decide (a ≤ (len : Int))))] (by kernel_rfl) ?_
      rcases bsplit (decide (a ≤ (len : Int))) with hb3 | hb3
      · rw [hb3]
        have h3 := of_decide_eq_true hb3
        refine seg 9 [.co [1, 1]] [(6, .bool (decide (b ≤ (IntKind.i64.wrap ((len : Int) - a)))))] (by kernel_rfl) ?_
        rw [show IntKind.i64.wrap ((len : Int) - a) = ((len : Int) - a) from w64 (by omega)]
        refine retR [6] [.bool (decide (b ≤ ((len : Int) - a)))] (by kernel_rfl) (by kernel_rfl) (by kernel_rfl) ?_
        exact ⟨_, rfl, by rw [packV]; congr 1; rw [Bool.eq_iff_iff, within_iff]; first | (simp only [decide_eq_true_eq]; omega) | exact ⟨fun hx => (by cases hx), fun hx => (by exfalso; omega)⟩, rfl⟩
      · rw [hb3]
        have h3 := of_decide_eq_false hb3
        refine seg 9 [.co [1, 1]] [(6, .bool false)] (by kernel_rfl) ?_
        refine retR [6] [.bool false] (by kernel_rfl) (by kernel_rfl) (by kernel_rfl) ?_
        exact ⟨_, rfl, by rw [packV]; congr 1; rw [Bool.eq_iff_iff, within_iff]; first | (simp only [decide_eq_true_eq]; omega) | exact ⟨fun hx => (by cases hx), fun hx => (by exfalso; omega)⟩, rfl⟩
    · rw [hb2]
      have h2 := of_decide_eq_false hb2
      refine seg 15 [.co [1, 1]] [(6, .bool false)] (by kernel_rfl) ?_
      refine retR [6] [.bool false] (by kernel_rfl) (by kernel_rfl) (by kernel_rfl) ?_
      exact ⟨_, rfl, by rw [packV]; congr 1; rw [Bool.eq_iff_iff, within_iff]; first | (simp only [decide_eq_true_eq]; omega) | exact ⟨fun hx => (by cases hx), fun hx => (by exfalso; omega)⟩, rfl⟩
  · rw [hb1]
    have h1 := of_decide_eq_false hb1
    refine seg 19 [.co [1, 1]] [(6, .bool false)] (by kernel_rfl) ?_
    refine retR [6] [.bool false] (by kernel_rfl) (by kernel_rfl) (by kernel_rfl) ?_
    exact ⟨_, rfl, by rw [packV]; congr 1; rw [Bool.eq_iff_iff, within_iff]; first | (simp only [decide_eq_true_eq]; omega) | exact ⟨fun hx => (by cases hx), fun hx => (by exfalso; omega)⟩, rfl⟩

theorem rfits_c (w : World) (n : Nat) (m : Int) (hn : n < 18446744073709551616) (hm : 0 ≤ m ∧ m ≤ 8) :
    Calls Try.prog 21 #[.int .u64 (n : Int), .int .i64 m] w fun e w' => ∃ v, e = .returned v ∧ (v = .bool (fitsB n m.toNat) ∧ w = w') := by
  refine callsR Try.func21 (by kernel_rfl) (by kernel_rfl) ?_
  refine seg 10 [.co [1, 0, 1, 0], .bl 0, .co [1, 1]] [(0, .int .u64 (n : Int)), (1, .int .i64 m), (5, .int .i64 0)] (by kernel_rfl) ?_
  refine loopR 0 (fun (i : Nat) => [(0, .int .u64 ((dv n i : Nat) : Int)), (1, .int .i64 m), (5, .int .i64 (i : Int))]) (fun (i : Nat) (wx : World) => w = wx ∧ (i : Int) ≤ m) (fun (i : Nat) => m.toNat - i) 0 (by kernel_rfl) (by kernel_rfl) (by kernel_rfl) ?_ ?_
  · exact ⟨rfl, by omega⟩
  rintro i _ ⟨rfl, hi⟩
  have hlt := dv_lt n i hn
  refine seg 7 [.co [1, 0, 1, 0, 0, 0, 1], .co [1, 0, 1, 0, 0, 1], .le 0, .bl 0, .co [1, 1]] [(0, .int .u64 ((dv n i : Nat) : Int)), (1, .int .i64 m), (5, .int .i64 (i : Int)), (8, .bool (decide ((i : Int) < m)))] (by kernel_rfl) ?_
  rcases bsplit (decide ((i : Int) < m)) with hb1 | hb1
  · rw [hb1]
    have h1 := of_decide_eq_true hb1
    refine seg 15 [.le 0, .bl 0, .co [1, 1]] [(0, .int .u64 (IntKind.u64.wrap (Int.tdiv ((dv n i : Nat) : Int) 256))), (1, .int .i64 m), (5, .int .i64 (IntKind.i64.wrap ((i : Int) + 1)))] (by kernel_rfl) ?_
    rw [show Int.tdiv ((dv n i : Nat) : Int) 256 = (((dv n i : Nat) / 256 : Nat) : Int) from rfl]
    rw [show IntKind.u64.wrap (((dv n i : Nat) / 256 : Nat) : Int) = (((dv n i : Nat) / 256 : Nat) : Int) from wu64 (by omega)]
    rw [show IntKind.i64.wrap ((i : Int) + 1) = ((i : Int) + 1) from w64 (by omega)]
    exact leR (i + 1) (by omega) ⟨rfl, by omega⟩ (by kernel_rfl)
  · rw [hb1]
    have h1 := of_decide_eq_false hb1
    refine seg 8 [.co [1, 1, 1]] [(4, .bool (((dv n i : Nat) : Int) == 0))] (by kernel_rfl) ?_
    refine retR [4] [.bool (((dv n i : Nat) : Int) == 0)] (by kernel_rfl) (by kernel_rfl) (by kernel_rfl) ?_
    obtain rfl : i = m.toNat := by omega
    exact ⟨_, rfl, by rw [← fits_div, ← dv_eq]; rfl, rfl⟩

theorem rstore_c (w : World) (n : Nat) (hn : n < 18446744073709551616) (wd : Int) (hw0 : 0 ≤ wd) (hw : wd ≤ 8) :
    Calls Try.prog 22 #[.int .u64 (n : Int), .int .i64 wd] w fun e w' => ∃ v, e = .returned v ∧ (∃ A' c', v = .slice A' wd.toNat c' ∧ Ex w w' ∧ w'.ownsRow w.heap.size 5 1 (.slice A' wd.toNat c') wd.toNat (bs (enc wd.toNat n))) := by
  refine callsR Try.func22 (by kernel_rfl) (by kernel_rfl) ?_
  refine seg 14 [.co [1, 1, 0, 1, 0], .bl 0, .co [1, 1, 1]] [(0, .int .u64 (n : Int)), (1, .int .i64 wd), (5, .slice none 0 0), (6, .int .i64 0)] (by kernel_rfl) ?_
  refine loopR 0 (fun (x : Nat × Option Addr × Nat) => [(0, .int .u64 ((dv n x.1 : Nat) : Int)), (1, .int .i64 wd), (5, .slice x.2.1 x.1 x.2.2), (6, .int .i64 (x.1 : Int))]) (fun (x : Nat × Option Addr × Nat) (w1 : World) => (x.1 : Int) ≤ wd ∧ w1.ownsRow w.heap.size 5 1 (.slice x.2.1 x.1 x.2.2) x.1 (bs (enc x.1 n)) ∧ Ex w w1) (fun (x : Nat × Option Addr × Nat) => wd.toNat - x.1) (0, none, 0) (by kernel_rfl) (by kernel_rfl) (by kernel_rfl) ?_ ?_
  · exact ⟨hw0, World.ownsRow_nil _ _ _ _, Kp.refl _ _⟩
  rintro ⟨i, A1, c1⟩ w1 ⟨hi, hn1, hF⟩
  simp only [] at hi hn1 hF
  have hsz := hF.size
  have hlt := dv_lt n i hn
  refine seg 7 [.co [1, 1, 0, 1, 0, 0, 0, 1], .co [1, 1, 0, 1, 0, 0, 1], .le 0, .bl 0, .co [1, 1, 1]] [(0, .int .u64 ((dv n i : Nat) : Int)), (1, .int .i64 wd), (5, .slice A1 i c1), (6, .int .i64 (i : Int)), (9, .bool (decide ((i : Int) < wd)))] (by kernel_rfl) ?_
  rcases bsplit (decide ((i : Int) < wd)) with hb1 | hb1
  · rw [hb1]
    have h1 := of_decide_eq_true hb1
    refine seg 10 [.op [1, 1, 0, 1, 0, 0, 1, 0, 0, 0] 4, .co [1, 1, 0, 1, 0, 0, 1, 0, 0, 1], .bl 1, .co [1, 1, 0, 1, 0, 0, 1, 1], .le 0, .bl 0, .co [1, 1, 1]] [(0, .int .u64 ((dv n i : Nat) : Int)), (1, .int .i64 wd), (6, .int .i64 (i : Int)), (12, .slice A1 i c1), (15, .int .u8 (IntKind.u8.wrap (Int.tmod ((dv n i : Nat) : Int) 256)))] (by kernel_rfl) ?_
    rw [show Int.tmod ((dv n i : Nat) : Int) 256 = (((dv n i : Nat) % 256 : Nat) : Int) from rfl]
    rw [show IntKind.u8.wrap (((dv n i : Nat) % 256 : Nat) : Int) = ((UInt8.ofNat (n / 256 ^ i)).toNat : Int) from by rw [dv_eq]; exact wrap_mod_byte _]
    refine st (newR (some 16) (fun g => .slice (some ⟨g, 0, none⟩) 1 1) (.cells #[.int .u8 ((UInt8.ofNat (n / 256 ^ i)).toNat : Int)] 5) (by kernel_rfl) ?_)
    intro g2 w2 hgs2 hx2 hg2 hz2
    replace hn1 := own_ex hn1 hx2
    replace hF := hF.ex hx2
    refine st (appR (some 17) 22 5 1 1 (.int .u8 0) 22 w.heap.size A1 (some ⟨g2, 0, none⟩) i c1 1 1 (bs (enc i n)) ([.int .u8 ((UInt8.ofNat (n / 256 ^ i)).toNat : Int)]) ⟨Try.underlying22, by kernel_rfl⟩ rfl (by decide) (by kernel_rfl) hn1 (Cs.of_blk hg2) (by simp) (by simp [Value.oneCell']) (by omega) (by decide) (by omega) ?_)
    intro A3 c3 w3 hn3 hx3 hb3 hc3 hz3
    replace hF := hF.step hx3 (fun k hk hlt => absurd (own_ge hn1 hk) (by omega))
    refine seg 13 [.le 0, .bl 0, .co [1, 1, 1]] [(0, .int .u64 (IntKind.u64.wrap (Int.tdiv ((dv n i : Nat) : Int) 256))), (1, .int .i64 wd), (5, .slice A3 (i + 1) c3), (6, .int .i64 (IntKind.i64.wrap ((i : Int) + 1)))] (by kernel_rfl) ?_
    rw [show Int.tdiv ((dv n i : Nat) : Int) 256 = (((dv n i : Nat) / 256 : Nat) : Int) from rfl]
    rw [show IntKind.u64.wrap (((dv n i : Nat) / 256 : Nat) : Int) = (((dv n i : Nat) / 256 : Nat) : Int) from wu64 (by omega)]
    rw [show IntKind.i64.wrap ((i : Int) + 1) = ((i : Int) + 1) from w64 (by omega)]
    refine leR (i + 1, A3, c3) (by simp only []; omega) ⟨by simp only []; omega, ?_, hF⟩ (by kernel_rfl)
    show w3.ownsRow w.heap.size 5 1 (.slice A3 (i + 1) c3) (i + 1) (bs (enc (i + 1) n))
    rw [enc_snoc, bs_append]
    exact hn3
  · rw [hb1]
    have h1 := of_decide_eq_false hb1
    refine seg 7 [.co [1, 1, 1, 1]] [(4, .slice A1 i c1)] (by kernel_rfl) ?_
    refine retR [4] [.slice A1 i c1] (by kernel_rfl) (by kernel_rfl) (by kernel_rfl) ?_
    obtain rfl : i = wd.toNat := by omega
    exact ⟨_, rfl, _, _, rfl, hF, hn1⟩

theorem rload_c (w : World) (A : Option Addr) (len cap : Nat) {lo hi : Nat} {l : List UInt8} (h : Cs lo hi w A (bs l)) (hl : l.length = len) (hlen : len ≤ 140737488350000) (a wd : Int) (ha : 0 ≤ a) (hw0 : 1 ≤ wd) (hw : wd ≤ 8) (hin : a + wd ≤ len) :
    Calls Try.prog 55 #[.slice A len cap, .int .i64 a, .int .i64 wd] w fun e w' => ∃ v, e = .returned v ∧ (v = .int .u64 (le ((l.drop a.toNat).take wd.toNat) : Int) ∧ w = w') := by
  obtain ⟨a, rfl⟩ := Int.eq_ofNat_of_zero_le ha
  obtain ⟨wd, rfl⟩ := Int.eq_ofNat_of_zero_le (show 0 ≤ wd by omega)
  refine callsR Try.func55 (by kernel_rfl) (by kernel_rfl) ?_
  refine seg 16 [.co [1, 1, 0, 1, 0], .bl 0, .co [1, 1, 1]] [(0, .slice A len cap), (1, .int .i64 (a : Int)), (7, .int .u64 0), (8, .int .i64 (IntKind.i64.wrap ((wd : Int) - 1)))] (by kernel_rfl) ?_
  rw [show IntKind.i64.wrap ((wd : Int) - 1) = ((wd : Int) - 1) from w64 (by omega)]
  rw [show (wd : Int) - 1 = (wd : Int) - 1 - ((0 : Nat) : Int) from by omega]
  refine loopR 0 (fun (j : Nat) => [(0, .slice A len cap), (1, .int .i64 (a : Int)), (7, .int .u64 ((le ((l.drop (a + (wd - j))).take j) : Nat) : Int)), (8, .int .i64 ((wd : Int) - 1 - (j : Int)))]) (fun (j : Nat) (wx : World) => w = wx ∧ j ≤ wd) (fun (j : Nat) => wd - j) 0 (by kernel_rfl) (by kernel_rfl) (by kernel_rfl) ?_ ?_
  · exact ⟨rfl, by omega⟩
  rintro j _ ⟨rfl, hj⟩
  have hle := le_take_lt (l.drop (a + (wd - j))) j
  refine seg 6 [.co [1, 1, 0, 1, 0, 0, 0, 1], .co [1, 1, 0, 1, 0, 0, 1], .le 0, .bl 0, .co [1, 1, 1]] [(0, .slice A len cap), (1, .int .i64 (a : Int)), (7, .int .u64 ((le ((l.drop (a + (wd - j))).take j) : Nat) : Int)), (8, .int .i64 ((wd : Int) - 1 - (j : Int))), (12, .bool (decide (((wd : Int) - 1 - (j : Int)) ≥ 0)))] (by kernel_rfl) ?_
  rcases bsplit (decide (((wd : Int) - 1 - (j : Int)) ≥ 0)) with hb1 | hb1
  · rw [hb1]
    have h1 := of_decide_eq_true hb1
    refine seg 11 [.op [1, 1, 0, 1, 0, 0, 1, 0, 0] 6, .bl 1, .co [1, 1, 0, 1, 0, 0, 1, 1], .le 0, .bl 0, .co [1, 1, 1]] [(0, .slice A len cap), (1, .int .i64 (a : Int)), (8, .int .i64 ((wd : Int) - 1 - (j : Int))), (16, .int .u64 (IntKind.u64.wrap (((le ((l.drop (a + (wd - j))).take j) : Nat) : Int) * 256))), (17, .slice A len cap), (20, .int .i64 (IntKind.i64.wrap ((a : Int) + ((wd : Int) - 1 - (j : Int)))))] (by kernel_rfl) ?_
    rw [show IntKind.u64.wrap (((le ((l.drop (a + (wd - j))).take j) : Nat) : Int) * 256) = (((le ((l.drop (a + (wd - j))).take j) : Nat) : Int) * 256) from wu64 (by have := p256 j (by omega); omega)]
    rw [show IntKind.i64.wrap ((a : Int) + ((wd : Int) - 1 - (j : Int))) = ((a : Int) + ((wd : Int) - 1 - (j : Int))) from w64 (by omega)]
    have u3 := UInt8.toNat_lt (l.getD (a + (wd - 1 - j)) 0)
    obtain ⟨ad2, ea2, l12, l22, ca2⟩ := h.at2 (bs_get l (a + (wd - 1 - j)) (by omega))
    refine st (idxR (some 21) 22 5 1 A ad2 len cap .i64 ((a : Int) + ((wd : Int) - 1 - (j : Int))) (a + (wd - 1 - j)) ea2 (by kernel_rfl) (by kernel_rfl) (by omega) (by omega) (by omega) ?_)
    refine st (ldR (some 22) 5 (ad2.add (a + (wd - 1 - j))) (.int .u8 ((l.getD (a + (wd - 1 - j)) 0).toNat : Int)) (by kernel_rfl) (by kernel_rfl) ca2 ?_)
    refine seg 10 [.le 0, .bl 0, .co [1, 1, 1]] [(0, .slice A len cap), (1, .int .i64 (a : Int)), (7, .int .u64 (IntKind.u64.wrap ((((le ((l.drop (a + (wd - j))).take j) : Nat) : Int) * 256) + (IntKind.u64.wrap ((l.getD (a + (wd - 1 - j)) 0).toNat : Int))))), (8, .int .i64 (IntKind.i64.wrap (((wd : Int) - 1 - (j : Int)) - 1)))] (by kernel_rfl) ?_
    rw [show IntKind.u64.wrap ((l.getD (a + (wd - 1 - j)) 0).toNat : Int) = ((l.getD (a + (wd - 1 - j)) 0).toNat : Int) from wu64 (by omega)]
    rw [show IntKind.u64.wrap ((((le ((l.drop (a + (wd - j))).take j) : Nat) : Int) * 256) + ((l.getD (a + (wd - 1 - j)) 0).toNat : Int)) = ((((le ((l.drop (a + (wd - j))).take j) : Nat) : Int) * 256) + ((l.getD (a + (wd - 1 - j)) 0).toNat : Int)) from wu64 (by have := p256 j (by omega); omega)]
    rw [show IntKind.i64.wrap (((wd : Int) - 1 - (j : Int)) - 1) = (((wd : Int) - 1 - (j : Int)) - 1) from w64 (by omega)]
    rw [show ((le ((l.drop (a + (wd - j))).take j) : Nat) : Int) * 256 + ((l.getD (a + (wd - 1 - j)) 0).toNat : Int) = ((le ((l.drop (a + (wd - (j + 1)))).take (j + 1)) : Nat) : Int) from by rw [← le_down l a wd j (by omega) (by omega)]; simp]
    rw [show (wd : Int) - 1 - (j : Int) - 1 = (wd : Int) - 1 - ((j + 1 : Nat) : Int) from by omega]
    exact leR (j + 1) (by omega) ⟨rfl, by omega⟩ (by kernel_rfl)
  · rw [hb1]
    have h1 := of_decide_eq_false hb1
    refine seg 7 [.co [1, 1, 1, 1]] [(6, .int .u64 ((le ((l.drop (a + (wd - j))).take j) : Nat) : Int))] (by kernel_rfl) ?_
    refine retR [6] [.int .u64 ((le ((l.drop (a + (wd - j))).take j) : Nat) : Int)] (by kernel_rfl) (by kernel_rfl) (by kernel_rfl) ?_
    obtain rfl : j = wd := by omega
    refine ⟨_, rfl, ?_, rfl⟩
    simp only [packV, Nat.sub_self, Nat.add_zero, Int.toNat_natCast]

theorem rget_c (w : World) (A : Option Addr) (len cap : Nat) {lo hi : Nat} {l : List UInt8} (h : Cs lo hi w A (bs l)) (hl : l.length = len) (hcap : len ≤ cap) (hlen : len ≤ 140737488350000) (a wd : Int) (ha : -9223372036854775808 ≤ a ∧ a ≤ 9223372036854775807) (hb : -9223372036854775808 ≤ wd ∧ wd ≤ 9223372036854775807) :
    Calls Try.prog 17 #[.slice A len cap, .int .i64 a, .int .i64 wd] w fun e w' => ∃ v, e = .returned v ∧ (v = .tuple #[.int .u64 (getN l a wd : Int), .int .i64 (getE len a wd)] ∧ w = w') := by
  refine callsR Try.func17 (by kernel_rfl) (by kernel_rfl) ?_
  refine seg 9 [.op [1, 0, 0] 1, .co [1, 0, 1], .co [1, 1]] [(0, .slice A len cap), (1, .int .i64 a), (2, .int .i64 wd), (8, .int .i64 wd)] (by kernel_rfl) ?_
  refine st (callR (some 9) 20 #[.int .i64 wd] Try.call20 (rwidth_c w wd) (by kernel_rfl) ?_)
  rintro _ _ ⟨rfl, rfl⟩
  refine seg 2 [.co [1, 0, 1], .co [1, 1]] [(0, .slice A len cap), (1, .int .i64 a), (2, .int .i64 wd), (10, .bool (!(wideB wd)))] (by kernel_rfl) ?_
  rcases bsplit (wideB wd) with hb1 | hb1
  · rw [hb1]
    have h1 := wide_of hb1
    refine seg 8 [.op [1, 1, 0, 0] 3, .co [1, 1, 0, 1], .co [1, 1, 1]] [(0, .slice A len cap), (1, .int .i64 a), (2, .int .i64 wd), (11, .slice A len cap), (12, .int .i64 a), (13, .int .i64 wd)] (by kernel_rfl) ?_
    refine st (callR (some 14) 26 #[.slice A len cap, .int .i64 a, .int .i64 wd] Try.call26 (rin_c w A len cap a wd (by omega) (by omega) (by omega)) (by kernel_rfl) ?_)
    rintro _ _ ⟨rfl, rfl⟩
    refine seg 2 [.co [1, 1, 0, 1], .co [1, 1, 1]] [(0, .slice A len cap), (1, .int .i64 a), (2, .int .i64 wd), (15, .bool (!(withinB len a wd)))] (by kernel_rfl) ?_
    rcases bsplit (withinB len a wd) with hb2 | hb2
    · rw [hb2]
      have h2 := within_of hb2
      refine seg 7 [.op [1, 1, 1, 0] 3, .co [1, 1, 1, 1]] [(16, .slice A len cap), (17, .int .i64 a), (18, .int .i64 wd)] (by kernel_rfl) ?_
      have hll3 : (l).length = len := (by first | rfl | omega | (simp; omega))
      refine st (callR (some 19) 55 #[.slice A len cap, .int .i64 a, .int .i64 wd] Try.call55 (rload_c w A len cap h hll3 (by omega) a wd (by omega) (by omega) (by omega) (by omega)) (by kernel_rfl) ?_)
      rintro _ _ ⟨rfl, rfl⟩
      refine seg 3 [.co [1, 1, 1, 1]] [(6, .int .u64 ((le ((l.drop (a).toNat).take (wd).toNat) : Nat) : Int)), (7, .int .i64 0)] (by kernel_rfl) ?_
      refine retR [6, 7] [.int .u64 ((le ((l.drop (a).toNat).take (wd).toNat) : Nat) : Int), .int .i64 0] (by kernel_rfl) (by kernel_rfl) (by kernel_rfl) ?_
      exact ⟨_, rfl, by simp [packV, getN, getE, hl, hb1, hb2], rfl⟩
    · rw [hb2]
      refine seg 6 [.co [1, 1, 0, 1, 0, 1], .co [1, 1, 1]] [(6, .int .u64 0), (7, .int .i64 9)] (by kernel_rfl) ?_
      refine retR [6, 7] [.int .u64 0, .int .i64 9] (by kernel_rfl) (by kernel_rfl) (by kernel_rfl) ?_
      exact ⟨_, rfl, by simp [packV, getN, getE, hl, hb1, hb2], rfl⟩
  · rw [hb1]
    refine seg 6 [.co [1, 0, 1, 0, 1], .co [1, 1]] [(6, .int .u64 0), (7, .int .i64 1)] (by kernel_rfl) ?_
    refine retR [6, 7] [.int .u64 0, .int .i64 1] (by kernel_rfl) (by kernel_rfl) (by kernel_rfl) ?_
    exact ⟨_, rfl, by simp [packV, getN, getE, hl, hb1], rfl⟩

theorem rset_c (w : World) (A : Option Addr) (len cap : Nat) {lo hi : Nat} {l : List UInt8} (h : Cs lo hi w A (bs l)) (hl : l.length = len) (hcap : len ≤ cap) (hlen : len ≤ 140737488350000) (a : Int) (n : Nat) (hn : n < 18446744073709551616) (wd : Int) (ha : -9223372036854775808 ≤ a ∧ a ≤ 9223372036854775807) (hb : -9223372036854775808 ≤ wd ∧ wd ≤ 9223372036854775807) :
    Calls Try.prog 24 #[.slice A len cap, .int .i64 a, .int .u64 (n : Int), .int .i64 wd] w fun e w' => ∃ v, e = .returned v ∧ (∃ A' c', v = .tuple #[.slice A' (setL l a n wd).length c', .int .i64 (setE len a n wd)] ∧ Ex w w' ∧ w'.ownsRow w.heap.size 5 1 (.slice A' (setL l a n wd).length c') (setL l a n wd).length (bs (setL l a n wd))) := by
  refine callsR Try.func24 (by kernel_rfl) (by kernel_rfl) ?_
  replace h := h.old
  have hF : Ex w w := Kp.refl _ _
  refine seg 9 [.op [1, 0, 0] 1, .co [1, 0, 1], .co [1, 1]] [(0, .slice A len cap), (1, .int .i64 a), (2, .int .u64 (n : Int)), (3, .int .i64 wd), (11, .int .i64 wd)] (by kernel_rfl) ?_
  refine st (callR (some 12) 20 #[.int .i64 wd] Try.call20 (rwidth_c w wd) (by kernel_rfl) ?_)
  rintro _ _ ⟨rfl, rfl⟩
  refine seg 2 [.co [1, 0, 1], .co [1, 1]] [(0, .slice A len cap), (1, .int .i64 a), (2, .int .u64 (n : Int)), (3, .int .i64 wd), (13, .bool (!(wideB wd)))] (by kernel_rfl) ?_
  rcases bsplit (wideB wd) with hb1 | hb1
  · rw [hb1]
    have h1 := wide_of hb1
    refine seg 8 [.op [1, 1, 0, 0] 3, .co [1, 1, 0, 1], .co [1, 1, 1]] [(0, .slice A len cap), (1, .int .i64 a), (2, .int .u64 (n : Int)), (3, .int .i64 wd), (14, .slice A len cap), (15, .int .i64 a), (16, .int .i64 wd)] (by kernel_rfl) ?_
    refine st (callR (some 17) 26 #[.slice A len cap, .int .i64 a, .int .i64 wd] Try.call26 (rin_c w A len cap a wd (by omega) (by omega) (by omega)) (by kernel_rfl) ?_)
    rintro _ _ ⟨rfl, rfl⟩
    refine seg 2 [.op [1, 1, 0, 0] 6, .co [1, 1, 0, 1], .co [1, 1, 1]] [(0, .slice A len cap), (1, .int .i64 a), (2, .int .u64 (n : Int)), (3, .int .i64 wd), (19, .bool (!(withinB len a wd)))] (by kernel_rfl) ?_
    rcases bsplit (withinB len a wd) with hb2 | hb2
    · rw [hb2]
      have h2 := within_of hb2
      refine seg 2 [.op [1, 1, 0, 0] 8, .co [1, 1, 0, 1], .co [1, 1, 1]] [(0, .slice A len cap), (1, .int .i64 a), (2, .int .u64 (n : Int)), (3, .int .i64 wd), (19, .bool false), (20, .int .u64 (n : Int)), (21, .int .i64 wd)] (by kernel_rfl) ?_
      refine st (callR (some 22) 21 #[.int .u64 (n : Int), .int .i64 wd] Try.call21 (rfits_c w n wd (by omega) (by omega)) (by kernel_rfl) ?_)
      rintro _ _ ⟨rfl, rfl⟩
      refine seg 3 [.co [1, 1, 0, 1], .co [1, 1, 1]] [(0, .slice A len cap), (1, .int .i64 a), (2, .int .u64 (n : Int)), (3, .int .i64 wd), (24, .bool (!(fitsB n (wd).toNat)))] (by kernel_rfl) ?_
      rcases bsplit (fitsB n (wd).toNat) with hb3 | hb3
      · rw [hb3]
        refine seg 4 [.op [1, 1, 1, 0] 0, .co [1, 1, 1, 1]] [(0, .slice A len cap), (1, .int .i64 a), (2, .int .u64 (n : Int)), (3, .int .i64 wd)] (by kernel_rfl) ?_
        refine st (newR (some 25) (fun g => .slice (some ⟨g, 0, none⟩) 0 0) (.cells #[] 5) (by kernel_rfl) ?_)
        intro g4 w4 hgs4 hx4 hg4 hz4
        replace h := h.ex hx4
        replace hF := hF.ex hx4
        refine seg 2 [.op [1, 1, 1, 0] 3, .co [1, 1, 1, 1]] [(0, .slice A len cap), (1, .int .i64 a), (2, .int .u64 (n : Int)), (3, .int .i64 wd), (25, .slice (some ⟨g4, 0, none⟩) 0 0), (26, .slice A len cap), (27, .int .i64 a)] (by kernel_rfl) ?_
        refine st (sliR (some 28) 22 5 1 A len cap none (some (.int .i64 a)) 0 ((a).toNat) (by kernel_rfl) (by kernel_rfl) (.inl ⟨rfl, rfl⟩) (.inr ⟨_, _, rfl, by omega⟩) (by omega) (by omega) ?_)
        intro A5 hA5 hB5 hC5
        have hs5 := (hA5 _ _ _ _ h (by rw [bs_length]; omega)).take ((a).toNat)
        rw [Nat.zero_mul, List.drop_zero, ← bs_take] at hs5
        have ho6 := own_of_blk (base := w.heap.size) (n := 0) (sz := 1) hg4 (by omega) (by simp [maxLen]) (by simp)
        refine st (appR (some 29) 22 5 1 1 (.int .u8 0) 22 w.heap.size (some ⟨g4, 0, none⟩) A5 0 0 ((a).toNat) cap ([]) (bs (l.take ((a).toNat))) ⟨Try.underlying22, by kernel_rfl⟩ rfl (by decide) (by kernel_rfl) ho6 hs5 (by first | (rw [bs_length]; omega) | (simp [bs_length]; omega)) (bs_one _) (by omega) (by decide) (by omega) ?_)
        intro A7 c7 w7 hn7 hx7 hb7 hc7 hz7
        replace h := h.kp hx7 (fun k hk => by first | exact .inr (by have := own_ge ho6 hk; omega))
        replace hF := hF.step hx7 (fun k hk hlt => absurd (own_ge ho6 hk) (by omega))
        refine seg 7 [.op [1, 1, 1, 1, 0] 3, .co [1, 1, 1, 1, 1]] [(0, .slice A len cap), (1, .int .i64 a), (3, .int .i64 wd), (30, .slice A7 (0 + ((a).toNat)) c7), (31, .int .u64 (n : Int)), (32, .int .i64 wd)] (by kernel_rfl) ?_
        have hlt9 := own_lt hn7
        refine st (callR (some 33) 22 #[.int .u64 (n : Int), .int .i64 wd] Try.call22 (rstore_c w7 n (by omega) wd (by omega) (by omega)) (by kernel_rfl) ?_)
        rintro _ w8 ⟨A8, c8, rfl, hx8, hn8⟩
        have hz8 := hx8.size
        have hc8 := own_cap hn8
        replace h := h.ex hx8
        replace hn7 := own_ex hn7 hx8
        replace hF := hF.ex hx8
        refine st (appR (some 34) 22 5 1 1 (.int .u8 0) 22 w.heap.size A7 A8 (0 + ((a).toNat)) c7 ((wd).toNat) c8 ([] ++ bs (l.take ((a).toNat))) (bs (enc ((wd).toNat) n)) ⟨Try.underlying22, by kernel_rfl⟩ rfl (by decide) (by kernel_rfl) hn7 (Cs.of_own hn8) (by first | (have := hn8.1; omega) | (rw [bs_length]; omega)) (bs_one _) (by omega) (by decide) (by omega) ?_)
        intro A10 c10 w10 hn10 hx10 hb10 hc10 hz10
        replace h := h.kp hx10 (fun k hk => by first | exact .inr (by have := own_ge hn7 hk; omega) | exact .inl (by have := hlt9 k hk; omega))
        replace hF := hF.step hx10 (fun k hk hlt => absurd (own_ge hn7 hk) (by omega))
        refine seg 9 [.op [1, 1, 1, 1, 1, 0] 5, .co [1, 1, 1, 1, 1, 1]] [(35, .slice A10 (0 + ((a).toNat) + ((wd).toNat)) c10), (36, .slice A len cap), (39, .int .i64 (IntKind.i64.wrap (a + wd)))] (by kernel_rfl) ?_
        rw [show IntKind.i64.wrap (a + wd) = (a + wd) from w64 (by omega)]
        refine st (sliR (some 40) 22 5 1 A len cap (some (.int .i64 (a + wd))) none (((a + wd)).toNat) len (by kernel_rfl) (by kernel_rfl) (.inr ⟨_, _, rfl, by omega⟩) (.inl ⟨rfl, rfl⟩) (by omega) (by omega) ?_)
        intro A11 hA11 hB11 hC11
        have hs11 := (hA11 _ _ _ _ h (by rw [bs_length]; omega))
        rw [show (((a + wd)).toNat) * 1 = ((a + wd)).toNat from by omega, ← bs_drop] at hs11
        refine st (appR (some 41) 22 5 1 1 (.int .u8 0) 22 w.heap.size A10 A11 (0 + ((a).toNat) + ((wd).toNat)) c10 (len - ((a + wd)).toNat) (cap - ((a + wd)).toNat) ([] ++ bs (l.take ((a).toNat)) ++ bs (enc ((wd).toNat) n)) (bs (l.drop (((a + wd)).toNat))) ⟨Try.underlying22, by kernel_rfl⟩ rfl (by decide) (by kernel_rfl) hn10 hs11 (by first | (rw [bs_length]; omega) | (simp [bs_length]; omega)) (bs_one _) (by omega) (by decide) (by omega) ?_)
        intro A12 c12 w12 hn12 hx12 hb12 hc12 hz12
        replace hF := hF.step hx12 (fun k hk hlt => absurd (own_ge hn10 hk) (by omega))
        refine seg 3 [.co [1, 1, 1, 1, 1, 1]] [(8, .slice A12 (0 + ((a).toNat) + ((wd).toNat) + (len - ((a + wd)).toNat)) c12), (9, .int .i64 0)] (by kernel_rfl) ?_
        refine retR [8, 9] [.slice A12 (0 + ((a).toNat) + ((wd).toNat) + (len - ((a + wd)).toNat)) c12, .int .i64 0] (by kernel_rfl) (by kernel_rfl) (by kernel_rfl) ?_
        have e1 : setE len a n wd = 0 := by simp [setE, hb1, hb2, hb3]
        have e2 : setL l a n wd = l.take a.toNat ++ enc wd.toNat n ++ l.drop (a.toNat + wd.toNat) := by simp [setL, hl, e1]
        rw [e1, e2]
        have el : (l.take a.toNat ++ enc wd.toNat n ++ l.drop (a.toNat + wd.toNat)).length = 0 + ((a).toNat) + ((wd).toNat) + (len - ((a + wd)).toNat) := by simp [enc_length]; omega
        rw [el]
        refine ⟨_, rfl, _, _, rfl, hF, ?_⟩
        have hfin := hn12
        simp only [bs_append, List.nil_append, Nat.sub_zero, List.drop_zero] at hfin ⊢
        have et : (a + wd).toNat = a.toNat + wd.toNat := by omega
        rw [et] at hfin ⊢
        simpa using hfin
      · rw [hb3]
        refine seg 6 [.co [1, 1, 0, 1, 0, 1], .co [1, 1, 1]] [(8, .slice none 0 0), (9, .int .i64 9)] (by kernel_rfl) ?_
        refine retR [8, 9] [.slice none 0 0, .int .i64 9] (by kernel_rfl) (by kernel_rfl) (by kernel_rfl) ?_
        have e1 : setE len a n wd = 9 := by simp [setE, hb1, hb2, hb3]
        have e2 : setL l a n wd = [] := by simp [setL, hl, e1]
        rw [e1, e2]
        exact ⟨_, rfl, none, 0, rfl, hF, World.ownsRow_nil _ _ _ _⟩
    · rw [hb2]
      refine seg 12 [.co [1, 1, 0, 1, 0, 1], .co [1, 1, 1]] [(8, .slice none 0 0), (9, .int .i64 9)] (by kernel_rfl) ?_
      refine retR [8, 9] [.slice none 0 0, .int .i64 9] (by kernel_rfl) (by kernel_rfl) (by kernel_rfl) ?_
      have e1 : setE len a n wd = 9 := by simp [setE, hb1, hb2]
      have e2 : setL l a n wd = [] := by simp [setL, hl, e1]
      rw [e1, e2]
      exact ⟨_, rfl, none, 0, rfl, hF, World.ownsRow_nil _ _ _ _⟩
  · rw [hb1]
    refine seg 6 [.co [1, 0, 1, 0, 1], .co [1, 1]] [(8, .slice none 0 0), (9, .int .i64 1)] (by kernel_rfl) ?_
    refine retR [8, 9] [.slice none 0 0, .int .i64 1] (by kernel_rfl) (by kernel_rfl) (by kernel_rfl) ?_
    have e1 : setE len a n wd = 1 := by simp [setE, hb1]
    have e2 : setL l a n wd = [] := by simp [setL, hl, e1]
    rw [e1, e2]
    exact ⟨_, rfl, none, 0, rfl, hF, World.ownsRow_nil _ _ _ _⟩

theorem num_c (w : World) (x : Int) :
    Calls Try.prog 18 #[.int .i64 x] w fun e w' => ∃ v, e = .returned v ∧ (v = .int .i64 x ∧ w = w') := by
  refine callsR Try.func18 (by kernel_rfl) (by kernel_rfl) ?_
  refine seg 9 [.co [1, 1]] [(2, .int .i64 x)] (by kernel_rfl) ?_
  refine retR [2] [.int .i64 x] (by kernel_rfl) (by kernel_rfl) (by kernel_rfl) ?_
  exact ⟨_, rfl, rfl, rfl⟩

theorem live_c (w : World) :
    Calls Try.prog 15 #[] w fun e w' => ∃ v, e = .returned v ∧ (v = .bool true ∧ Ex w w') := by
  refine callsR Try.func15 (by kernel_rfl) (by kernel_rfl) ?_
  have hF : Ex w w := Kp.refl _ _
  refine seg 6 [.op [1, 0] 0, .co [1, 1]] [] (by kernel_rfl) ?_
  refine st (newR (some 8) (fun g => .slice (some ⟨g, 0, none⟩) 1 1) (.cells #[.int .u8 9] 5) (by kernel_rfl) ?_)
  intro g1 w1 hgs1 hx1 hg1 hz1
  replace hF := hF.ex hx1
  have hll2 : (([9] : List UInt8)).length = 1 := (by first | rfl | omega | (simp; omega))
  refine st (callR (some 9) 19 #[.slice (some ⟨g1, 0, none⟩) 1 1, .int .u64 258, .int .i64 2] Try.call19 (put_c w1 (some ⟨g1, 0, none⟩) 1 1 (show Cs _ _ _ _ (bs ([9] : List UInt8)) from Cs.of_blk hg1) hll2 (by omega) (by omega) 258 (by omega) 2 (by omega)) (by kernel_rfl) ?_)
  rintro _ w2 ⟨A2, c2, rfl, hx2, hn2⟩
  have hz2 := hx2.size
  have hc2 := own_cap hn2
  replace hF := hF.ex hx2
  rw [show (putL ([9] : List UInt8) 258 2) = ([9, 2, 1] : List UInt8) from by decide] at hn2 hc2 ⊢
  rw [show (putE 258 2) = 0 from by decide]
  rw [show List.length ([9, 2, 1] : List UInt8) = 3 from rfl] at hn2 hc2 ⊢
  refine seg 8 [.op [1, 1, 0] 0, .co [1, 1, 1]] [(1, .slice A2 3 c2), (2, .int .i64 0)] (by kernel_rfl) ?_
  refine st (newR (some 13) (fun g => .slice (some ⟨g, 0, none⟩) 3 3) (.cells #[.int .u8 9, .int .u8 2, .int .u8 1] 5) (by kernel_rfl) ?_)
  intro g3 w3 hgs3 hx3 hg3 hz3
  replace hn2 := own_ex hn2 hx3
  replace hF := hF.ex hx3
  have hll4 : (([9, 2, 1] : List UInt8)).length = 3 := (by first | rfl | omega | (simp; omega))
  have hlt5 := own_lt hn2
  refine st (callR (some 14) 16 #[.slice (some ⟨g3, 0, none⟩) 3 3, .int .i64 1, .int .i64 2] Try.call16 (get_c w3 (some ⟨g3, 0, none⟩) 3 3 (show Cs _ _ _ _ (bs ([9, 2, 1] : List UInt8)) from Cs.of_blk hg3) hll4 (by omega) (by omega) 1 2 (by omega) (by omega)) (by kernel_rfl) ?_)
  rintro _ _ ⟨rfl, rfl⟩
  rw [show getN ([9, 2, 1] : List UInt8) 1 2 = 258 from by decide, show getE 3 1 2 = 0 from by decide]
  refine seg 8 [.op [1, 1, 1, 0] 0, .co [1, 1, 1, 1]] [(1, .slice A2 3 c2), (2, .int .i64 0), (3, .int .u64 ((258 : Nat) : Int)), (4, .int .i64 0)] (by kernel_rfl) ?_
  refine st (newR (some 18) (fun g => .slice (some ⟨g, 0, none⟩) 1 1) (.cells #[.int .u8 9] 5) (by kernel_rfl) ?_)
  intro g6 w6 hgs6 hx6 hg6 hz6
  replace hn2 := own_ex hn2 hx6
  replace hF := hF.ex hx6
  have hll7 : (([9] : List UInt8)).length = 1 := (by first | rfl | omega | (simp; omega))
  have hlt8 := own_lt hn2
  refine st (callR (some 19) 16 #[.slice (some ⟨g6, 0, none⟩) 1 1, .int .i64 0, .int .i64 2] Try.call16 (get_c w6 (some ⟨g6, 0, none⟩) 1 1 (show Cs _ _ _ _ (bs ([9] : List UInt8)) from Cs.of_blk hg6) hll7 (by omega) (by omega) 0 2 (by omega) (by omega)) (by kernel_rfl) ?_)
  rintro _ _ ⟨rfl, rfl⟩
  rw [show getN ([9] : List UInt8) 0 2 = 0 from by decide, show getE 1 0 2 = 9 from by decide]
  refine seg 9 [.op [1, 1, 1, 1, 0] 1, .co [1, 1, 1, 1, 1]] [(1, .slice A2 3 c2), (3, .int .u64 ((258 : Nat) : Int)), (4, .int .i64 0), (6, .int .i64 9), (22, .int .i64 0)] (by kernel_rfl) ?_
  have hlt9 := own_lt hn2
  refine st (callR (some 23) 18 #[.int .i64 0] Try.call18 (num_c w6 0) (by kernel_rfl) ?_)
  rintro _ _ ⟨rfl, rfl⟩
  refine seg 1 [.op [1, 1, 1, 1, 0] 3, .co [1, 1, 1, 1, 1]] [(1, .slice A2 3 c2), (3, .int .u64 ((258 : Nat) : Int)), (6, .int .i64 9), (23, .int .i64 0), (24, .int .i64 0)] (by kernel_rfl) ?_
  have hlt10 := own_lt hn2
  refine st (callR (some 25) 18 #[.int .i64 0] Try.call18 (num_c w6 0) (by kernel_rfl) ?_)
  rintro _ _ ⟨rfl, rfl⟩
  refine seg 4 [.op [1, 1, 1, 1, 0] 8, .co [1, 1, 1, 1, 1]] [(3, .int .u64 ((258 : Nat) : Int)), (6, .int .i64 9), (28, .bool true), (29, .slice A2 3 c2)] (by kernel_rfl) ?_
  refine st (b2sR (some 30) 22 9 5 A2 3 c2 ([9, 2, 1] : List UInt8) Try.underlying22 Try.underlying5 Try.underlying9 (by kernel_rfl) (Cs.of_own hn2) (by first | rfl | omega | (simp; done) | (simp; omega)) ?_)
  refine seg 3 [.op [1, 1, 1, 1, 0] 12, .co [1, 1, 1, 1, 1]] [(3, .int .u64 ((258 : Nat) : Int)), (6, .int .i64 9), (33, .bool (ByteArray.toList (⟨([9, 2, 1] : List UInt8).toArray⟩) == ByteArray.toList (⟨([9, 2, 1] : List UInt8).toArray⟩)))] (by kernel_rfl) ?_
  rw [show (ByteArray.toList (⟨([9, 2, 1] : List UInt8).toArray⟩) == ByteArray.toList (⟨([9, 2, 1] : List UInt8).toArray⟩)) = true from streq_t (by decide)]
  refine seg 4 [.op [1, 1, 1, 1, 0] 16, .co [1, 1, 1, 1, 1]] [(6, .int .i64 9), (37, .bool (((258 : Nat) : Int) == 258))] (by kernel_rfl) ?_
  rw [show (((258 : Nat) : Int) == 258) = true from by decide]
  refine seg 1 [.op [1, 1, 1, 1, 0] 17, .co [1, 1, 1, 1, 1]] [(37, .bool true), (38, .int .i64 9)] (by kernel_rfl) ?_
  have hlt11 := own_lt hn2
  refine st (callR (some 39) 18 #[.int .i64 9] Try.call18 (num_c w6 9) (by kernel_rfl) ?_)
  rintro _ _ ⟨rfl, rfl⟩
  refine seg 4 [.co [1, 1, 1, 1, 1]] [(0, .bool true)] (by kernel_rfl) ?_
  refine retR [0] [.bool true] (by kernel_rfl) (by kernel_rfl) (by kernel_rfl) ?_
  exact ⟨_, rfl, rfl, hF⟩

end Go.Proofs.Ytgkiegplmohgkaa.F
