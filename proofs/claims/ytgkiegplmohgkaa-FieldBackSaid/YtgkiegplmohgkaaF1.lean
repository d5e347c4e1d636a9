/- field: contracts. -/
import Derived.Test.YtgkiegplmohgkaaProg
import Derived.Test.YtgkiegplmohgkaaK2
import Derived.Test.YtgkiegplmohgkaaK3
set_option linter.unusedVariables false
set_option linter.unusedSimpArgs false
namespace Go.Proofs.Ytgkiegplmohgkaa.F
open Go Go.RowKit Go.Proofs.Ytgkiegplmohgkaa.K
theorem wide_c (w : World) (a : Int) :
    Calls Try.prog 52 #[.int .i64 a] w fun e w' => ∃ v, e = .returned v ∧ (v = .bool (wideB a) ∧ w = w') := by
  refine callsR Try.func52 (by kernel_rfl) (by kernel_rfl) ?_
  refine seg 21 [.co [1, 0, 1, 0, 0, 0, 0, 0, 0, 0, 1], .co [1, 0, 1, 0, 0, 0, 0, 0, 0, 1], .co [1, 0, 1, 0, 0, 0, 0, 0, 1], .co [1, 0, 1, 0, 0, 0, 0, 1], .bl 1, .bl 2, .co [1, 0, 1, 0, 1], .bl 0, .co [1, 1]] [(3, .int .i64 a), (4, .bool (a == 1))] (by kernel_rfl) ?_
  rcases bsplit (a == 1) with hb1 | hb1
  · rw [hb1]
    have h1 : a = 1 := by simpa using hb1
    refine seg 10 [.co [1, 0, 1, 0, 1, 0, 1], .co [1, 0, 1, 0, 1, 1], .bl 0, .co [1, 1]] [(2, .bool true)] (by kernel_rfl) ?_
    refine retR [2] [.bool true] (by kernel_rfl) (by kernel_rfl) (by kernel_rfl) ?_
    exact ⟨_, rfl, by simp_all [packV, wideB], rfl⟩
  · rw [hb1]
    have h1 : a ≠ 1 := by simpa using hb1
    refine seg 5 [.co [1, 0, 1, 0, 0, 0, 0, 0, 0, 1], .co [1, 0, 1, 0, 0, 0, 0, 0, 1], .co [1, 0, 1, 0, 0, 0, 0, 1], .bl 1, .bl 2, .co [1, 0, 1, 0, 1], .bl 0, .co [1, 1]] [(3, .int .i64 a), (4, .bool (a == 2))] (by kernel_rfl) ?_
    rcases bsplit (a == 2) with hb2 | hb2
    · rw [hb2]
      have h2 : a = 2 := by simpa using hb2
      refine seg 8 [.co [1, 0, 1, 0, 1, 0, 1], .co [1, 0, 1, 0, 1, 1], .bl 0, .co [1, 1]] [(2, .bool true)] (by kernel_rfl) ?_
      refine retR [2] [.bool true] (by kernel_rfl) (by kernel_rfl) (by kernel_rfl) ?_
      exact ⟨_, rfl, by simp_all [packV, wideB], rfl⟩
    · rw [hb2]
      have h2 : a ≠ 2 := by simpa using hb2
      refine seg 8 [.co [1, 0, 1, 0, 0, 0, 0, 0, 1, 0, 1], .co [1, 0, 1, 0, 0, 0, 0, 0, 1, 1], .co [1, 0, 1, 0, 0, 0, 0, 1], .bl 1, .bl 2, .co [1, 0, 1, 0, 1], .bl 0, .co [1, 1]] [(3, .int .i64 a), (7, .bool (a == 4))] (by kernel_rfl) ?_
      rcases bsplit (a == 4) with hb3 | hb3
      · rw [hb3]
        have h3 : a = 4 := by simpa using hb3
        refine seg 9 [.co [1, 0, 1, 0, 1, 0, 1], .co [1, 0, 1, 0, 1, 1], .bl 0, .co [1, 1]] [(2, .bool true)] (by kernel_rfl) ?_
        refine retR [2] [.bool true] (by kernel_rfl) (by kernel_rfl) (by kernel_rfl) ?_
        exact ⟨_, rfl, by simp_all [packV, wideB], rfl⟩
      · rw [hb3]
        have h3 : a ≠ 4 := by simpa using hb3
        refine seg 5 [.co [1, 0, 1, 0, 0, 0, 0, 0, 1, 1], .co [1, 0, 1, 0, 0, 0, 0, 1], .bl 1, .bl 2, .co [1, 0, 1, 0, 1], .bl 0, .co [1, 1]] [(7, .bool (a == 8))] (by kernel_rfl) ?_
        rcases bsplit (a == 8) with hb4 | hb4
        · rw [hb4]
          have h4 : a = 8 := by simpa using hb4
          refine seg 7 [.co [1, 0, 1, 0, 1, 0, 1], .co [1, 0, 1, 0, 1, 1], .bl 0, .co [1, 1]] [(2, .bool true)] (by kernel_rfl) ?_
          refine retR [2] [.bool true] (by kernel_rfl) (by kernel_rfl) (by kernel_rfl) ?_
          exact ⟨_, rfl, by simp_all [packV, wideB], rfl⟩
        · rw [hb4]
          have h4 : a ≠ 8 := by simpa using hb4
          refine seg 7 [.co [1, 1, 1]] [(2, .bool false)] (by kernel_rfl) ?_
          refine retR [2] [.bool false] (by kernel_rfl) (by kernel_rfl) (by kernel_rfl) ?_
          exact ⟨_, rfl, by simp_all [packV, wideB], rfl⟩

theorem within_c (w : World) (A : Option Addr) (len cap : Nat) (a b : Int) (hl : len ≤ 140737488355328) (ha : -9223372036854775808 ≤ a ∧ a ≤ 9223372036854775807) (hb : -9223372036854775808 ≤ b ∧ b ≤ 9223372036854775807) :
    Calls Try.prog 53 #[.slice A len cap, .int .i64 a, .int .i64 b] w fun e w' => ∃ v, e = .returned v ∧ (v = .bool (withinB len a b) ∧ w = w') := by
  refine callsR Try.func53 (by kernel_rfl) (by kernel_rfl) ?_
  refine seg 9 [.op [1, 0] 3, .co [1, 1]] [(0, .slice A len cap), (1, .int .i64 a), (2, .int .i64 b), (9, .bool (decide (a ≥ 0)))] (by kernel_rfl) ?_
  rcases bsplit (decide (a ≥ 0)) with hb1 | hb1
  · rw [hb1]
    have h1 := of_decide_eq_true hb1
    refine seg 4 [.op [1, 0] 7, .co [1, 1]] [(0, .slice A len cap), (1, .int .i64 a), (2, .int .i64 b), (13, .bool (decide (b ≥ 0)))] (by kernel_rfl) ?_
    rcases bsplit (decide (b ≥ 0)) with hb2 | hb2
    · rw [hb2]
      have h2 := of_decide_eq_true hb2
      refine seg 6 [.op [1, 0] 13, .co [1, 1]] [(0, .slice A len cap), (1, .int .i64 a), (2, .int .i64 b), (19, .bool (decide (b ≤ (len : Int))))] (by kernel_rfl) ?_
      rcases bsplit (decide (b ≤ (len : Int))) with hb3 | hb3
      · rw [hb3]
        have h3 := of_decide_eq_true hb3
        refine seg 9 [.co [1, 1]] [(6, .bool (decide (a ≤ (IntKind.i64.wrap ((len : Int) - b)))))] (by kernel_rfl) ?_
        rw [show IntKind.i64.wrap ((len : Int) - b) = ((len : Int) - b) from w64 (by omega)]
        refine retR [6] [.bool (decide (a ≤ ((len : Int) - b)))] (by kernel_rfl) (by kernel_rfl) (by kernel_rfl) ?_
        exact ⟨_, rfl, by simp_all [packV, withinB] <;> omega, rfl⟩
      · rw [hb3]
        have h3 := of_decide_eq_false hb3
        refine seg 9 [.co [1, 1]] [(6, .bool false)] (by kernel_rfl) ?_
        refine retR [6] [.bool false] (by kernel_rfl) (by kernel_rfl) (by kernel_rfl) ?_
        exact ⟨_, rfl, by simp_all [packV, withinB] <;> omega, rfl⟩
    · rw [hb2]
      have h2 := of_decide_eq_false hb2
      refine seg 15 [.co [1, 1]] [(6, .bool false)] (by kernel_rfl) ?_
      refine retR [6] [.bool false] (by kernel_rfl) (by kernel_rfl) (by kernel_rfl) ?_
      exact ⟨_, rfl, by simp_all [packV, withinB] <;> omega, rfl⟩
  · rw [hb1]
    have h1 := of_decide_eq_false hb1
    refine seg 19 [.co [1, 1]] [(6, .bool false)] (by kernel_rfl) ?_
    refine retR [6] [.bool false] (by kernel_rfl) (by kernel_rfl) (by kernel_rfl) ?_
    exact ⟨_, rfl, by simp_all [packV, withinB] <;> omega, rfl⟩

theorem load_c (w : World) (A : Option Addr) (len cap : Nat) {lo hi : Nat} {l : List UInt8} (h : Cs lo hi w A (bs l)) (hl : l.length = len) (h8 : len ≤ 8) :
    Calls Try.prog 54 #[.slice A len cap] w fun e w' => ∃ v, e = .returned v ∧ (v = .int .u64 (le l : Int) ∧ w = w') := by
  refine callsR Try.func54 (by kernel_rfl) (by kernel_rfl) ?_
  refine seg 16 [.co [1, 1, 0, 1, 0], .bl 0, .co [1, 1, 1]] [(0, .slice A len cap), (3, .int .u64 0), (6, .int .i64 (len : Int)), (7, .int .i64 0)] (by kernel_rfl) ?_
  refine loopR 0 (fun (i : Nat) => [(0, .slice A len cap), (3, .int .u64 ((le (l.take i) : Nat) : Int)), (6, .int .i64 (len : Int)), (7, .int .i64 (i : Int))]) (fun (i : Nat) (wx : World) => w = wx ∧ i ≤ len) (fun (i : Nat) => len - i) 0 (by kernel_rfl) (by kernel_rfl) (by kernel_rfl) ?_ ?_
  · exact ⟨rfl, by omega⟩
  rintro i _ ⟨rfl, hi⟩
  refine seg 5 [.co [1, 1, 0, 1, 0, 0, 1, 0], .co [1, 1, 0, 1, 0, 0, 1, 1], .le 0, .bl 0, .co [1, 1, 1]] [(0, .slice A len cap), (3, .int .u64 ((le (l.take i) : Nat) : Int)), (6, .int .i64 (len : Int)), (7, .int .i64 (i : Int)), (8, .bool (decide ((i : Int) < (len : Int))))] (by kernel_rfl) ?_
  rcases bsplit (decide ((i : Int) < (len : Int))) with hb1 | hb1
  · rw [hb1]
    have h1 := of_decide_eq_true hb1
    refine seg 13 [.op [1, 1, 0, 1, 0, 0, 1, 1, 0, 0, 1] 3, .bl 1, .co [1, 1, 0, 1, 0, 0, 1, 1, 1], .le 0, .bl 0, .co [1, 1, 1]] [(0, .slice A len cap), (4, .int .i64 (i : Int)), (6, .int .i64 (len : Int)), (7, .int .i64 (i : Int)), (10, .int .u64 ((le (l.take i) : Nat) : Int)), (11, .slice A len cap), (12, .int .i64 (i : Int))] (by kernel_rfl) ?_
    have u3 := UInt8.toNat_lt (l.getD i 0)
    obtain ⟨ad2, ea2, l12, l22, ca2⟩ := h.at2 (bs_get l i (by omega))
    refine st (idxR (some 13) 22 5 1 A ad2 len cap .i64 (i : Int) i ea2 (by kernel_rfl) (by kernel_rfl) (by omega) (by omega) (by omega) ?_)
    refine st (ldR (some 14) 5 (ad2.add i) (.int .u8 ((l.getD i 0).toNat : Int)) (by kernel_rfl) (by kernel_rfl) ca2 ?_)
    refine seg 3 [.op [1, 1, 0, 1, 0, 0, 1, 1, 0, 0, 1] 8, .bl 1, .co [1, 1, 0, 1, 0, 0, 1, 1, 1], .le 0, .bl 0, .co [1, 1, 1]] [(0, .slice A len cap), (6, .int .i64 (len : Int)), (7, .int .i64 (i : Int)), (10, .int .u64 ((le (l.take i) : Nat) : Int)), (15, .int .u64 (IntKind.u64.wrap ((l.getD i 0).toNat : Int))), (17, .int .i64 (IntKind.i64.wrap (8 * (i : Int))))] (by kernel_rfl) ?_
    rw [show IntKind.u64.wrap ((l.getD i 0).toNat : Int) = ((l.getD i 0).toNat : Int) from wu64 (by omega)]
    rw [show IntKind.i64.wrap (8 * (i : Int)) = (8 * (i : Int)) from w64 (by omega)]
    refine st (shlR (some 18) .u64 .i64 ((l.getD i 0).toNat : Int) (8 * (i : Int)) (8 * i) 24 (by kernel_rfl) (by omega) (by have : IntKind.bits .u64 = 64 := rfl; omega) ?_)
    refine seg 8 [.le 0, .bl 0, .co [1, 1, 1]] [(0, .slice A len cap), (3, .int .u64 (Go.bits .or .u64 ((le (l.take i) : Nat) : Int) (IntKind.u64.wrap (((l.getD i 0).toNat : Int) * 2 ^ (8 * i))))), (6, .int .i64 (len : Int)), (7, .int .i64 (IntKind.i64.wrap ((i : Int) + 1)))] (by kernel_rfl) ?_
    rw [show IntKind.u64.wrap (((l.getD i 0).toNat : Int) * 2 ^ (8 * i)) = (((l.getD i 0).toNat : Int) * 2 ^ (8 * i)) from wu64 (shift_lt _ _ (UInt8.toNat_lt _) (by omega))]
    rw [show IntKind.i64.wrap ((i : Int) + 1) = ((i : Int) + 1) from w64 (by omega)]
    have hs := le_take_succ l i (by omega)
    rw [or_shift _ _ _ (le_take_lt l i) (UInt8.toNat_lt _) (by omega), ← hs]
    exact leR (i + 1) (by omega) ⟨rfl, by omega⟩ (by kernel_rfl)
  · rw [hb1]
    have h1 := of_decide_eq_false hb1
    refine seg 7 [.co [1, 1, 1, 1]] [(2, .int .u64 ((le (l.take i) : Nat) : Int))] (by kernel_rfl) ?_
    refine retR [2] [.int .u64 ((le (l.take i) : Nat) : Int)] (by kernel_rfl) (by kernel_rfl) (by kernel_rfl) ?_
    have e : i = len := by omega
    subst e
    rw [List.take_of_length_le (by omega)]
    exact ⟨_, rfl, rfl, rfl⟩

theorem fits_c (w : World) (n : Nat) (m : Int) (hn : n < 18446744073709551616) (hm : m = 1 ∨ m = 2 ∨ m = 4 ∨ m = 8) :
    Calls Try.prog 56 #[.int .u64 (n : Int), .int .i64 m] w fun e w' => ∃ v, e = .returned v ∧ (v = .bool (fitsB n m.toNat) ∧ w = w') := by
  refine callsR Try.func56 (by kernel_rfl) (by kernel_rfl) ?_
  refine seg 9 [.op [1, 0] 3, .co [1, 1]] [(0, .int .u64 (n : Int)), (1, .int .i64 m), (7, .bool (m == 8))] (by kernel_rfl) ?_
  rcases bsplit (m == 8) with hb1 | hb1
  · rw [hb1]
    have h1 : m = 8 := by simpa using hb1
    refine seg 8 [.co [1, 1]] [(4, .bool true)] (by kernel_rfl) ?_
    refine retR [4] [.bool true] (by kernel_rfl) (by kernel_rfl) (by kernel_rfl) ?_
    obtain rfl : m = 8 := by omega
    exact ⟨_, rfl, by rw [show (8 : Int).toNat = 8 from rfl, fits8 hn]; rfl, rfl⟩
  · rw [hb1]
    have h1 : m ≠ 8 := by simpa using hb1
    refine seg 3 [.op [1, 0] 6, .co [1, 1]] [(7, .bool false), (8, .int .u64 (n : Int)), (10, .int .i64 (IntKind.i64.wrap (8 * m)))] (by kernel_rfl) ?_
    rw [show IntKind.i64.wrap (8 * m) = (8 * m) from w64 (by omega)]
    refine st (shrR (some 11) .u64 .i64 (n : Int) (8 * m) (8 * m.toNat) 24 (by kernel_rfl) (by omega) (by have : IntKind.bits .u64 = 64 := rfl; omega) ?_)
    refine seg 4 [.co [1, 1]] [(4, .bool (((n : Int) / 2 ^ (8 * m.toNat)) == 0))] (by kernel_rfl) ?_
    refine retR [4] [.bool (((n : Int) / 2 ^ (8 * m.toNat)) == 0)] (by kernel_rfl) (by kernel_rfl) (by kernel_rfl) ?_
    exact ⟨_, rfl, by rw [fits_shr]; rfl, rfl⟩

theorem copied_c (w : World) (A : Option Addr) (len cap : Nat) {lo hi : Nat} {l : List UInt8} (h : Cs lo hi w A (bs l)) (hl : l.length = len) (hb : len ≤ 140737488355000) :
    Calls Try.prog 58 #[.slice A len cap] w fun e w' => ∃ v, e = .returned v ∧ (∃ A' c', v = .slice A' len c' ∧ Ex w w' ∧ w'.ownsRow w.heap.size 5 1 (.slice A' len c') len (bs l)) := by
  refine callsR Try.func58 (by kernel_rfl) (by kernel_rfl) ?_
  replace h := h.old
  have hF : Ex w w := Kp.refl _ _
  refine seg 6 [.op [1, 0] 0, .co [1, 1]] [(0, .slice A len cap)] (by kernel_rfl) ?_
  refine st (newR (some 3) (fun g => .slice (some ⟨g, 0, none⟩) 0 0) (.cells #[] 5) (by kernel_rfl) ?_)
  intro g1 w1 hgs1 hx1 hg1 hz1
  replace h := h.ex hx1
  replace hF := hF.ex hx1
  refine seg 1 [.op [1, 0] 2, .co [1, 1]] [(3, .slice (some ⟨g1, 0, none⟩) 0 0), (4, .slice A len cap)] (by kernel_rfl) ?_
  have ho2 := own_of_blk (base := w.heap.size) (n := 0) (sz := 1) hg1 (by omega) (by simp [maxLen]) (by simp)
  refine st (appR (some 5) 22 5 1 1 (.int .u8 0) 22 w.heap.size (some ⟨g1, 0, none⟩) A 0 0 len cap ([]) (bs l) ⟨Try.underlying22, by kernel_rfl⟩ rfl (by decide) (by kernel_rfl) ho2 h (by first | (rw [bs_length]; omega) | (simp [bs_length]; omega)) (bs_one _) (by omega) (by decide) (by omega) ?_)
  intro A3 c3 w3 hn3 hx3 hb3 hc3 hz3
  replace hF := hF.step hx3 (fun k hk hlt => absurd (own_ge ho2 hk) (by omega))
  refine seg 2 [.co [1, 1]] [(2, .slice A3 (0 + len) c3)] (by kernel_rfl) ?_
  refine retR [2] [.slice A3 (0 + len) c3] (by kernel_rfl) (by kernel_rfl) (by kernel_rfl) ?_
  rw [Nat.zero_add] at *
  simp only [List.nil_append] at *
  exact ⟨_, rfl, _, _, rfl, hF, by assumption⟩

theorem store_c (w : World) (A : Option Addr) (m c n : Nat) (wd : Int) (base : Nat) {l : List UInt8} (ho : w.ownsRow base 5 1 (.slice A m c) m (bs l)) (hw0 : 0 ≤ wd) (hw : wd ≤ 8) (hb : m ≤ 140737488355000) (hbase : base ≤ w.heap.size) :
    Calls Try.prog 57 #[.slice A m c, .int .u64 (n : Int), .int .i64 wd] w fun e w' => ∃ v, e = .returned v ∧ (∃ A' c', v = .slice A' (m + wd.toNat) c' ∧ w'.ownsRow base 5 1 (.slice A' (m + wd.toNat) c') (m + wd.toNat) (bs (l ++ enc wd.toNat n)) ∧ Grew w (.slice A m c) w' (.slice A' (m + wd.toNat) c')) := by
  refine callsR Try.func57 (by kernel_rfl) (by kernel_rfl) ?_
  refine seg 11 [.co [1, 0, 1, 0], .bl 0, .co [1, 1]] [(0, .slice A m c), (1, .int .u64 (n : Int)), (8, .int .i64 wd), (9, .int .i64 0)] (by kernel_rfl) ?_
  refine loopR 0 (fun (x : Nat × Option Addr × Nat) => [(0, .slice x.2.1 (m + x.1) x.2.2), (1, .int .u64 (n : Int)), (8, .int .i64 wd), (9, .int .i64 (x.1 : Int))]) (fun (x : Nat × Option Addr × Nat) (w1 : World) => (x.1 : Int) ≤ wd ∧ w1.ownsRow base 5 1 (.slice x.2.1 (m + x.1) x.2.2) (m + x.1) (bs (l ++ enc x.1 n)) ∧ Grew w (.slice A m c) w1 (.slice x.2.1 (m + x.1) x.2.2)) (fun (x : Nat × Option Addr × Nat) => wd.toNat - x.1) (0, A, c) (by kernel_rfl) (by kernel_rfl) (by kernel_rfl) ?_ ?_
  · exact ⟨hw0, by simpa [enc] using ho, Grew.refl _ _⟩
  rintro ⟨i, A1, c1⟩ w1 ⟨hi, hn, hG⟩
  simp only [] at hi hn hG
  have hsz := hG.kp.size
  refine seg 5 [.co [1, 0, 1, 0, 0, 1, 0], .co [1, 0, 1, 0, 0, 1, 1], .le 0, .bl 0, .co [1, 1]] [(0, .slice A1 (m + i) c1), (1, .int .u64 (n : Int)), (8, .int .i64 wd), (9, .int .i64 (i : Int)), (10, .bool (decide ((i : Int) < wd)))] (by kernel_rfl) ?_
  rcases bsplit (decide ((i : Int) < wd)) with hb1 | hb1
  · rw [hb1]
    have h1 := of_decide_eq_true hb1
    refine seg 14 [.op [1, 0, 1, 0, 0, 1, 1, 0, 0, 1] 4, .bl 1, .co [1, 0, 1, 0, 0, 1, 1, 1], .le 0, .bl 0, .co [1, 1]] [(1, .int .u64 (n : Int)), (8, .int .i64 wd), (9, .int .i64 (i : Int)), (12, .slice A1 (m + i) c1), (13, .int .u64 (n : Int)), (15, .int .i64 (IntKind.i64.wrap (8 * (i : Int))))] (by kernel_rfl) ?_
    rw [show IntKind.i64.wrap (8 * (i : Int)) = (8 * (i : Int)) from w64 (by omega)]
    refine st (shrR (some 16) .u64 .i64 (n : Int) (8 * (i : Int)) (8 * i) 24 (by kernel_rfl) (by omega) (by have : IntKind.bits .u64 = 64 := rfl; omega) ?_)
    refine seg 1 [.op [1, 0, 1, 0, 0, 1, 1, 0, 0, 1] 6, .bl 1, .co [1, 0, 1, 0, 0, 1, 1, 1], .le 0, .bl 0, .co [1, 1]] [(1, .int .u64 (n : Int)), (8, .int .i64 wd), (9, .int .i64 (i : Int)), (12, .slice A1 (m + i) c1), (17, .int .u8 (IntKind.u8.wrap ((n : Int) / 2 ^ (8 * i))))] (by kernel_rfl) ?_
    rw [show IntKind.u8.wrap ((n : Int) / 2 ^ (8 * i)) = ((UInt8.ofNat (n / 256 ^ i)).toNat : Int) from shr_byte _ _]
    refine st (newR (some 18) (fun g => .slice (some ⟨g, 0, none⟩) 1 1) (.cells #[.int .u8 ((UInt8.ofNat (n / 256 ^ i)).toNat : Int)] 5) (by kernel_rfl) ?_)
    intro g2 w2 hgs2 hx2 hg2 hz2
    replace hn := own_ex hn hx2
    replace hG := hG.ex hx2
    refine st (appR (some 19) 22 5 1 1 (.int .u8 0) 22 base A1 (some ⟨g2, 0, none⟩) (m + i) c1 1 1 (bs (l ++ enc i n)) ([.int .u8 ((UInt8.ofNat (n / 256 ^ i)).toNat : Int)]) ⟨Try.underlying22, by kernel_rfl⟩ rfl (by decide) (by kernel_rfl) hn (Cs.of_blk hg2) (by simp) (by simp [Value.oneCell']) (by omega) (by decide) (by omega) ?_)
    intro A3 c3 w3 hn3 hx3 hb3 hc3 hz3
    replace hG := hG.trans (Grew.app hx3 hb3)
    refine seg 7 [.le 0, .bl 0, .co [1, 1]] [(0, .slice A3 (m + i + 1) c3), (1, .int .u64 (n : Int)), (8, .int .i64 wd), (9, .int .i64 (IntKind.i64.wrap ((i : Int) + 1)))] (by kernel_rfl) ?_
    rw [show IntKind.i64.wrap ((i : Int) + 1) = ((i : Int) + 1) from w64 (by omega)]
    refine leR (i + 1, A3, c3) (by simp only []; omega) ⟨by simp only []; omega, ?_, hG⟩ (by kernel_rfl)
    show w3.ownsRow base 5 1 (.slice A3 (m + (i + 1)) c3) (m + (i + 1)) (bs (l ++ enc (i + 1) n))
    rw [enc_snoc, ← List.append_assoc, bs_append]
    exact hn3
  · rw [hb1]
    have h1 := of_decide_eq_false hb1
    refine seg 7 [.co [1, 1, 1]] [(6, .slice A1 (m + i) c1)] (by kernel_rfl) ?_
    refine retR [6] [.slice A1 (m + i) c1] (by kernel_rfl) (by kernel_rfl) (by kernel_rfl) ?_
    obtain rfl : i = wd.toNat := by omega
    exact ⟨_, rfl, _, _, rfl, hn, hG⟩

theorem get_c (w : World) (A : Option Addr) (len cap : Nat) {lo hi : Nat} {l : List UInt8} (h : Cs lo hi w A (bs l)) (hl : l.length = len) (hcap : len ≤ cap) (hlen : len ≤ 140737488350000) (a wd : Int) (ha : -9223372036854775808 ≤ a ∧ a ≤ 9223372036854775807) (hb : -9223372036854775808 ≤ wd ∧ wd ≤ 9223372036854775807) :
    Calls Try.prog 16 #[.slice A len cap, .int .i64 a, .int .i64 wd] w fun e w' => ∃ v, e = .returned v ∧ (v = .tuple #[.int .u64 (getN l a wd : Int), .int .i64 (getE len a wd)] ∧ w = w') := by
  refine callsR Try.func16 (by kernel_rfl) (by kernel_rfl) ?_
  refine seg 10 [.op [1, 0, 0, 0] 1, .co [1, 0, 0, 1], .bl 0, .co [1, 1]] [(0, .slice A len cap), (1, .int .i64 a), (2, .int .i64 wd), (9, .int .i64 wd)] (by kernel_rfl) ?_
  refine st (callR (some 10) 52 #[.int .i64 wd] Try.call52 (wide_c w wd) (by kernel_rfl) ?_)
  rintro _ _ ⟨rfl, rfl⟩
  refine seg 3 [.co [1, 0, 0, 1], .bl 0, .co [1, 1]] [(0, .slice A len cap), (1, .int .i64 a), (2, .int .i64 wd), (8, .bool (!(wideB wd)))] (by kernel_rfl) ?_
  rcases bsplit (wideB wd) with hb1 | hb1
  · rw [hb1]
    have h1 := wide_of hb1
    refine seg 6 [.op [1, 0, 0, 1, 1, 0] 3, .co [1, 0, 0, 1, 1, 1], .bl 0, .co [1, 1]] [(0, .slice A len cap), (1, .int .i64 a), (2, .int .i64 wd), (13, .slice A len cap), (14, .int .i64 a), (15, .int .i64 wd)] (by kernel_rfl) ?_
    refine st (callR (some 16) 53 #[.slice A len cap, .int .i64 a, .int .i64 wd] Try.call53 (within_c w A len cap a wd (by omega) (by omega) (by omega)) (by kernel_rfl) ?_)
    rintro _ _ ⟨rfl, rfl⟩
    refine seg 3 [.co [1, 0, 0, 1, 1, 1], .bl 0, .co [1, 1]] [(0, .slice A len cap), (1, .int .i64 a), (2, .int .i64 wd), (12, .bool (!(withinB len a wd)))] (by kernel_rfl) ?_
    rcases bsplit (withinB len a wd) with hb2 | hb2
    · rw [hb2]
      have h2 := within_of hb2
      refine seg 10 [.op [1, 1, 0] 5, .co [1, 1, 1]] [(18, .slice A len cap), (19, .int .i64 a), (22, .int .i64 (IntKind.i64.wrap (a + wd)))] (by kernel_rfl) ?_
      rw [show IntKind.i64.wrap (a + wd) = (a + wd) from w64 (by omega)]
      refine st (sliR (some 23) 22 5 1 A len cap (some (.int .i64 a)) (some (.int .i64 (a + wd))) ((a).toNat) (((a + wd)).toNat) (by kernel_rfl) (by kernel_rfl) (.inr ⟨_, _, rfl, by omega⟩) (.inr ⟨_, _, rfl, by omega⟩) (by omega) (by omega) ?_)
      intro A3 hA3 hB3 hC3
      have hs3 := (hA3 _ _ _ _ h (by rw [bs_length]; omega)).take (((a + wd)).toNat - (a).toNat)
      rw [show ((a).toNat) * 1 = (a).toNat from by omega, ← bs_drop, ← bs_take] at hs3
      have hll4 : ((l.drop ((a).toNat)).take (((a + wd)).toNat - (a).toNat)).length = ((a + wd)).toNat - (a).toNat := (by first | omega | (simp; omega))
      refine st (callR (some 24) 54 #[.slice A3 (((a + wd)).toNat - (a).toNat) (cap - (a).toNat)] Try.call54 (load_c w A3 (((a + wd)).toNat - (a).toNat) (cap - (a).toNat) hs3 hll4 (by omega)) (by kernel_rfl) ?_)
      rintro _ _ ⟨rfl, rfl⟩
      refine seg 3 [.co [1, 1, 1]] [(6, .int .u64 (le ((l.drop ((a).toNat)).take (((a + wd)).toNat - (a).toNat)) : Int)), (7, .int .i64 0)] (by kernel_rfl) ?_
      refine retR [6, 7] [.int .u64 (le ((l.drop ((a).toNat)).take (((a + wd)).toNat - (a).toNat)) : Int), .int .i64 0] (by kernel_rfl) (by kernel_rfl) (by kernel_rfl) ?_
      have et : (a + wd).toNat - a.toNat = wd.toNat := by omega
      rw [et]
      exact ⟨_, rfl, by simp [packV, getN, getE, hl, hb1, hb2], rfl⟩
    · rw [hb2]
      refine seg 6 [.co [1, 0, 0, 1, 1, 1, 0, 1], .bl 0, .co [1, 1]] [(6, .int .u64 0), (7, .int .i64 9)] (by kernel_rfl) ?_
      refine retR [6, 7] [.int .u64 0, .int .i64 9] (by kernel_rfl) (by kernel_rfl) (by kernel_rfl) ?_
      exact ⟨_, rfl, by simp [packV, getN, getE, hl, hb1, hb2], rfl⟩
  · rw [hb1]
    refine seg 6 [.co [1, 0, 0, 1, 0, 1], .bl 0, .co [1, 1]] [(6, .int .u64 0), (7, .int .i64 1)] (by kernel_rfl) ?_
    refine retR [6, 7] [.int .u64 0, .int .i64 1] (by kernel_rfl) (by kernel_rfl) (by kernel_rfl) ?_
    exact ⟨_, rfl, by simp [packV, getN, getE, hl, hb1], rfl⟩

theorem put_c (w : World) (A : Option Addr) (len cap : Nat) {lo hi : Nat} {l : List UInt8} (h : Cs lo hi w A (bs l)) (hl : l.length = len) (hcap : len ≤ cap) (hlen : len ≤ 140737488350000) (n : Nat) (hn : n < 18446744073709551616) (wd : Int) (hb : -9223372036854775808 ≤ wd ∧ wd ≤ 9223372036854775807) :
    Calls Try.prog 19 #[.slice A len cap, .int .u64 (n : Int), .int .i64 wd] w fun e w' => ∃ v, e = .returned v ∧ (∃ A' c', v = .tuple #[.slice A' (putL l n wd).length c', .int .i64 (putE n wd)] ∧ Ex w w' ∧ w'.ownsRow w.heap.size 5 1 (.slice A' (putL l n wd).length c') (putL l n wd).length (bs (putL l n wd))) := by
  refine callsR Try.func19 (by kernel_rfl) (by kernel_rfl) ?_
  replace h := h.old
  have hF : Ex w w := Kp.refl _ _
  refine seg 10 [.op [1, 0, 0, 0] 1, .co [1, 0, 0, 1], .bl 0, .co [1, 1]] [(0, .slice A len cap), (1, .int .u64 (n : Int)), (2, .int .i64 wd), (9, .int .i64 wd)] (by kernel_rfl) ?_
  refine st (callR (some 10) 52 #[.int .i64 wd] Try.call52 (wide_c w wd) (by kernel_rfl) ?_)
  rintro _ _ ⟨rfl, rfl⟩
  refine seg 3 [.co [1, 0, 0, 1], .bl 0, .co [1, 1]] [(0, .slice A len cap), (1, .int .u64 (n : Int)), (2, .int .i64 wd), (8, .bool (!(wideB wd)))] (by kernel_rfl) ?_
  rcases bsplit (wideB wd) with hb1 | hb1
  · rw [hb1]
    have h1 := wide_of hb1
    refine seg 5 [.op [1, 0, 0, 1, 1, 0] 2, .co [1, 0, 0, 1, 1, 1], .bl 0, .co [1, 1]] [(0, .slice A len cap), (1, .int .u64 (n : Int)), (2, .int .i64 wd), (13, .int .u64 (n : Int)), (14, .int .i64 wd)] (by kernel_rfl) ?_
    refine st (callR (some 15) 56 #[.int .u64 (n : Int), .int .i64 wd] Try.call56 (fits_c w n wd (by omega) (by omega)) (by kernel_rfl) ?_)
    rintro _ _ ⟨rfl, rfl⟩
    refine seg 3 [.co [1, 0, 0, 1, 1, 1], .bl 0, .co [1, 1]] [(0, .slice A len cap), (1, .int .u64 (n : Int)), (2, .int .i64 wd), (12, .bool (!(fitsB n (wd).toNat)))] (by kernel_rfl) ?_
    rcases bsplit (fitsB n (wd).toNat) with hb2 | hb2
    · rw [hb2]
      refine seg 6 [.op [1, 1, 0] 1, .co [1, 1, 1]] [(1, .int .u64 (n : Int)), (2, .int .i64 wd), (17, .slice A len cap)] (by kernel_rfl) ?_
      have hll3 : l.length = len := (by first | omega | (simp; omega))
      refine st (callR (some 18) 58 #[.slice A len cap] Try.call58 (copied_c w A len cap h hll3 (by omega)) (by kernel_rfl) ?_)
      rintro _ w3 ⟨A3, c3, rfl, hx3, hn3⟩
      have hz3 := hx3.size
      have hc3 := own_cap hn3
      replace hF := hF.ex hx3
      refine seg 2 [.op [1, 1, 0] 4, .co [1, 1, 1]] [(18, .slice A3 len c3), (19, .int .u64 (n : Int)), (20, .int .i64 wd)] (by kernel_rfl) ?_
      have hlt5 := own_lt hn3
      refine st (callR (some 21) 57 #[.slice A3 len c3, .int .u64 (n : Int), .int .i64 wd] Try.call57 (store_c w3 A3 len c3 n wd w.heap.size hn3 (by omega) (by omega) (by omega) (by omega)) (by kernel_rfl) ?_)
      rintro _ w4 ⟨A4, c4, rfl, hn4, hG4⟩
      have hz4 := hG4.kp.size
      replace hF := hF.step hG4.kp (fun k hk hlt => absurd (own_ge hn3 hk) (by omega))
      refine seg 3 [.co [1, 1, 1]] [(6, .slice A4 (len + (wd).toNat) c4), (7, .int .i64 0)] (by kernel_rfl) ?_
      refine retR [6, 7] [.slice A4 (len + (wd).toNat) c4, .int .i64 0] (by kernel_rfl) (by kernel_rfl) (by kernel_rfl) ?_
      have e1 : putE n wd = 0 := by simp [putE, hb1, hb2]
      have e2 : putL l n wd = l ++ enc wd.toNat n := by simp [putL, e1]
      rw [e1, e2]
      exact ⟨_, rfl, _, _, by rw [List.length_append, enc_length, hl]; rfl, hF, own_base' (by rw [List.length_append, enc_length, hl]; exact hn4) (by omega)⟩
    · rw [hb2]
      refine seg 6 [.co [1, 0, 0, 1, 1, 1, 0, 1], .bl 0, .co [1, 1]] [(6, .slice none 0 0), (7, .int .i64 9)] (by kernel_rfl) ?_
      refine retR [6, 7] [.slice none 0 0, .int .i64 9] (by kernel_rfl) (by kernel_rfl) (by kernel_rfl) ?_
      have e1 : putE n wd = 9 := by simp [putE, hb1, hb2]
      have e2 : putL l n wd = [] := by simp [putL, e1]
      rw [e1, e2]
      exact ⟨_, rfl, none, 0, rfl, hF, World.ownsRow_nil _ _ _ _⟩
  · rw [hb1]
    refine seg 6 [.co [1, 0, 0, 1, 0, 1], .bl 0, .co [1, 1]] [(6, .slice none 0 0), (7, .int .i64 1)] (by kernel_rfl) ?_
    refine retR [6, 7] [.slice none 0 0, .int .i64 1] (by kernel_rfl) (by kernel_rfl) (by kernel_rfl) ?_
    have e1 : putE n wd = 1 := by simp [putE, hb1]
    have e2 : putL l n wd = [] := by simp [putL, e1]
    rw [e1, e2]
    exact ⟨_, rfl, none, 0, rfl, hF, World.ownsRow_nil _ _ _ _⟩

theorem store_in_c (w : World) (g m c n : Nat) (wd : Int) (cur : Array Value) (hg : w.heap[g]? = some (.cells cur 5 (0, 0))) (hc : cur.size = c) (hw0 : 0 ≤ wd) (hw : wd ≤ 8) (hroom : m + wd.toNat ≤ c) (hm : c ≤ 9223372036854775807) :
    Calls Try.prog 57 #[.slice (some ⟨g, 0, none⟩) m c, .int .u64 (n : Int), .int .i64 wd] w fun e w' => ∃ v, e = .returned v ∧ (Kp (fun k => k = g) w w' ∧ w'.heap[g]? = some (.cells (cur.toList.take m ++ bs (enc wd.toNat n) ++ cur.toList.drop (m + wd.toNat)).toArray 5 (0, 0))) := by
  refine callsR Try.func57 (by kernel_rfl) (by kernel_rfl) ?_
  refine seg 11 [.co [1, 0, 1, 0], .bl 0, .co [1, 1]] [(0, .slice (some ⟨g, 0, none⟩) m c), (1, .int .u64 (n : Int)), (8, .int .i64 wd), (9, .int .i64 0)] (by kernel_rfl) ?_
  refine loopR 0 (fun (x : Nat) => [(0, .slice (some ⟨g, 0, none⟩) (m + x) c), (1, .int .u64 (n : Int)), (8, .int .i64 wd), (9, .int .i64 (x : Int))]) (fun (x : Nat) (w1 : World) => (x : Int) ≤ wd ∧ Kp (fun k => k = g) w w1 ∧ w1.heap[g]? = some (.cells (cur.toList.take m ++ bs (enc x n) ++ cur.toList.drop (m + x)).toArray 5 (0, 0))) (fun (x : Nat) => wd.toNat - x) 0 (by kernel_rfl) (by kernel_rfl) (by kernel_rfl) ?_ ?_
  · exact ⟨hw0, Kp.refl _ _, by simpa [enc, bs] using hg⟩
  rintro i w1 ⟨hi, hF, hq⟩
  have hlt := blk_lt hq
  refine seg 5 [.co [1, 0, 1, 0, 0, 1, 0], .co [1, 0, 1, 0, 0, 1, 1], .le 0, .bl 0, .co [1, 1]] [(0, .slice (some ⟨g, 0, none⟩) (m + i) c), (1, .int .u64 (n : Int)), (8, .int .i64 wd), (9, .int .i64 (i : Int)), (10, .bool (decide ((i : Int) < wd)))] (by kernel_rfl) ?_
  rcases bsplit (decide ((i : Int) < wd)) with hb1 | hb1
  · rw [hb1]
    have h1 := of_decide_eq_true hb1
    refine seg 14 [.op [1, 0, 1, 0, 0, 1, 1, 0, 0, 1] 4, .bl 1, .co [1, 0, 1, 0, 0, 1, 1, 1], .le 0, .bl 0, .co [1, 1]] [(1, .int .u64 (n : Int)), (8, .int .i64 wd), (9, .int .i64 (i : Int)), (12, .slice (some ⟨g, 0, none⟩) (m + i) c), (13, .int .u64 (n : Int)), (15, .int .i64 (IntKind.i64.wrap (8 * (i : Int))))] (by kernel_rfl) ?_
    rw [show IntKind.i64.wrap (8 * (i : Int)) = (8 * (i : Int)) from w64 (by omega)]
    refine st (shrR (some 16) .u64 .i64 (n : Int) (8 * (i : Int)) (8 * i) 24 (by kernel_rfl) (by omega) (by have : IntKind.bits .u64 = 64 := rfl; omega) ?_)
    refine seg 1 [.op [1, 0, 1, 0, 0, 1, 1, 0, 0, 1] 6, .bl 1, .co [1, 0, 1, 0, 0, 1, 1, 1], .le 0, .bl 0, .co [1, 1]] [(1, .int .u64 (n : Int)), (8, .int .i64 wd), (9, .int .i64 (i : Int)), (12, .slice (some ⟨g, 0, none⟩) (m + i) c), (17, .int .u8 (IntKind.u8.wrap ((n : Int) / 2 ^ (8 * i))))] (by kernel_rfl) ?_
    rw [show IntKind.u8.wrap ((n : Int) / 2 ^ (8 * i)) = ((UInt8.ofNat (n / 256 ^ i)).toNat : Int) from shr_byte _ _]
    refine st (newR (some 18) (fun g => .slice (some ⟨g, 0, none⟩) 1 1) (.cells #[.int .u8 ((UInt8.ofNat (n / 256 ^ i)).toNat : Int)] 5) (by kernel_rfl) ?_)
    intro g2 w2 hgs2 hx2 hg2 hz2
    replace hq := hx2.blk hq (fun e => e)
    replace hF := hF.ex hx2
    refine st (appRoomR (some 19) 22 5 1 1 (.int .u8 0) 22 g (some ⟨g2, 0, none⟩) (m + i) c 1 1 (cur.toList.take m ++ bs (enc i n) ++ cur.toList.drop (m + i)).toArray ([.int .u8 ((UInt8.ofNat (n / 256 ^ i)).toNat : Int)]) ⟨Try.underlying22, by kernel_rfl⟩ (by kernel_rfl) hq (Cs.of_blk hg2) (by simp) (by simp [Value.oneCell']) (by omega) (by simp [bs_length, enc_length]; omega) (by decide) ?_)
    intro w3 hx3 hq3 hz3
    replace hF := hF.trans hx3 (fun _ _ e => e) (fun _ _ e => e)
    rw [Nat.mul_one, Nat.mul_one] at hq3
    have hq := hq3
    refine seg 7 [.le 0, .bl 0, .co [1, 1]] [(0, .slice (some ⟨g, 0, none⟩) (m + i + 1) c), (1, .int .u64 (n : Int)), (8, .int .i64 wd), (9, .int .i64 (IntKind.i64.wrap ((i : Int) + 1)))] (by kernel_rfl) ?_
    rw [show IntKind.i64.wrap ((i : Int) + 1) = ((i : Int) + 1) from w64 (by omega)]
    refine leR (i + 1) (by omega) ⟨by omega, hF, ?_⟩ (by kernel_rfl)
    have e := in_step cur.toList m i (bs (enc i n)) (.int .u8 ((UInt8.ofNat (n / 256 ^ i)).toNat : Int)) (by rw [Array.length_toList]; omega) (by rw [bs_length, enc_length])
    rw [enc_snoc, bs_append]
    refine hq.trans ?_
    exact congrArg (fun z : List Value => some (Obj.cells z.toArray 5 (0, 0))) e
  · rw [hb1]
    have h1 := of_decide_eq_false hb1
    refine seg 7 [.co [1, 1, 1]] [(6, .slice (some ⟨g, 0, none⟩) (m + i) c)] (by kernel_rfl) ?_
    refine retR [6] [.slice (some ⟨g, 0, none⟩) (m + i) c] (by kernel_rfl) (by kernel_rfl) (by kernel_rfl) ?_
    obtain rfl : i = wd.toNat := by omega
    exact ⟨_, rfl, hF, hq⟩

theorem set_c (w : World) (A : Option Addr) (len cap : Nat) {lo hi : Nat} {l : List UInt8} (h : Cs lo hi w A (bs l)) (hl : l.length = len) (hcap : len ≤ cap) (hlen : len ≤ 140737488350000) (a : Int) (n : Nat) (hn : n < 18446744073709551616) (wd : Int) (ha : -9223372036854775808 ≤ a ∧ a ≤ 9223372036854775807) (hb : -9223372036854775808 ≤ wd ∧ wd ≤ 9223372036854775807) :
    Calls Try.prog 23 #[.slice A len cap, .int .i64 a, .int .u64 (n : Int), .int .i64 wd] w fun e w' => ∃ v, e = .returned v ∧ (∃ A' c', v = .tuple #[.slice A' (setL l a n wd).length c', .int .i64 (setE len a n wd)] ∧ Ex w w' ∧ w'.ownsRow w.heap.size 5 1 (.slice A' (setL l a n wd).length c') (setL l a n wd).length (bs (setL l a n wd))) := by
  refine callsR Try.func23 (by kernel_rfl) (by kernel_rfl) ?_
  replace h := h.old
  have hF : Ex w w := Kp.refl _ _
  refine seg 10 [.op [1, 0, 0, 0] 1, .co [1, 0, 0, 1], .bl 0, .co [1, 1]] [(0, .slice A len cap), (1, .int .i64 a), (2, .int .u64 (n : Int)), (3, .int .i64 wd), (12, .int .i64 wd)] (by kernel_rfl) ?_
  refine st (callR (some 13) 52 #[.int .i64 wd] Try.call52 (wide_c w wd) (by kernel_rfl) ?_)
  rintro _ _ ⟨rfl, rfl⟩
  refine seg 3 [.co [1, 0, 0, 1], .bl 0, .co [1, 1]] [(0, .slice A len cap), (1, .int .i64 a), (2, .int .u64 (n : Int)), (3, .int .i64 wd), (11, .bool (!(wideB wd)))] (by kernel_rfl) ?_
  rcases bsplit (wideB wd) with hb1 | hb1
  · rw [hb1]
    have h1 := wide_of hb1
    refine seg 7 [.op [1, 0, 0, 1, 1, 0, 0] 3, .co [1, 0, 0, 1, 1, 0, 1], .co [1, 0, 0, 1, 1, 1], .bl 0, .co [1, 1]] [(0, .slice A len cap), (1, .int .i64 a), (2, .int .u64 (n : Int)), (3, .int .i64 wd), (16, .slice A len cap), (17, .int .i64 a), (18, .int .i64 wd)] (by kernel_rfl) ?_
    refine st (callR (some 19) 53 #[.slice A len cap, .int .i64 a, .int .i64 wd] Try.call53 (within_c w A len cap a wd (by omega) (by omega) (by omega)) (by kernel_rfl) ?_)
    rintro _ _ ⟨rfl, rfl⟩
    refine seg 3 [.co [1, 0, 0, 1, 1, 0, 1], .co [1, 0, 0, 1, 1, 1], .bl 0, .co [1, 1]] [(0, .slice A len cap), (1, .int .i64 a), (2, .int .u64 (n : Int)), (3, .int .i64 wd), (15, .bool (!(withinB len a wd)))] (by kernel_rfl) ?_
    rcases bsplit (withinB len a wd) with hb2 | hb2
    · rw [hb2]
      have h2 := within_of hb2
      refine seg 4 [.op [1, 0, 0, 1, 1, 0, 1, 1] 2, .co [1, 0, 0, 1, 1, 1], .bl 0, .co [1, 1]] [(0, .slice A len cap), (1, .int .i64 a), (2, .int .u64 (n : Int)), (3, .int .i64 wd), (21, .int .u64 (n : Int)), (22, .int .i64 wd)] (by kernel_rfl) ?_
      refine st (callR (some 23) 56 #[.int .u64 (n : Int), .int .i64 wd] Try.call56 (fits_c w n wd (by omega) (by omega)) (by kernel_rfl) ?_)
      rintro _ _ ⟨rfl, rfl⟩
      refine seg 3 [.co [1, 0, 0, 1, 1, 1], .bl 0, .co [1, 1]] [(0, .slice A len cap), (1, .int .i64 a), (2, .int .u64 (n : Int)), (3, .int .i64 wd), (15, .bool (!(fitsB n (wd).toNat)))] (by kernel_rfl) ?_
      rcases bsplit (fitsB n (wd).toNat) with hb3 | hb3
      · rw [hb3]
        refine seg 6 [.op [1, 1, 0] 1, .co [1, 1, 1]] [(1, .int .i64 a), (2, .int .u64 (n : Int)), (3, .int .i64 wd), (25, .slice A len cap)] (by kernel_rfl) ?_
        have hll4 : l.length = len := (by first | omega | (simp; omega))
        refine st (callR (some 26) 58 #[.slice A len cap] Try.call58 (copied_c w A len cap h hll4 (by omega)) (by kernel_rfl) ?_)
        rintro _ w4 ⟨A4, c4, rfl, hx4, hn4⟩
        have hz4 := hx4.size
        have hc4 := own_cap hn4
        replace hF := hF.ex hx4
        refine seg 6 [.op [1, 1, 1, 0] 2, .co [1, 1, 1, 1]] [(2, .int .u64 (n : Int)), (3, .int .i64 wd), (10, .slice A4 len c4), (27, .slice A4 len c4), (28, .int .i64 a)] (by kernel_rfl) ?_
        refine st (sliR (some 29) 22 5 1 A4 len c4 none (some (.int .i64 a)) 0 ((a).toNat) (by kernel_rfl) (by kernel_rfl) (.inl ⟨rfl, rfl⟩) (.inr ⟨_, _, rfl, by omega⟩) (by omega) (by omega) ?_)
        intro A5 hA5 hB5 hC5
        have hs5 := (hA5 _ _ _ _ (Cs.of_own hn4) (by rw [bs_length]; omega)).take ((a).toNat)
        rw [Nat.zero_mul, List.drop_zero, ← bs_take] at hs5
        rw [hC5 rfl, Nat.sub_zero, Nat.sub_zero]
        refine seg 2 [.op [1, 1, 1, 0] 5, .co [1, 1, 1, 1]] [(10, .slice A4 len c4), (29, .slice A4 ((a).toNat) c4), (30, .int .u64 (n : Int)), (31, .int .i64 wd)] (by kernel_rfl) ?_
        obtain ⟨g, cur, rfl, hgb, hg, hcs, htk, hnc, hcm⟩ := own_blk hn4 (by omega)
        have hml : c4 ≤ 9223372036854775807 := by simpa [maxLen] using hcm
        have hlt7 := own_lt hn4
        refine st (callR (some 32) 57 #[.slice (some ⟨g, 0, none⟩) ((a).toNat) c4, .int .u64 (n : Int), .int .i64 wd] Try.call57 (store_in_c w4 g ((a).toNat) c4 n wd cur hg (by omega) (by omega) (by omega) (by omega) (by omega)) (by kernel_rfl) ?_)
        rintro x6 w6 ⟨hk6, hq6⟩
        replace hF := hF.step hk6 (fun k hk hlt => by omega)
        refine seg 7 [.co [1, 1, 1, 1, 1]] [(8, .slice (some ⟨g, 0, none⟩) len c4), (9, .int .i64 0)] (by kernel_rfl) ?_
        refine retR [8, 9] [.slice (some ⟨g, 0, none⟩) len c4, .int .i64 0] (by kernel_rfl) (by kernel_rfl) (by kernel_rfl) ?_
        have e1 : setE l.length a n wd = 0 := by simp [setE, hl, hb1, hb2, hb3]
        have e2 : setL l a n wd = l.take a.toNat ++ enc wd.toNat n ++ l.drop (a.toNat + wd.toNat) := by simp [setL, e1]
        rw [← hl, e1, e2]
        have el : (l.take a.toNat ++ enc wd.toNat n ++ l.drop (a.toNat + wd.toNat)).length = len := by simp [enc_length]; omega
        refine ⟨_, rfl, _, _, by rw [el, ← hl]; rfl, hF, ?_⟩
        rw [el]
        rw [Nat.mul_one] at htk hcs
        refine ⟨by rw [bs_length, el, Nat.mul_one], .inr ⟨g, _, _, rfl, by omega, hq6, by omega, hcm, by simp [bs_length, enc_length]; omega, ?_⟩⟩
        rw [Nat.mul_one, bs_append, bs_append, bs_take, bs_drop, ← htk]
        have hcl : cur.toList.length = cur.size := Array.length_toList
        exact set_in cur.toList (bs (enc wd.toNat n)) len a.toNat wd.toNat (by rw [bs_length, enc_length]) (by omega) (by omega)
      · rw [hb3]
        refine seg 6 [.co [1, 0, 0, 1, 1, 1, 0, 1], .bl 0, .co [1, 1]] [(8, .slice none 0 0), (9, .int .i64 9)] (by kernel_rfl) ?_
        refine retR [8, 9] [.slice none 0 0, .int .i64 9] (by kernel_rfl) (by kernel_rfl) (by kernel_rfl) ?_
        have e1 : setE l.length a n wd = 9 := by simp [setE, hl, hb1, hb2, hb3]
        have e2 : setL l a n wd = [] := by simp [setL, e1]
        rw [← hl, e1, e2]
        exact ⟨_, rfl, none, 0, rfl, hF, World.ownsRow_nil _ _ _ _⟩
    · rw [hb2]
      refine seg 8 [.co [1, 0, 0, 1, 1, 1, 0, 1], .bl 0, .co [1, 1]] [(8, .slice none 0 0), (9, .int .i64 9)] (by kernel_rfl) ?_
      refine retR [8, 9] [.slice none 0 0, .int .i64 9] (by kernel_rfl) (by kernel_rfl) (by kernel_rfl) ?_
      have e1 : setE l.length a n wd = 9 := by simp [setE, hl, hb1, hb2]
      have e2 : setL l a n wd = [] := by simp [setL, e1]
      rw [← hl, e1, e2]
      exact ⟨_, rfl, none, 0, rfl, hF, World.ownsRow_nil _ _ _ _⟩
  · rw [hb1]
    refine seg 6 [.co [1, 0, 0, 1, 0, 1], .bl 0, .co [1, 1]] [(8, .slice none 0 0), (9, .int .i64 1)] (by kernel_rfl) ?_
    refine retR [8, 9] [.slice none 0 0, .int .i64 1] (by kernel_rfl) (by kernel_rfl) (by kernel_rfl) ?_
    have e1 : setE l.length a n wd = 1 := by simp [setE, hl, hb1]
    have e2 : setL l a n wd = [] := by simp [setL, e1]
    rw [← hl, e1, e2]
    exact ⟨_, rfl, none, 0, rfl, hF, World.ownsRow_nil _ _ _ _⟩

theorem part_c (w : World) (A : Option Addr) (len cap : Nat) {lo hi : Nat} {l : List UInt8} (h : Cs lo hi w A (bs l)) (hl : l.length = len) (hcap : len ≤ cap) (hlen : len ≤ 140737488350000) (a n : Int) (ha : -9223372036854775808 ≤ a ∧ a ≤ 9223372036854775807) (hb : -9223372036854775808 ≤ n ∧ n ≤ 9223372036854775807) :
    Calls Try.prog 25 #[.slice A len cap, .int .i64 a, .int .i64 n] w fun e w' => ∃ v, e = .returned v ∧ (∃ A' c', v = .tuple #[.slice A' (partL l a n).length c', .int .i64 (partE len a n)] ∧ Ex w w' ∧ w'.ownsRow w.heap.size 5 1 (.slice A' (partL l a n).length c') (partL l a n).length (bs (partL l a n))) := by
  refine callsR Try.func25 (by kernel_rfl) (by kernel_rfl) ?_
  replace h := h.old
  have hF : Ex w w := Kp.refl _ _
  refine seg 11 [.op [1, 0, 0] 3, .co [1, 0, 1], .co [1, 1]] [(0, .slice A len cap), (1, .int .i64 a), (2, .int .i64 n), (8, .slice A len cap), (9, .int .i64 a), (10, .int .i64 n)] (by kernel_rfl) ?_
  refine st (callR (some 11) 53 #[.slice A len cap, .int .i64 a, .int .i64 n] Try.call53 (within_c w A len cap a n (by omega) (by omega) (by omega)) (by kernel_rfl) ?_)
  rintro _ _ ⟨rfl, rfl⟩
  refine seg 2 [.co [1, 0, 1], .co [1, 1]] [(0, .slice A len cap), (1, .int .i64 a), (2, .int .i64 n), (12, .bool (!(withinB len a n)))] (by kernel_rfl) ?_
  rcases bsplit (withinB len a n) with hb1 | hb1
  · rw [hb1]
    have h1 := within_of hb1
    refine seg 9 [.op [1, 1, 0] 5, .co [1, 1, 1]] [(13, .slice A len cap), (14, .int .i64 a), (17, .int .i64 (IntKind.i64.wrap (a + n)))] (by kernel_rfl) ?_
    rw [show IntKind.i64.wrap (a + n) = (a + n) from w64 (by omega)]
    refine st (sliR (some 18) 22 5 1 A len cap (some (.int .i64 a)) (some (.int .i64 (a + n))) ((a).toNat) (((a + n)).toNat) (by kernel_rfl) (by kernel_rfl) (.inr ⟨_, _, rfl, by omega⟩) (.inr ⟨_, _, rfl, by omega⟩) (by omega) (by omega) ?_)
    intro A2 hA2 hB2 hC2
    have hs2 := (hA2 _ _ _ _ h (by rw [bs_length]; omega)).take (((a + n)).toNat - (a).toNat)
    rw [show ((a).toNat) * 1 = (a).toNat from by omega, ← bs_drop, ← bs_take] at hs2
    have hll3 : ((l.drop ((a).toNat)).take (((a + n)).toNat - (a).toNat)).length = ((a + n)).toNat - (a).toNat := (by first | omega | (simp; omega))
    refine st (callR (some 19) 58 #[.slice A2 (((a + n)).toNat - (a).toNat) (cap - (a).toNat)] Try.call58 (copied_c w A2 (((a + n)).toNat - (a).toNat) (cap - (a).toNat) hs2 hll3 (by omega)) (by kernel_rfl) ?_)
    rintro _ w3 ⟨A3, c3, rfl, hx3, hn3⟩
    have hz3 := hx3.size
    have hc3 := own_cap hn3
    replace hF := hF.ex hx3
    refine seg 3 [.co [1, 1, 1]] [(6, .slice A3 (((a + n)).toNat - (a).toNat) c3), (7, .int .i64 0)] (by kernel_rfl) ?_
    refine retR [6, 7] [.slice A3 (((a + n)).toNat - (a).toNat) c3, .int .i64 0] (by kernel_rfl) (by kernel_rfl) (by kernel_rfl) ?_
    have et : (a + n).toNat - a.toNat = n.toNat := by omega
    rw [et] at ⊢ hn3
    have e1 : partE len a n = 0 := by simp [partE, hb1]
    have e2 : partL l a n = (l.drop a.toNat).take n.toNat := by simp [partL, hl, hb1]
    have el : ((l.drop a.toNat).take n.toNat).length = n.toNat := by simp; omega
    rw [e1, e2, el]
    exact ⟨_, rfl, _, _, rfl, hF, own_base' hn3 (by omega)⟩
  · rw [hb1]
    refine seg 6 [.co [1, 0, 1, 0, 1], .co [1, 1]] [(6, .slice none 0 0), (7, .int .i64 9)] (by kernel_rfl) ?_
    refine retR [6, 7] [.slice none 0 0, .int .i64 9] (by kernel_rfl) (by kernel_rfl) (by kernel_rfl) ?_
    have e1 : partE len a n = 9 := by simp [partE, hb1]
    have e2 : partL l a n = [] := by simp [partL, hl, hb1]
    rw [e1, e2]
    exact ⟨_, rfl, none, 0, rfl, hF, World.ownsRow_nil _ _ _ _⟩

end Go.Proofs.Ytgkiegplmohgkaa.F
