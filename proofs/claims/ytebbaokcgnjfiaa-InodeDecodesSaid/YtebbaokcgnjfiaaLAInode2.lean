/- Inodes in plain words: the page's example; how much blocks tell. -/
import Derived.Test.YtebbaokcgnjfiaaLAInode
set_option linter.unusedVariables false
set_option linter.unusedSimpArgs false
namespace Go.Proofs.Ytebbaokcgnjfiaa.F
open Go Go.RowKit Go.Proofs.Ytebbaokcgnjfiaa.K

theorem chk_of_good {n : TApiInode} (h : 1 ≤ n.Kind ∧ n.Kind ≤ 5) (hg : Good n) : chkI n = 0 := by rw [chkI, if_pos h, if_pos hg]
theorem good_of_chk {n : TApiInode} (h : chkI n = 0) : (1 ≤ n.Kind ∧ n.Kind ≤ 5) ∧ Good n := by
  unfold chkI at h
  split at h
  · rename_i hk
    split at h
    · exact ⟨hk, by assumption⟩
    · cases h
  · cases h
theorem none_nat {x : Int} (h : -1 ≤ x ∧ x ≤ 4294967295) : (inode_none x).toNat = (if x = -1 then 4294967295 else x.toNat) := by
  unfold inode_none
  have h1 : ((UInt32.ofInt x).toNat : Int) = x % 4294967296 := by
    rw [← q32_wrap]
    simp [IntKind.wrap, IntKind.bits, IntKind.signed]
  rw [ofInt_nat (by have := (UInt32.ofInt x).toNat_lt; omega)]
  split <;> omega
theorem num_fits {n : UInt64} {w k : Nat} (hn : n.toNat = k) (hk : k < 256 ^ w) : n.toNat < 256 ^ w := by rw [hn]; exact hk
theorem live15 : law15_live = some true := by
  unfold law15_live inode_Encode
  rw [inode_Check_eq, chk_of_good (by decide) (by unfold Good; simp)]
  simp only [Option.bind_some, bne_self_eq_false, cond_false]
  have hN : field_NewWriter 8388608 = ⟨[], 8388608, 0⟩ := rfl
  rw [hN]
  rw [show (field_Writer_Num ⟨[], 8388608, 0⟩ (UInt64.ofInt 5) 2) = _ from Num_ok (w := 2) (by decide) (by decide) (by decide) (by decide)]
  simp only [Option.bind_some]
  rw [show (field_Writer_Num _ (UInt64.ofInt 384) 2) = _ from Num_ok (w := 2) (by decide) (by decide) (by decide) (by decide)]
  simp only [Option.bind_some]
  rw [show (field_Writer_Num _ (UInt64.ofInt 0) 2) = _ from Num_ok (w := 2) (by decide) (by decide) (by decide) (by decide)]
  simp only [Option.bind_some]
  rw [show (field_Writer_Num _ (UInt64.ofInt 0) 2) = _ from Num_ok (w := 2) (by decide) (by decide) (by decide) (by decide)]
  simp only [Option.bind_some]
  rw [show (field_Writer_Num _ (UInt64.ofInt 0) 4) = _ from Num_ok (w := 4) (by decide) (by decide) (by decide) (by decide)]
  simp only [Option.bind_some]
  rw [show (field_Writer_Num _ (UInt64.ofInt 1) 4) = _ from Num_ok (w := 4) (by decide) (by decide) (by decide) (by decide)]
  simp only [Option.bind_some]
  rw [show (field_Writer_Num _ (inode_none (-1)) 4) = _ from Num_ok (w := 4) (by decide) (by decide) (by decide) (by decide)]
  simp only [Option.bind_some]
  rw [show ((5 : Int) == 1) = false from rfl, show ((5 : Int) == 2) = false from rfl, show ((5 : Int) == 3) = false from rfl]
  simp only [cond_false]
  rw [show (field_Writer_Num _ (UInt64.ofInt 5) 4) = _ from Num_ok (w := 4) (by decide) (by decide) (by decide) (by decide)]
  simp only [Option.bind_some]
  rw [Done_ok (by decide)]
  rfl
theorem shlI_nat {x : Int} (k : Nat) (hk : k ≤ 64) (h : -9223372036854775808 ≤ x * 2 ^ k ∧ x * 2 ^ k ≤ 9223372036854775807) : shlI x (k : Int) = x * 2 ^ k := by
  unfold shlI
  rw [Int.toNat_natCast, Nat.min_eq_left hk, wI h]
theorem size_loop (L : Nat) (hL : L ≤ 20) : ∀ k j, L - j = k → j ≤ L → loopO (fun s => law15_InodePlains_l1 (L : Int) s.1 s.2) ((2 ^ j : Int), (j : Int)) = some (2 ^ L : Int) := by
  intro k
  induction k with
  | zero =>
    intro j h1 h2
    have : j = L := by omega
    subst this
    refine loop_end ?_
    show law15_InodePlains_l1 (j : Int) (2 ^ j) (j : Int) = _
    unfold law15_InodePlains_l1
    rw [decide_eq_false (by omega)]
    rfl
  | succ k ih =>
    intro j h1 h2
    have := ih (j + 1) (by omega) (by omega)
    rw [show ((j + 1 : Nat) : Int) = (j : Int) + 1 by omega] at this
    refine (loop_next ?_).trans this
    show law15_InodePlains_l1 (L : Int) (2 ^ j) (j : Int) = _
    unfold law15_InodePlains_l1
    have hp : (2 : Int) ^ j ≤ 1048576 := by
      have h4 : (2 : Nat) ^ j ≤ 1048576 := Nat.le_trans (Nat.pow_le_pow_right (by decide) (by omega)) (show 2 ^ 20 ≤ 1048576 by decide)
      have h5 : ((2 ^ j : Nat) : Int) = 2 ^ j := by simp
      omega
    have hp0 : (0 : Int) < 2 ^ j := Int.pow_pos (by decide)
    rw [decide_eq_true (by omega), wI (by omega), wI (by omega), Int.pow_succ]
    rfl
theorem InodePlains_pure (n : TApiInode) (hn : rApiInode.wf n) (log : Int) (hl : -9223372036854775808 ≤ log ∧ log ≤ 9223372036854775807) (i : Int) (hi : -9223372036854775808 ≤ i ∧ i ≤ 9223372036854775807) : law15_InodePlains n log i = some true := by
  unfold law15_InodePlains
  rw [live15]
  by_cases h1 : (n.Words.length : Int) > 1000
  · rw [decide_eq_true h1]; rfl
  rw [decide_eq_false h1, cond_false]
  by_cases h2 : (n.Target.length : Int) > 5000
  · rw [decide_eq_true h2]; rfl
  rw [decide_eq_false h2, cond_false]
  unfold inode_Plain
  rw [inode_Check_eq, ref15_Check_eq]
  by_cases hk : n.Kind = 1
  · by_cases hc : chkI n = 0
    · obtain ⟨_, hg⟩ := good_of_chk hc
      have hsz := (hg.2.1 hk).1
      by_cases hlo : 12 ≤ log ∧ log ≤ 20
      · obtain ⟨L, rfl⟩ : ∃ L : Nat, log = (L : Int) := ⟨log.toNat, by omega⟩
        have hls := size_loop L (by omega) L 0 (by omega) (by omega)
        have hP : (4096 : Int) ≤ 2 ^ L ∧ (2 : Int) ^ L ≤ 1048576 := by
          have h3 : (4096 : Nat) ≤ 2 ^ L := Nat.le_trans (show 4096 ≤ 2 ^ 12 by decide) (Nat.pow_le_pow_right (by decide) (by omega))
          have h4 : (2 : Nat) ^ L ≤ 1048576 := Nat.le_trans (Nat.pow_le_pow_right (by decide) (by omega)) (show 2 ^ 20 ≤ 1048576 by decide)
          have h5 : ((2 ^ L : Nat) : Int) = 2 ^ L := by simp
          omega
        rw [show ((2 : Int) ^ 0, ((0 : Nat) : Int)) = ((1 : Int), (0 : Int)) from rfl] at hls
        have hs1 : shlI 1 (L : Int) = 2 ^ L := by rw [shlI_nat L (by omega) (by omega), Int.one_mul]
        simp only [hk, hc, between_eq, bne_self_eq_false, cond_false, Option.bind_some, decide_eq_true hlo, cond_true, decide_eq_false (show ¬ (L : Int) < 12 by omega), decide_eq_false (show ¬ (L : Int) > 20 by omega), hls]
        generalize hq : (2 : Int) ^ L = S at hP hs1
        by_cases hi0 : i < 0
        · simp [hi0, lt_, law15_num]
        · by_cases hi1 : i ≥ (n.Words.length : Int)
          · simp [hi0, hi1, lt_, law15_num]
          · have hiS : 0 ≤ i * S ∧ i * S ≤ 1048576000 := by
              constructor
              · exact Int.mul_nonneg (by omega) (by omega)
              · have : i * S ≤ 1000 * 1048576 := Int.mul_le_mul (by omega) hP.2 (by omega) (by omega)
                omega
            have hsi : shlI i (L : Int) = i * S := by rw [shlI_nat L (by omega) (by rw [hq]; omega), hq]
            have hw : IntKind.i64.wrap (i * S) = i * S := wI (by omega)
            by_cases hz : i * S ≥ n.Size
            · simp [hi0, hi1, hz, lt_, law15_num, hsi, hw, chk]
            · have hw2 : IntKind.i64.wrap (n.Size - i * S) = n.Size - i * S := wI (by omega)
              by_cases hlt : n.Size - i * S < S
              · simp [hi0, hi1, hz, lt_, law15_num, hsi, hw, hw2, hs1, hlt, chk, show ¬ (S < n.Size - i * S) by omega]
              · by_cases hgt : S < n.Size - i * S
                · simp [hi0, hi1, hz, lt_, law15_num, hsi, hw, hw2, hs1, hlt, chk, hgt]
                · simp [hi0, hi1, hz, lt_, law15_num, hsi, hw, hw2, hs1, hlt, chk, hgt]
                  rw [show (S == n.Size - i * S) = true from beq_iff_eq.2 (by omega)]
                  rfl
      · have : (log < 12) ∨ (log > 20) := by omega
        by_cases hlo2 : log < 12
        · simp [hk, hc, between_eq, hlo, hlo2, law15_num]
        · have hlo3 : 20 < log := by omega
          simp [hk, hc, between_eq, hlo, hlo2, hlo3, law15_num]
    · have hc2 : (chkI n != 0) = true := bne_iff_ne.2 hc
      simp [hk, hc2, law15_num]
  · have hk2 : (n.Kind != 1) = true := bne_iff_ne.2 hk
    simp [hk2, law15_num]
end Go.Proofs.Ytebbaokcgnjfiaa.F
