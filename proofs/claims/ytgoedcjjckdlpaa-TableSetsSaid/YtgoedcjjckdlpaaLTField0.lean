/- The package field, in plain words: writers that have room. -/
import Derived.Test.YtgoedcjjckdlpaaLTP
import Derived.Test.YtgoedcjjckdlpaaW
set_option linter.unusedVariables false
set_option linter.unusedSimpArgs false
namespace Go.Proofs.Ytgoedcjjckdlpaa.F
open Go Go.RowKit Go.Proofs.Ytgoedcjjckdlpaa.K

theorem wide_ok {w : Nat} (h : w = 1 ∨ w = 2 ∨ w = 4 ∨ w = 8) : field_wide (w : Int) = true := by
  rcases h with rfl | rfl | rfl | rfl <;> rfl
theorem shr64_nat (n : UInt64) (k : Nat) (h : k ≤ 64) : (shr64 n (k : Int)).toNat = n.toNat / 2 ^ k := by
  unfold shr64
  have h1 := n.toNat_lt
  rw [Int.toNat_natCast, Nat.min_eq_left h, UInt64.toNat_ofNat']
  have := Nat.div_le_self n.toNat (2 ^ k)
  exact Nat.mod_eq_of_lt (by omega)
theorem fits_ok {n : UInt64} {w : Nat} (h : w = 1 ∨ w = 2 ∨ w = 4 ∨ w = 8) : field_fits n (w : Int) = some (decide (n.toNat < 256 ^ w)) := by
  have hn := n.toNat_lt
  unfold field_fits
  rcases h with rfl | rfl | rfl | rfl
  · rw [show (((1 : Nat) : Int) == 8) = false from rfl, show IntKind.i64.wrap (8 * ((1 : Nat) : Int)) = ((8 : Nat) : Int) from by decide, cond_false, chk_d (by omega), Option.bind_some, shr64_nat _ _ (by omega)]
    congr 1
    rw [Bool.eq_iff_iff, beq_iff_eq, decide_eq_true_eq]
    omega
  · rw [show (((2 : Nat) : Int) == 8) = false from rfl, show IntKind.i64.wrap (8 * ((2 : Nat) : Int)) = ((16 : Nat) : Int) from by decide, cond_false, chk_d (by omega), Option.bind_some, shr64_nat _ _ (by omega)]
    congr 1
    rw [Bool.eq_iff_iff, beq_iff_eq, decide_eq_true_eq]
    omega
  · rw [show (((4 : Nat) : Int) == 8) = false from rfl, show IntKind.i64.wrap (8 * ((4 : Nat) : Int)) = ((32 : Nat) : Int) from by decide, cond_false, chk_d (by omega), Option.bind_some, shr64_nat _ _ (by omega)]
    congr 1
    rw [Bool.eq_iff_iff, beq_iff_eq, decide_eq_true_eq]
    omega
  · show some true = _
    rw [decide_eq_true]
    omega
theorem store_ok (n : UInt64) (w : Nat) (hw : w ≤ 8) : ∀ (k i : Nat) (b : List UInt8), w - i = k → i ≤ w → b.length ≤ 100000000000 →
    loopO (fun s => field_store_l1 n (w : Int) s.1 s.2) (b ++ enc i n.toNat, (i : Int)) = some (b ++ enc w n.toNat) := by
  intro k
  induction k with
  | zero =>
    intro i b h1 h2 h3
    have : i = w := by omega
    subst this
    refine loop_end ?_
    show field_store_l1 n (i : Int) (b ++ enc i n.toNat) (i : Int) = _
    unfold field_store_l1
    rw [decide_eq_false (by omega)]
    rfl
  | succ k ih =>
    intro i b h1 h2 h3
    have := ih (i + 1) b (by omega) (by omega) h3
    rw [show ((i + 1 : Nat) : Int) = (i : Int) + 1 by omega] at this
    refine (loop_next ?_).trans this
    show field_store_l1 n (w : Int) (b ++ enc i n.toNat) (i : Int) = _
    unfold field_store_l1
    rw [decide_eq_true (by omega), wI (by omega), wI (by omega), show (8 * (i : Int)) = ((8 * i : Nat) : Int) by omega, chk_d (by omega)]
    have hb : (shr64 n ((8 * i : Nat) : Int)).toUInt8 = UInt8.ofNat (n.toNat / 256 ^ i) := by
      apply UInt8.toNat_inj.1
      rw [UInt64.toNat_toUInt8, shr64_nat _ _ (by omega), pow256, UInt8.toNat_ofNat']
    rw [hb]
    simp only [cond_true, Option.bind_some]
    rw [app_ok (by simp only [List.length_append, enc_length, List.length_singleton]; omega), List.append_assoc, ← enc_snoc]
    rfl
theorem store_eq (n : UInt64) (w : Nat) (hw : w ≤ 8) (b : List UInt8) (h3 : b.length ≤ 100000000000) : field_store b n (w : Int) = some (b ++ enc w n.toNat) := by
  unfold field_store
  have := store_ok n w hw w 0 b (by omega) (by omega) h3
  simp only [enc, List.append_nil] at this
  rw [show ((0 : Nat) : Int) = 0 from rfl] at this
  rw [this]
  rfl
theorem copied_ok {b : List UInt8} (h : b.length ≤ 100000000000) : field_copied b = some b := by
  unfold field_copied
  rw [app_ok (by simp; omega)]
  rfl
theorem ofInt_nat {x : Int} (h : 0 ≤ x ∧ x < 18446744073709551616) : (UInt64.ofInt x).toNat = x.toNat := by
  have := q64_wrap x
  rw [wu64 h] at this
  omega
theorem Put_ok {b : List UInt8} {n : UInt64} {w : Nat} (h : w = 1 ∨ w = 2 ∨ w = 4 ∨ w = 8) (hn : n.toNat < 256 ^ w) (hb : b.length ≤ 100000000000) : field_Put b n (w : Int) = some (b ++ enc w n.toNat, 0) := by
  unfold field_Put
  rw [wide_ok h, fits_ok h, decide_eq_true hn, copied_ok hb]
  simp only [cond_true, Option.bind_some]
  rw [store_eq _ _ (by omega) _ hb]
  rfl
end Go.Proofs.Ytgoedcjjckdlpaa.F
