/- The document's numbers in bytes, in plain words. -/
import Derived.Test.YtgoedcjjckdlpaaLTField0
set_option linter.unusedVariables false
set_option linter.unusedSimpArgs false
namespace Go.Proofs.Ytgoedcjjckdlpaa.F
open Go Go.RowKit Go.Proofs.Ytgoedcjjckdlpaa.K
theorem refstore_loop (n : UInt64) (w : Nat) (hw : w ≤ 8) : ∀ k i (a : UInt64), w - i = k → i ≤ w → a.toNat = n.toNat / 256 ^ i → loopO (fun s => ref01_Store_l1 (w : Int) s.1 s.2.1 s.2.2) (a, enc i n.toNat, (i : Int)) = some (enc w n.toNat) := by
  intro k
  induction k with
  | zero =>
    intro i a h1 h2 h3
    have : i = w := by omega
    subst this
    refine loop_end ?_
    show ref01_Store_l1 (i : Int) a (enc i n.toNat) (i : Int) = _
    unfold ref01_Store_l1
    rw [decide_eq_false (by omega)]
    rfl
  | succ k ih =>
    intro i a h1 h2 h3
    have h4 : (a / 256).toNat = n.toNat / 256 ^ (i + 1) := by
      rw [UInt64.toNat_div, h3]
      show n.toNat / 256 ^ i / 256 = _
      rw [Nat.div_div_eq_div_mul, Nat.pow_succ]
    have := ih (i + 1) (a / 256) (by omega) (by omega) h4
    rw [show ((i + 1 : Nat) : Int) = (i : Int) + 1 by omega] at this
    refine (loop_next ?_).trans this
    show ref01_Store_l1 (w : Int) a (enc i n.toNat) (i : Int) = _
    unfold ref01_Store_l1
    rw [decide_eq_true (by omega), wI (by omega)]
    have hb : (a % 256).toUInt8 = UInt8.ofNat (n.toNat / 256 ^ i) := by
      apply UInt8.toNat_inj.1
      rw [UInt64.toNat_toUInt8, UInt64.toNat_mod, h3, UInt8.toNat_ofNat']
      show n.toNat / 256 ^ i % 256 % 2 ^ 8 = _
      omega
    rw [hb]
    simp only [cond_true, Option.bind_some]
    rw [app_ok (by simp only [enc_length, List.length_singleton]; omega), ← enc_snoc]
    rfl
theorem refstore (n : UInt64) (w : Nat) (hw : w ≤ 8) : ref01_Store n (w : Int) = some (enc w n.toNat) := by
  unfold ref01_Store
  have := refstore_loop n w hw w 0 n (by omega) (by omega) (by simp)
  rw [show (n, ([] : List UInt8), (0 : Int)) = (n, enc 0 n.toNat, ((0 : Nat) : Int)) from rfl, this]
  rfl
theorem refstoreI {x : Int} (w : Nat) (hw : w ≤ 8) (hx : 0 ≤ x ∧ x < 18446744073709551616) : ref01_Store (UInt64.ofInt x) (w : Int) = some (enc w x.toNat) := by
  rw [refstore _ w hw, ofInt_nat hx]
end Go.Proofs.Ytgoedcjjckdlpaa.F
