/- The package field, in plain words: readers. -/
import Derived.Test.YtgoedcjjckdlpaaLTField0
set_option linter.unusedVariables false
set_option linter.unusedSimpArgs false
namespace Go.Proofs.Ytgoedcjjckdlpaa.F
open Go Go.RowKit Go.Proofs.Ytgoedcjjckdlpaa.K

theorem within_d (b : List UInt8) (a n : Int) : field_within b a n = decide (0 ≤ a ∧ 0 ≤ n ∧ n ≤ b.length ∧ a ≤ b.length - n) := by
  unfold field_within
  rw [Bool.eq_iff_iff, decide_eq_true_eq]
  simp only [Bool.cond_eq_ite]
  by_cases h1 : a ≥ 0 <;> by_cases h2 : n ≥ 0 <;> by_cases h3 : n ≤ (b.length : Int) <;> simp [h1, h2, h3]
/-- A reader over l. -/
structure Rd (l : List UInt8) (r : TFieldReader) : Prop where
  b : r.f_b = l
  lo : 0 ≤ r.f_at
  hi : r.f_at ≤ l.length
theorem take_any {l : List UInt8} (hl : l.length ≤ 100000000000) {r : TFieldReader} (h : Rd l r) {n : Int} (hn : 0 ≤ n ∧ n ≤ 1000000000000000000) :
    ∃ y r', field_Reader_take r n = some (y, r') ∧ Rd l r' ∧ (r'.f_e = 0 ↔ r.f_e = 0 ∧ r.f_at + n ≤ l.length) ∧ (r'.f_e = 0 → r'.f_at = r.f_at + n ∧ y = (l.drop r.f_at.toNat).take n.toNat) ∧ y.length ≤ l.length ∧ (r.f_e ≠ 0 → r' = r) ∧ (r'.f_e ≠ 0 → y = [] ∧ r'.f_at = r.f_at) := by
  obtain ⟨b, a, e⟩ := r
  obtain ⟨hb, h1, h2⟩ := h
  dsimp only at hb h1 h2 ⊢
  subst hb
  unfold field_Reader_take
  by_cases he : e = 0
  · subst he
    simp only [bne_self_eq_false, cond_false]
    rw [decide_eq_false (by omega), cond_false, within_d]
    by_cases hw : a + n ≤ b.length
    · rw [decide_eq_true (by omega), cond_true, wI (x := a + n) (by omega), wI (x := a + n - n) (by omega), show a + n - n = a by omega, slc_ok (by omega)]
      refine ⟨_, _, rfl, ⟨rfl, by dsimp only; omega, by dsimp only; omega⟩, by simp [hw], fun _ => ⟨rfl, ?_⟩, ?_, fun h => absurd rfl h, fun h => absurd rfl h⟩
      · rw [List.drop_take, show (a + n).toNat - a.toNat = n.toNat by omega]
      · rw [List.length_drop, List.length_take]; omega
    · rw [decide_eq_false (by omega), cond_false]
      refine ⟨_, _, rfl, ⟨rfl, h1, h2⟩, by simp [hw], ?_, Nat.zero_le _, fun h => absurd rfl h, fun _ => ⟨rfl, rfl⟩⟩
      intro h
      exact absurd h (show ¬ (6 : Int) = 0 by decide)
  · rw [show (e != 0) = true from bne_iff_ne.2 he, cond_true]
    exact ⟨_, _, rfl, ⟨rfl, h1, h2⟩, by simp [he], fun h => absurd h he, Nat.zero_le _, fun _ => rfl, fun _ => ⟨rfl, rfl⟩⟩
theorem or_add (a b : UInt64) (i : Nat) (x : UInt8) (ha : a.toNat < 256 ^ i) (hi : i < 8) : (a ||| shl64 x.toUInt64 ((8 * i : Nat) : Int)).toNat = a.toNat + 256 ^ i * x.toNat := by
  have hx := x.toNat_lt
  have h1 : (shl64 x.toUInt64 ((8 * i : Nat) : Int)).toNat = x.toNat * 2 ^ (8 * i) := by
    unfold shl64
    rw [Int.toNat_natCast, Nat.min_eq_left (by omega)]
    have hb := shift_lt x.toNat i hx hi
    have e : ((x.toUInt64.toNat : Int) * 2 ^ (8 * i)) = ((x.toNat : Int) * 2 ^ (8 * i)) := by simp
    rw [e, ofInt_nat hb]
    have : ((x.toNat : Int) * 2 ^ (8 * i)) = ((x.toNat * 2 ^ (8 * i) : Nat) : Int) := by simp
    rw [this, Int.toNat_natCast]
  have h2 := or_shift a.toNat x.toNat i ha hx hi
  have h3 := q64_or a (shl64 x.toUInt64 ((8 * i : Nat) : Int)) (a.toNat : Int) ((x.toNat : Int) * 2 ^ (8 * i)) rfl (by rw [h1]; simp)
  rw [h3] at h2
  exact Int.ofNat.inj h2
theorem load_ok (l : List UInt8) (hl : l.length ≤ 8) : ∃ v, field_load l = some v ∧ v.toNat = le l := by
  have key : ∀ k i (a : UInt64), l.length - i = k → i ≤ l.length → a.toNat = le (l.take i) → ∃ v, loopO (fun s => field_load_l1 l s.1 s.2) (a, i) = some v ∧ v.toNat = le l := by
    intro k
    induction k with
    | zero =>
      intro i a h1 h2 h3
      have : i = l.length := by omega
      subst this
      rw [List.take_length] at h3
      refine ⟨a, loop_end ?_, h3⟩
      show field_load_l1 l a l.length = _
      unfold field_load_l1
      rw [decide_eq_false (by omega)]
      rfl
    | succ k ih =>
      intro i a h1 h2 h3
      have hlt : i < l.length := by omega
      have hx := List.getElem?_eq_getElem hlt
      have h4 := le_take_succ l i hlt
      rw [List.getD_eq_getElem?_getD, hx, Option.getD_some] at h4
      have hlo := le_take_lt l i
      have hor := or_add a a i l[i] (by rw [h3]; exact hlo) (by omega)
      obtain ⟨v, h5, h6⟩ := ih (i + 1) (a ||| shl64 (l[i]).toUInt64 ((8 * i : Nat) : Int)) (by omega) (by omega) (by rw [hor, h3, h4])
      refine ⟨v, (loop_next ?_).trans h5, h6⟩
      show field_load_l1 l a i = _
      unfold field_load_l1
      rw [decide_eq_true (by omega), hx, wI (by omega), show (8 * (i : Int)) = ((8 * i : Nat) : Int) by omega, chk_d (by omega)]
      rfl
  obtain ⟨v, h1, h2⟩ := key l.length 0 0 (by omega) (by omega) rfl
  refine ⟨v, ?_, h2⟩
  unfold field_load
  rw [h1]
  rfl
theorem Num_any {l : List UInt8} (hl : l.length ≤ 100000000000) {r : TFieldReader} (h : Rd l r) {w : Nat} (hw : w = 1 ∨ w = 2 ∨ w = 4 ∨ w = 8) :
    ∃ v r', field_Reader_Num r (w : Int) = some (v, r') ∧ Rd l r' ∧ (r'.f_e = 0 ↔ r.f_e = 0 ∧ r.f_at + w ≤ l.length) ∧ (r'.f_e = 0 → r'.f_at = r.f_at + w ∧ v.toNat = le ((l.drop r.f_at.toNat).take w)) ∧ (r.f_e ≠ 0 → r' = r) ∧ (r'.f_e ≠ 0 → v.toNat = 0) ∧ v.toNat < 256 ^ w := by
  obtain ⟨y, r', h1, h2, h3, h4, h5, h6, h7⟩ := take_any hl h (n := (w : Int)) (by omega)
  have hy : y.length ≤ w := by
    by_cases he : r'.f_e = 0
    · rw [(h4 he).2, Int.toNat_natCast, List.length_take]; omega
    · rw [(h7 he).1]; exact Nat.zero_le _
  obtain ⟨v, h8, h9⟩ := load_ok y (by omega)
  refine ⟨v, r', ?_, h2, h3, fun he => ⟨(h4 he).1, ?_⟩, h6, fun he => by rw [h9, (h7 he).1]; rfl, ?_⟩
  · unfold field_Reader_Num
    rw [wide_ok hw, cond_true, h1]
    simp only [Option.bind_some]
    rw [h8]
    rfl
  · rw [h9, (h4 he).2, Int.toNat_natCast]
  · rw [h9]
    exact Nat.lt_of_lt_of_le (le_lt y) (Nat.pow_le_pow_right (by decide) hy)
theorem new_ok {b : List UInt8} (h : b.length ≤ 100000000000) : field_NewReader b = some ⟨b, 0, 0⟩ := by
  unfold field_NewReader
  rw [copied_ok h]
  rfl
end Go.Proofs.Ytgoedcjjckdlpaa.F
