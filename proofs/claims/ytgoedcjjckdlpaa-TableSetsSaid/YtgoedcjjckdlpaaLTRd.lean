/- Numbers at places of bytes, read by the reader and by the document, in plain words. -/
import Derived.Test.YtgoedcjjckdlpaaLTReader0
set_option linter.unusedVariables false
set_option linter.unusedSimpArgs false
namespace Go.Proofs.Ytgoedcjjckdlpaa.F
open Go Go.RowKit Go.Proofs.Ytgoedcjjckdlpaa.K
/-- The number of w bytes at a place. -/
def rd (l : List UInt8) (p w : Nat) : Nat := le ((l.drop p).take w)
theorem rd_lt (l : List UInt8) (p w : Nat) : rd l p w < 256 ^ w := le_take_lt _ _
theorem rd_drop (l : List UInt8) (p q w : Nat) : rd (l.drop p) q w = rd l (p + q) w := by unfold rd; rw [List.drop_drop]
theorem rd_app (l x : List UInt8) (p w : Nat) (h : p + w ≤ l.length) : rd (l ++ x) p w = rd l p w := by
  unfold rd
  rw [List.drop_append_of_le_length (by omega), List.take_append_of_le_length (by rw [List.length_drop]; omega)]
theorem Load_ok {b : List UInt8} {p : Int} {w : Nat} (h : 0 ≤ p ∧ p + w ≤ b.length) (hb : b.length ≤ 100000000000) (hw : w ≤ 8) : ∃ v, ref01_Load b p (w : Int) = some v ∧ v.toNat = rd b p.toNat w := by
  obtain ⟨a, rfl⟩ : ∃ a : Nat, p = (a : Int) := ⟨p.toNat, by omega⟩
  rw [Int.toNat_natCast]
  have key : ∀ k (v : UInt64), k ≤ w → v.toNat = le ((b.drop (a + k)).take (w - k)) → ∃ v', loopO (fun s => ref01_Load_l1 b (a : Int) s.1 s.2) (v, (k : Int) - 1) = some v' ∧ v'.toNat = rd b a w := by
    intro k
    induction k with
    | zero =>
      intro v h1 h2
      refine ⟨v, loop_end ?_, h2⟩
      show ref01_Load_l1 b (a : Int) v (((0 : Nat) : Int) - 1) = _
      unfold ref01_Load_l1
      rw [decide_eq_false (by omega)]
      rfl
    | succ k ih =>
      intro v h1 h2
      have hlt : a + k < b.length := by omega
      have hx := List.getElem?_eq_getElem hlt
      have hv := le_take_lt (b.drop (a + (k + 1))) (w - (k + 1))
      have hp : 256 ^ (w - (k + 1)) ≤ 72057594037927936 := p256 _ (by omega)
      have hbl := (b[a + k]).toNat_lt
      have hn : (v * 256 + (b[a + k]).toUInt64).toNat = le ((b.drop (a + k)).take (w - k)) := by
        rw [List.drop_eq_getElem_cons hlt, show w - k = (w - (k + 1)) + 1 by omega, List.take_succ_cons, le, show a + k + 1 = a + (k + 1) by omega, ← h2, UInt64.toNat_add, UInt64.toNat_mul, UInt8.toNat_toUInt64]
        rw [← h2] at hv
        show (v.toNat * 256 % 2 ^ 64 + _) % 2 ^ 64 = _
        omega
      obtain ⟨v', h3, h4⟩ := ih _ (by omega) hn
      refine ⟨v', (loop_next ?_).trans h3, h4⟩
      show ref01_Load_l1 b (a : Int) v (((k + 1 : Nat) : Int) - 1) = _
      unfold ref01_Load_l1
      rw [decide_eq_true (by omega), show ((k + 1 : Nat) : Int) - 1 = (k : Int) by omega, wI (by omega), wI (by omega), show (a : Int) + (k : Int) = ((a + k : Nat) : Int) by omega, idx_ok hx]
      rfl
  obtain ⟨v, h1, h2⟩ := key w 0 (by omega) (by simp [le])
  refine ⟨v, ?_, h2⟩
  unfold ref01_Load
  rw [wI (by omega), h1]
  rfl
/-- A reader that stands at a place, or is wrong. -/
structure At (l : List UInt8) (r : TFieldReader) (p : Nat) : Prop where
  rd : Rd l r
  at_ : r.f_e = 0 → r.f_at = p ∧ p ≤ l.length
theorem Num_at {l : List UInt8} (hl : l.length ≤ 10000000) {r : TFieldReader} {p : Nat} (h : At l r p) {w : Nat} (hw : w = 1 ∨ w = 2 ∨ w = 4 ∨ w = 8) :
    ∃ v r', field_Reader_Num r (w : Int) = some (v, r') ∧ At l r' (p + w) ∧ (r'.f_e = 0 ↔ r.f_e = 0 ∧ p + w ≤ l.length) ∧ (r'.f_e = 0 → v.toNat = rd l p w) ∧ (r'.f_e ≠ 0 → v.toNat = 0) ∧ v.toNat < 256 ^ w := by
  obtain ⟨v, r', h1, h2, h3, h4, h5, h6, h7⟩ := Num_any (by omega) h.rd hw
  have h8 : r'.f_e = 0 ↔ r.f_e = 0 ∧ p + w ≤ l.length := by
    rw [h3]
    constructor
    · rintro ⟨a, b⟩
      have := h.at_ a
      exact ⟨a, by omega⟩
    · rintro ⟨a, b⟩
      have := h.at_ a
      exact ⟨a, by omega⟩
  refine ⟨v, r', h1, ⟨h2, fun he => ?_⟩, h8, fun he => ?_, h6, h7⟩
  · have a := h8.1 he
    have := h.at_ a.1
    have := (h4 he).1
    omega
  · have a := h8.1 he
    rw [(h4 he).2, (h.at_ a.1).1, Int.toNat_natCast]
    rfl
end Go.Proofs.Ytgoedcjjckdlpaa.F
