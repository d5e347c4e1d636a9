/- The package field, in plain words: a reader's text. -/
import Derived.Test.YtgoedcjjckdlpaaLTReader0
set_option linter.unusedVariables false
set_option linter.unusedSimpArgs false
namespace Go.Proofs.Ytgoedcjjckdlpaa.F
open Go Go.RowKit Go.Proofs.Ytgoedcjjckdlpaa.K

theorem Text_any {l : List UInt8} (hl : l.length ≤ 100000000000) {r : TFieldReader} (h : Rd l r) {most : Int} (hm : 0 ≤ most ∧ most ≤ 65535) :
    ∃ y r', field_Reader_Text r most = some (y, r') ∧ Rd l r' ∧
      (r'.f_e = 0 ↔ r.f_e = 0 ∧ r.f_at + 2 ≤ l.length ∧ (le ((l.drop r.f_at.toNat).take 2) : Int) ≤ most ∧ r.f_at + 2 + le ((l.drop r.f_at.toNat).take 2) ≤ l.length) ∧
      (r'.f_e = 0 → r'.f_at = r.f_at + 2 + le ((l.drop r.f_at.toNat).take 2) ∧ y = (l.drop (r.f_at.toNat + 2)).take (le ((l.drop r.f_at.toNat).take 2))) ∧ (r.f_e ≠ 0 → r' = r) ∧ y.length ≤ l.length := by
  unfold field_Reader_Text
  by_cases he : r.f_e = 0
  · rw [show (r.f_e != 0) = false from by rw [he]; rfl, cond_false, decide_eq_false (by omega), cond_false]
    obtain ⟨y, r1, h1, h2, h3, h4, h5, h6, h7⟩ := take_any hl h (n := 2) (by omega)
    have hy : y.length ≤ 2 := by
      by_cases he1 : r1.f_e = 0
      · rw [(h4 he1).2, List.length_take]; exact Nat.min_le_left _ _
      · rw [(h7 he1).1]; exact Nat.zero_le _
    obtain ⟨v, h8, h9⟩ := load_ok y (by omega)
    have hv : v.toNat < 65536 := by
      rw [h9]
      exact Nat.lt_of_lt_of_le (le_lt y) (Nat.pow_le_pow_right (by decide) hy)
    rw [h1]
    simp only [Option.bind_some]
    rw [h8]
    simp only [Option.bind_some, lt_eq]
    rw [wI (by omega)]
    by_cases he1 : r1.f_e = 0
    · obtain ⟨h10, h11⟩ := h4 he1
      have hle : v.toNat = le ((l.drop r.f_at.toNat).take 2) := by rw [h9, h11]; rfl
      have hav := (h3.1 he1).2
      rw [show (r1.f_e == 0) = true from by rw [he1]; rfl, cond_true]
      by_cases hmo : (v.toNat : Int) > most
      · rw [decide_eq_true hmo, cond_true]
        obtain ⟨y2, r2, k1, k2, k3, k4, k5, k6, k7⟩ := take_any hl (r := ⟨r1.f_b, r1.f_at, 2⟩) ⟨h2.b, h2.lo, h2.hi⟩ (n := (v.toNat : Int)) (by omega)
        rw [k1]
        simp only [Option.bind_some]
        have : r2 = ⟨r1.f_b, r1.f_at, 2⟩ := k6 (show ¬ (2 : Int) = 0 by decide)
        subst this
        rw [show ((2 : Int) != 0) = true from rfl, cond_true]
        refine ⟨_, _, rfl, ⟨h2.b, h.lo, h.hi⟩, ⟨?_, ?_⟩, ?_, fun h => absurd he h, Nat.zero_le _⟩
        · intro h; exact absurd h (show ¬ (2 : Int) = 0 by decide)
        · rintro ⟨_, _, h, _⟩; rw [← hle] at h; omega
        · intro h; exact absurd h (show ¬ (2 : Int) = 0 by decide)
      · rw [decide_eq_false hmo, cond_false]
        obtain ⟨y2, r2, k1, k2, k3, k4, k5, k6, k7⟩ := take_any hl h2 (n := (v.toNat : Int)) (by omega)
        rw [k1]
        simp only [Option.bind_some]
        by_cases he2 : r2.f_e = 0
        · obtain ⟨k8, k9⟩ := k4 he2
          have hav2 := (k3.1 he2).2
          rw [show (r2.f_e != 0) = false from by rw [he2]; rfl, cond_false, copied_ok (by omega)]
          refine ⟨_, _, rfl, k2, ⟨fun _ => ⟨he, hav, by rw [← hle]; omega, by rw [← hle, ← h10]; exact hav2⟩, fun _ => he2⟩, fun _ => ⟨by rw [k8, h10, hle], ?_⟩, fun h => absurd he h, k5⟩
          rw [k9, h10, Int.toNat_natCast, hle, show (r.f_at + 2).toNat = r.f_at.toNat + 2 by have := h.lo; omega]
        · rw [show (r2.f_e != 0) = true from bne_iff_ne.2 he2, cond_true]
          refine ⟨_, _, rfl, ⟨k2.b, h.lo, h.hi⟩, ⟨fun h => absurd h he2, fun ⟨_, _, _, h⟩ => absurd (k3.2 ⟨he1, by rw [h10, hle]; exact h⟩) he2⟩, fun h => absurd h he2, fun h => absurd he h, Nat.zero_le _⟩
    · have hr1 := h7 he1
      rw [show (r1.f_e == 0) = false from beq_eq_false_iff_ne.2 he1, cond_false, cond_false]
      obtain ⟨y2, r2, k1, k2, k3, k4, k5, k6, k7⟩ := take_any hl h2 (n := (v.toNat : Int)) (by omega)
      have : r2 = r1 := k6 he1
      subst this
      rw [k1]
      simp only [Option.bind_some]
      rw [show (r2.f_e != 0) = true from bne_iff_ne.2 he1, cond_true]
      exact ⟨_, _, rfl, ⟨k2.b, h.lo, h.hi⟩, ⟨fun h => absurd h he1, fun ⟨_, h, _⟩ => absurd (h3.2 ⟨he, h⟩) he1⟩, fun h => absurd h he1, fun h => absurd he h, Nat.zero_le _⟩
  · rw [show (r.f_e != 0) = true from bne_iff_ne.2 he, cond_true]
    exact ⟨_, _, rfl, h, ⟨fun h => absurd h he, fun h => absurd h.1 he⟩, fun h => absurd h he, fun _ => rfl, Nat.zero_le _⟩
end Go.Proofs.Ytgoedcjjckdlpaa.F
