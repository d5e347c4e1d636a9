/- The law of words. -/
import Derived.Test.YtebbaokcgnjfiaaDoorLMWord2
import Derived.Test.YtebbaokcgnjfiaaDoorLMMan3
set_option linter.unusedVariables false
set_option linter.unusedSimpArgs false
namespace Go.Proofs.YtebbaokcgnjfiaaDoor.F
open Go Go.RowKit Go.Proofs.YtebbaokcgnjfiaaDoor.K
theorem unq_6 (s : List UInt8) : (unq s).2 = 0 ∨ (unq s).2 = 6 := by unfold unq; split <;> simp
theorem wordS_len (b : List UInt8) (p : Nat) : (wordS b p).1.length ≤ b.length := by
  unfold wordS
  have := wd_at (b.drop p).length (b.drop p) p [] (Nat.le_refl _)
  split
  · simp
  · dsimp only
    split
    · simp
    · have h := this.2.2.2
      rw [List.length_drop] at h
      simp only [List.length_nil] at h
      omega
theorem unq_len (s : List UInt8) : (unq s).1.length ≤ s.length := by
  have := wordS_len s 0
  unfold unq
  split
  · exact this
  · simp
theorem ManifestWords_pure (s : List UInt8) (_ : s.length ≤ 9223372036854775807) : law27_ManifestWords s = some true := by
  unfold law27_ManifestWords
  rw [live27]
  by_cases h : s.length ≤ 3000
  · have hq := Qt_len s
    rw [decide_eq_false (by omega), cond_false, Quote_ok s (by omega), Option.bind_some, (Unquote_ok s (by omega)).1, Option.bind_some, (Unquote_ok s (by omega)).2, Option.bind_some, (Unquote_ok (Qt s) (by omega)).1, Option.bind_some, refQuote_ok s (by omega), Option.bind_some, unq_q]
    unfold law27_num
    have hl := unq_len s
    rcases unq_6 s with e | e
    · have hb := unq_back s e
      rw [Quote_ok _ (by omega), hb, e]
      simp
    · rw [e]
      simp
  · rw [decide_eq_true (by omega)]
    rfl
end Go.Proofs.YtebbaokcgnjfiaaDoor.F
