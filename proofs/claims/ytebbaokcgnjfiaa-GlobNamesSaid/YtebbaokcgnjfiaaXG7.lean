import Derived.Test.YtebbaokcgnjfiaaXG6
set_option linter.unusedVariables false
set_option linter.unusedSimpArgs false
namespace Go.Proofs.Ytebbaokcgnjfiaa.F
open Go Go.RowKit Go.Proofs.Ytebbaokcgnjfiaa.K Go.Proofs.Ytebbaokcgnjfiaa.K.E
theorem u8eq {c : UInt8} {n : Nat} (hn : n < 256) : ((c.toNat : Int) == (n : Int)) = (c == UInt8.ofNat n) := by
  cases h : (c == UInt8.ofNat n) with
  | true => rw [beq_iff_eq.1 h]; rw [beq_iff_eq]; simp; omega
  | false => exact u8ne hn (beq_eq_false_iff_ne.1 h)
theorem valid_loop {s : List UInt8} (hl : s.length ≤ 9223372036854775806) : ∀ (n i : Nat), s.length - i = n → i ≤ s.length → (loopO (fun t => ref10_Valid_l1 s t) (i : Int) = some (.inl ()) ∧ ∀ c ∈ s.drop i, okc c) ∨ loopO (fun t => ref10_Valid_l1 s t) (i : Int) = some (.inr false)
  | 0, i, h, hi => by
    have : i = s.length := by omega
    subst this
    refine .inl ⟨loop_end ?_, by simp⟩
    unfold ref10_Valid_l1
    rw [dF (show ¬ ((s.length : Int) < (s.length : Int)) by omega)]
    rfl
  | n + 1, i, h, hi => by
    have hlt : i < s.length := by omega
    have hx := List.getElem?_eq_getElem hlt
    have hb : ref10_Valid_l1 s (i : Int) = cond (s[i] == 47) (some (.inr (.inr false))) (cond (s[i] == 0) (some (.inr (.inr false))) (some (.inl ((i + 1 : Nat) : Int)))) := by
      unfold ref10_Valid_l1
      rw [dT (show (i : Int) < (s.length : Int) by omega)]
      simp only [cond_true, idx_ok hx, Option.bind_some]
      rw [show ((s[i].toNat : Int) == 47) = (s[i] == 47) from u8eq (n := 47) (by decide), show ((s[i].toNat : Int) == 0) = (s[i] == 0) from u8eq (n := 0) (by decide), wI ⟨by omega, by omega⟩]
      rfl
    cases h47 : (s[i] == 47) with
    | true => rw [h47] at hb; exact .inr (loop_end hb)
    | false =>
      rw [h47] at hb
      cases h0 : (s[i] == 0) with
      | true => rw [h0] at hb; exact .inr (loop_end hb)
      | false =>
        rw [h0] at hb
        have e : loopO (fun t => ref10_Valid_l1 s t) (i : Int) = loopO (fun t => ref10_Valid_l1 s t) ((i + 1 : Nat) : Int) := loop_next (body := fun t => ref10_Valid_l1 s t) hb
        rw [e]
        rcases valid_loop hl n (i + 1) (by omega) (by omega) with ⟨g1, g2⟩ | g1
        · refine .inl ⟨g1, fun c hc => ?_⟩
          rw [List.drop_eq_getElem_cons hlt] at hc
          rcases List.mem_cons.1 hc with rfl | hc
          · exact ⟨beq_eq_false_iff_ne.1 h0, beq_eq_false_iff_ne.1 h47⟩
          · exact g2 c hc
        · exact .inr g1
theorem valid_of {s : List UInt8} (hl : s.length ≤ 9223372036854775807) : ∃ v, ref10_Valid s = some v ∧ (v = true → validP s) := by
  unfold ref10_Valid
  by_cases h1 : (s.length : Int) < 1
  · rw [dT h1]; exact ⟨false, rfl, fun e => by cases e⟩
  rw [dF h1]
  by_cases h2 : (s.length : Int) > 255
  · rw [dT h2]; exact ⟨false, rfl, fun e => by cases e⟩
  rw [dF h2]
  simp only [cond_false]
  cases h3 : (s == ([46] : List UInt8)) with
  | true => exact ⟨false, rfl, fun e => by cases e⟩
  | false =>
    simp only [cond_false, bi]
    cases h4 : (s == ([46, 46] : List UInt8)) with
    | true => exact ⟨false, rfl, fun e => by cases e⟩
    | false =>
      simp only [cond_false]
      rcases valid_loop (s := s) (by omega) s.length 0 rfl (by omega) with ⟨g1, g2⟩ | g1
      · have g1 : loopO (fun t => ref10_Valid_l1 s t) (0 : Int) = some (.inl ()) := g1
        rw [g1]
        exact ⟨true, rfl, fun _ => ⟨fun e => by subst e; simp at h1, by omega, beq_eq_false_iff_ne.1 h3, g2⟩⟩
      · have g1 : loopO (fun t => ref10_Valid_l1 s t) (0 : Int) = some (.inr false) := g1
        rw [g1]
        exact ⟨false, rfl, fun e => by cases e⟩
theorem cat_ok {l x : List UInt8} (h : l.length + x.length ≤ 100000) : cat l x = some (l ++ x) := if_pos (by omega)
theorem text_loop {a : List UInt8} (hl : a.length ≤ 255) : ∀ (suf pre : List UInt8), a = pre ++ suf → loopO (fun s => law28_GlobNames_l1 a s.1 s.2) (esc pre, (pre.length : Int)) = some (.inl (esc a))
  | [], pre, h => by
    have : pre = a := by rw [h]; simp
    subst this
    refine loop_end (body := fun s => law28_GlobNames_l1 pre s.1 s.2) (s := (esc pre, (pre.length : Int))) ?_
    show law28_GlobNames_l1 pre (esc pre) (pre.length : Int) = _
    unfold law28_GlobNames_l1
    rw [dF (show ¬ ((pre.length : Int) < (pre.length : Int)) by omega)]
    rfl
  | c :: suf, pre, h => by
    have hlen : a.length = pre.length + suf.length + 1 := by rw [h]; simp; omega
    have he := esc_len pre
    have hb : law28_GlobNames_l1 a (esc pre) (pre.length : Int) = some (.inl (esc (pre ++ [c]), ((pre ++ [c]).length : Int))) := by
      unfold law28_GlobNames_l1
      rw [dT (show (pre.length : Int) < (a.length : Int) by omega)]
      simp only [cond_true]
      rw [cat_ok (by simp only [List.length_singleton]; omega)]
      simp only [Option.bind_some]
      rw [wI ⟨by omega, by omega⟩, slc_ok ⟨by omega, by omega, by omega⟩]
      simp only [Option.bind_some]
      have e : (a.take ((pre.length : Int) + 1).toNat).drop ((pre.length : Int)).toNat = [c] := by
        rw [show ((pre.length : Int) + 1).toNat = pre.length + 1 by omega, show ((pre.length : Int)).toNat = pre.length by omega, h]
        rw [show pre ++ c :: suf = (pre ++ [c]) ++ suf by simp, List.take_left' (by simp), List.drop_left' rfl]
      rw [e, cat_ok (by simp only [List.length_append, List.length_singleton]; omega)]
      simp [esc]
    rw [show loopO (fun s => law28_GlobNames_l1 a s.1 s.2) (esc pre, (pre.length : Int)) = loopO (fun s => law28_GlobNames_l1 a s.1 s.2) (esc (pre ++ [c]), ((pre ++ [c]).length : Int)) from loop_next (body := fun s => law28_GlobNames_l1 a s.1 s.2) hb]
    exact text_loop hl suf (pre ++ [c]) (by rw [h]; simp)
end Go.Proofs.Ytebbaokcgnjfiaa.F
