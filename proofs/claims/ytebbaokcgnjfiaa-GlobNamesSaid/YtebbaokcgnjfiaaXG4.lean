import Derived.Test.YtebbaokcgnjfiaaXG3
set_option linter.unusedVariables false
set_option linter.unusedSimpArgs false
namespace Go.Proofs.Ytebbaokcgnjfiaa.F
open Go Go.RowKit Go.Proofs.Ytebbaokcgnjfiaa.K Go.Proofs.Ytebbaokcgnjfiaa.K.E
section
variable {g : Bool} {ps : List TGlobPiece} {s : List UInt8} {i k : Nat} {b f : Int} {c d : UInt8}
theorem dT {p : Prop} [Decidable p] (h : p) : decide p = true := decide_eq_true h
theorem dF {p : Prop} [Decidable p] (h : ¬ p) : decide p = false := decide_eq_false h
theorem m_eq (hp : ps[i]? = some (pcB c)) (hs : s[k]? = some c) (hl : s.length ≤ 100000) (hl2 : ps.length ≤ 100000) : glob_part_match_l1 ⟨g, ps⟩ s i k b f = some (.inl ((i : Int) + 1, (k : Int) + 1, b, f)) := by
  have hi := (List.getElem?_eq_some_iff.1 hp).1
  have hk := (List.getElem?_eq_some_iff.1 hs).1
  unfold glob_part_match_l1
  simp only [dT (show (i : Int) < (ps.length : Int) by omega), dT (show (k : Int) < (s.length : Int) by omega), cond_true, idx_ok hp, idx_ok hs, Option.bind_some, has_eq, bi]
  rw [show ((pcB c).f_kind == 0) = false from rfl, beq_self_eq_true]
  simp only [cond_false, cond_true]
  rw [wI ⟨by omega, by omega⟩, wI ⟨by omega, by omega⟩]
theorem m_ne (hp : ps[i]? = some (pcB c)) (hs : (∃ d, s[k]? = some d ∧ d ≠ c) ∨ k = s.length) : glob_part_match_l1 ⟨g, ps⟩ s i k (-1) f = some (.inr (.inl ())) := by
  have hi := (List.getElem?_eq_some_iff.1 hp).1
  have hne : ((i : Int) == (ps.length : Int)) = false := by rw [beq_eq_false_iff_ne]; omega
  unfold glob_part_match_l1
  rcases hs with ⟨d, hs, hd⟩ | rfl
  · have hk := (List.getElem?_eq_some_iff.1 hs).1
    have hcd : (c == d) = false := by rw [beq_eq_false_iff_ne]; exact fun e => hd e.symm
    simp only [dT (show (i : Int) < (ps.length : Int) by omega), dT (show (k : Int) < (s.length : Int) by omega), cond_true, idx_ok hp, idx_ok hs, Option.bind_some, has_eq, bi, hcd]
    rw [show ((pcB c).f_kind == 0) = false from rfl]
    simp only [cond_false, hne, bi]
    rfl
  · simp only [dT (show (i : Int) < (ps.length : Int) by omega), dF (show ¬ ((s.length : Int) < (s.length : Int)) by omega), cond_true, cond_false, idx_ok hp, Option.bind_some, bi]
    rw [show ((pcB c).f_kind == 0) = false from rfl]
    simp only [cond_false, hne, bi]
    rfl
theorem m_star (hp : ps[i]? = some starP) (hl2 : ps.length ≤ 100000) : glob_part_match_l1 ⟨g, ps⟩ s i k b f = some (.inl ((i : Int) + 1, (k : Int), (i : Int) + 1, (k : Int))) := by
  have hi := (List.getElem?_eq_some_iff.1 hp).1
  unfold glob_part_match_l1
  simp only [dT (show (i : Int) < (ps.length : Int) by omega), cond_true, idx_ok hp, Option.bind_some, bi]
  rw [show (starP.f_kind == 0) = true from rfl]
  simp only [cond_true]
  rw [wI ⟨by omega, by omega⟩]
theorem m_end : glob_part_match_l1 ⟨g, ps⟩ s (ps.length : Int) (s.length : Int) b f = some (.inr (.inr true)) := by
  unfold glob_part_match_l1
  simp only [dF (show ¬ ((ps.length : Int) < (ps.length : Int)) by omega), cond_false, bi, beq_self_eq_true, cond_true]
theorem m_end_no (hk : k < s.length) : glob_part_match_l1 ⟨g, ps⟩ s (ps.length : Int) (k : Int) (-1) f = some (.inr (.inl ())) := by
  have hne : ((k : Int) == (s.length : Int)) = false := by rw [beq_eq_false_iff_ne]; omega
  unfold glob_part_match_l1
  simp only [dF (show ¬ ((ps.length : Int) < (ps.length : Int)) by omega), cond_false, bi, beq_self_eq_true, cond_true, hne]
  rfl
theorem m_back (hk : k < s.length) (hl : s.length ≤ 100000) : glob_part_match_l1 ⟨g, ps⟩ s (ps.length : Int) (k : Int) (ps.length : Int) (k : Int) = some (.inl ((ps.length : Int), (k : Int) + 1, (ps.length : Int), (k : Int) + 1)) := by
  have hne : ((k : Int) == (s.length : Int)) = false := by rw [beq_eq_false_iff_ne]; omega
  unfold glob_part_match_l1
  simp only [dF (show ¬ ((ps.length : Int) < (ps.length : Int)) by omega), cond_false, bi, beq_self_eq_true, cond_true, hne, dT (show (ps.length : Int) ≥ 0 by omega), dT (show (k : Int) < (s.length : Int) by omega)]
  rw [wI ⟨by omega, by omega⟩]
end
noncomputable abbrev mloop (x : TGlobPart) (s : List UInt8) (t : Int × Int × Int × Int) : Option (Sum Unit Bool) := loopO (fun t => glob_part_match_l1 x s t.1 t.2.1 t.2.2.1 t.2.2.2) t
theorem ml_next {x : TGlobPart} {s : List UInt8} {i k b f : Int} {t : Int × Int × Int × Int} (h : glob_part_match_l1 x s i k b f = some (.inl t)) : mloop x s (i, k, b, f) = mloop x s t := loop_next h
theorem ml_end {x : TGlobPart} {s : List UInt8} {i k b f : Int} {r : Sum Unit Bool} (h : glob_part_match_l1 x s i k b f = some (.inr r)) : mloop x s (i, k, b, f) = some r := loop_end h
/-- Bytes alone. -/
theorem ml_bytes {g : Bool} {ps : List TGlobPiece} {s : List UInt8} (hl : s.length ≤ 100000) (hl2 : ps.length ≤ 100000) {f : Int} : ∀ (a pre : List UInt8) (t q : List UInt8), ps = (pre ++ a).map pcB → s = q ++ t → q.length = pre.length →
    mloop ⟨g, ps⟩ s ((pre.length : Int), (q.length : Int), -1, f) = some (if t = a then .inr true else .inl ())
  | [], pre, t, q, hp, hs, hq => by
    have hpl : ps.length = pre.length := by rw [hp]; simp
    rw [← hpl]
    cases t with
    | nil =>
      have : s.length = q.length := by rw [hs]; simp
      rw [← this, ml_end m_end]; rfl
    | cons d t =>
      have : q.length < s.length := by rw [hs]; simp
      rw [ml_end (m_end_no this)]; rfl
  | c :: a, pre, t, q, hp, hs, hq => by
    have h0 : ps[pre.length]? = some (pcB c) := by rw [hp]; simp
    cases t with
    | nil =>
      have : q.length = s.length := by rw [hs]; simp
      rw [ml_end (m_ne h0 (.inr this))]; rfl
    | cons d t =>
      have h1 : s[q.length]? = some d := by rw [hs]; simp
      by_cases hd : d = c
      · subst hd
        rw [ml_next (m_eq h0 h1 hl hl2)]
        have := ml_bytes hl hl2 (g := g) (f := f) a (pre ++ [d]) t (q ++ [d]) (by rw [hp]; simp) (by rw [hs]; simp) (by simp [hq])
        rw [show ((pre ++ [d]).length : Int) = (pre.length : Int) + 1 by simp, show ((q ++ [d]).length : Int) = (q.length : Int) + 1 by simp] at this
        rw [this]
        simp
      · rw [ml_end (m_ne h0 (.inl ⟨d, h1, hd⟩))]
        rw [if_neg (by intro e; exact hd (List.cons.inj e).1)]
theorem match_bytes {a s : List UInt8} (hl : s.length ≤ 100000) (hl2 : a.length ≤ 100000) : glob_part_match ⟨false, a.map pcB⟩ s = some (decide (s = a)) := by
  unfold glob_part_match
  have := ml_bytes (g := false) (ps := a.map pcB) hl (by simpa using hl2) (f := 0) a [] s [] rfl rfl rfl
  show bnd (mloop ⟨false, a.map pcB⟩ s (0, 0, -1, 0)) _ = _
  rw [show mloop ⟨false, a.map pcB⟩ s (0, 0, -1, 0) = _ from this]
  by_cases h : s = a
  · rw [if_pos h, dT h]; rfl
  · rw [if_neg h, dF h]; rfl
/-- Behind a star that is the last. -/
theorem ml_tail {g : Bool} {ps : List TGlobPiece} {s : List UInt8} (hl : s.length ≤ 100000) : ∀ (n k : Nat), s.length - k = n → k ≤ s.length → mloop ⟨g, ps⟩ s ((ps.length : Int), (k : Int), (ps.length : Int), (k : Int)) = some (.inr true)
  | 0, k, h, hk => by
    have : k = s.length := by omega
    subst this
    exact ml_end m_end
  | n + 1, k, h, hk => by
    rw [ml_next (m_back (by omega) hl)]
    have := ml_tail hl (g := g) (ps := ps) n (k + 1) (by omega) (by omega)
    rw [show ((k + 1 : Nat) : Int) = (k : Int) + 1 by omega] at this
    exact this
theorem ml_pre {g : Bool} {ps : List TGlobPiece} {s : List UInt8} (hl : s.length ≤ 100000) (hl2 : ps.length ≤ 100000) {f : Int} : ∀ (a pre : List UInt8) (t q : List UInt8), ps = (pre ++ a).map pcB ++ [starP] → s = q ++ t → q.length = pre.length →
    mloop ⟨g, ps⟩ s ((pre.length : Int), (q.length : Int), -1, f) = some (if a <+: t then .inr true else .inl ())
  | [], pre, t, q, hp, hs, hq => by
    have h0 : ps[pre.length]? = some starP := by rw [hp]; simp
    have hpl : ps.length = pre.length + 1 := by rw [hp]; simp
    rw [ml_next (m_star h0 hl2), show (pre.length : Int) + 1 = (ps.length : Int) by omega]
    have hqs : q.length ≤ s.length := by rw [hs]; simp
    rw [ml_tail hl (s.length - q.length) q.length rfl hqs, if_pos (List.nil_prefix ..)]
  | c :: a, pre, t, q, hp, hs, hq => by
    have h0 : ps[pre.length]? = some (pcB c) := by rw [hp]; simp
    cases t with
    | nil =>
      have : q.length = s.length := by rw [hs]; simp
      rw [ml_end (m_ne h0 (.inr this)), if_neg (by simp)]
    | cons d t =>
      have h1 : s[q.length]? = some d := by rw [hs]; simp
      by_cases hd : d = c
      · subst hd
        rw [ml_next (m_eq h0 h1 hl hl2)]
        have := ml_pre hl hl2 (g := g) (f := f) a (pre ++ [d]) t (q ++ [d]) (by rw [hp]; simp) (by rw [hs]; simp) (by simp [hq])
        rw [show ((pre ++ [d]).length : Int) = (pre.length : Int) + 1 by simp, show ((q ++ [d]).length : Int) = (q.length : Int) + 1 by simp] at this
        rw [this]
        simp [List.cons_prefix_cons]
      · rw [ml_end (m_ne h0 (.inl ⟨d, h1, hd⟩)), if_neg (by rw [List.cons_prefix_cons]; exact fun e => hd e.1.symm)]
theorem match_pre {a s : List UInt8} (hl : s.length ≤ 100000) (hl2 : a.length ≤ 10000) : glob_part_match ⟨false, a.map pcB ++ [starP]⟩ s = some (decide (a <+: s)) := by
  unfold glob_part_match
  have := ml_pre (g := false) (ps := a.map pcB ++ [starP]) hl (by simp only [List.length_append, List.length_map, List.length_singleton]; omega) (f := 0) a [] s [] rfl rfl rfl
  show bnd (mloop ⟨false, a.map pcB ++ [starP]⟩ s (0, 0, -1, 0)) _ = _
  rw [show mloop ⟨false, a.map pcB ++ [starP]⟩ s (0, 0, -1, 0) = _ from this]
  by_cases h : a <+: s
  · rw [if_pos h, dT h]; rfl
  · rw [if_neg h, dF h]; rfl
theorem match_any {ps : List TGlobPiece} (s : List UInt8) : glob_part_match ⟨true, ps⟩ s = some true := rfl
end Go.Proofs.Ytebbaokcgnjfiaa.F
