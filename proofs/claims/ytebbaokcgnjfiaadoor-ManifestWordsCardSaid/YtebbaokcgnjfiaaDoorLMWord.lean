/- Words of texts, in plain words: read. -/
import Derived.Test.YtebbaokcgnjfiaaDoorLMMan
set_option linter.unusedVariables false
set_option linter.unusedSimpArgs false
namespace Go.Proofs.YtebbaokcgnjfiaaDoor.F
open Go Go.RowKit Go.Proofs.YtebbaokcgnjfiaaDoor.K

/-- A digit's value. -/
def vl (c : UInt8) : Int := if 48 ≤ c.toNat ∧ c.toNat ≤ 57 then (c.toNat : Int) - 48 else if 97 ≤ c.toNat ∧ c.toNat ≤ 102 then (c.toNat : Int) - 87 else -1
theorem refvalue_eq (c : UInt8) : ref27_value c = vl c := by
  unfold ref27_value vl
  simp only [Bool.cond_eq_ite, decide_eq_true_eq]
  repeat' split
  all_goals omega
theorem digit_eq (c : UInt8) : manifest_digit c = vl c := by
  rw [← refvalue_eq]
  have h8 : 48 ≤ c.toNat → ((c - (48 : UInt8)).toNat : Int) = (c.toNat : Int) - 48 := fun h => by
    rw [UInt8.toNat_sub_of_le _ _ (by rw [UInt8.le_iff_toNat_le]; exact h)]; show ((c.toNat - 48 : Nat) : Int) = _; omega
  have h9 : 97 ≤ c.toNat → ((c - (97 : UInt8)).toNat : Int) = (c.toNat : Int) - 97 := fun h => by
    rw [UInt8.toNat_sub_of_le _ _ (by rw [UInt8.le_iff_toNat_le]; exact h)]; show ((c.toNat - 97 : Nat) : Int) = _; omega
  unfold manifest_digit ref27_value
  by_cases a : 48 ≤ c.toNat
  · by_cases d : 97 ≤ c.toNat
    · rw [h8 a, h9 d]
    · rw [h8 a, decide_eq_false (show ¬ (c.toNat : Int) ≥ 97 by omega)]; simp only [cond_false]
  · rw [decide_eq_false (show ¬ (c.toNat : Int) ≥ 48 by omega), decide_eq_false (show ¬ (c.toNat : Int) ≥ 97 by omega)]; rfl
theorem vl_ge (c : UInt8) : -1 ≤ vl c ∧ vl c ≤ 15 := by unfold vl; split <;> (try split) <;> omega
theorem vl_dc : ∀ k : Nat, k < 16 → vl (dc k) = (k : Int) := by decide
theorem dc_vl (c : UInt8) (h : 0 ≤ vl c) : dc (vl c).toNat = c := by
  rw [← UInt8.toNat_inj]
  unfold vl at h ⊢
  unfold dc
  have := c.toNat_lt
  split at h
  · rename_i k; rw [if_pos k, if_pos (by omega), UInt8.toNat_ofNat']; omega
  · rename_i k
    split at h
    · rename_i k2; rw [if_neg k, if_pos k2, if_neg (by omega), UInt8.toNat_ofNat']; omega
    · omega
/-- Two digits' byte. -/
def by2 (x y : UInt8) : UInt8 := UInt8.ofNat (16 * (vl x).toNat + (vl y).toNat)
/-- A word from a place on: its text, the place behind, the fault. -/
def wd : List UInt8 → Nat → List UInt8 → List UInt8 × Nat × Int
  | [], p, acc => (acc, p, 0)
  | c :: d, p, acc => if manifest_plain c then wd d (p + 1) (acc ++ [c]) else if c ≠ 37 then (acc, p, 0) else match d with
    | [] => ([], p + 1, 6)
    | [x] => if vl x < 0 then ([], p + 1, 6) else ([], p + 2, 6)
    | x :: y :: d' => if vl x < 0 then ([], p + 1, 6) else if vl y < 0 then ([], p + 2, 6) else if manifest_plain (by2 x y) then ([], p + 2, 6) else wd d' (p + 3) (acc ++ [by2 x y])
def byteS (b : List UInt8) (p : Nat) : UInt8 := b.getD p 0
def lone (b : List UInt8) (p : Nat) : Bool := byteS b p == 37 && (decide (p + 1 = b.length) || (byteS b (p + 1) == 32 || byteS b (p + 1) == 10))
def wordS (b : List UInt8) (p : Nat) : List UInt8 × Nat × Int :=
  if lone b p then ([], p + 1, 0) else
    let r := wd (b.drop p) p []
    if r.2.2 = 0 ∧ r.2.1 = p then ([], p, 6) else r
theorem wd_at : ∀ (n : Nat) (d : List UInt8) (p : Nat) (acc : List UInt8), d.length ≤ n → p ≤ (wd d p acc).2.1 ∧ (wd d p acc).2.1 ≤ p + d.length ∧ ((wd d p acc).2.2 = 0 ∨ (wd d p acc).2.2 = 6 ∧ (wd d p acc).1 = []) ∧ (wd d p acc).1.length ≤ acc.length + d.length := by
  intro n
  induction n with
  | zero =>
    intro d p acc h
    have : d = [] := by cases d with
      | nil => rfl
      | cons => simp at h
    subst this
    simp [wd]
  | succ n ih =>
    intro d p acc h
    match d, h with
    | [], _ => simp [wd]
    | c :: d, h =>
      simp only [List.length_cons] at h
      unfold wd
      split
      · have := ih d (p + 1) (acc ++ [c]) (by omega)
        simp only [List.length_append, List.length_cons, List.length_nil] at this ⊢
        refine ⟨by omega, by omega, this.2.2.1, by omega⟩
      · split
        · simp
        · match d, h with
          | [], _ => simp
          | [x], _ => dsimp only; split <;> simp
          | x :: y :: d', h =>
            dsimp only
            split
            · simp
            · split
              · simp
              · split
                · simp
                · have := ih d' (p + 3) (acc ++ [by2 x y]) (by simp only [List.length_cons] at h; omega)
                  simp only [List.length_append, List.length_cons, List.length_nil] at this ⊢
                  refine ⟨by omega, by omega, this.2.2.1, by omega⟩

theorem ofI8 (n : Nat) : UInt8.ofInt (n : Int) = UInt8.ofNat n := by
  rw [← UInt8.toNat_inj, UInt8.toNat_ofNat']
  have h := q8_wrap (n : Int)
  rw [wu8m] at h
  omega
/-! the document's -/
theorem byteAt_ok (b : List UInt8) (p : Nat) : ref27_byteAt b (p : Int) = some (byteS b p) := by
  unfold ref27_byteAt byteS
  by_cases h : p < b.length
  · rw [decide_eq_true (by omega), cond_true, idx_ok (List.getElem?_eq_getElem h), Option.bind_some, List.getD_eq_getElem?_getD, List.getElem?_eq_getElem h]; rfl
  · rw [decide_eq_false (by omega), cond_false, List.getD_eq_getElem?_getD, List.getElem?_eq_none (by omega)]; rfl
theorem byteS_lt {b : List UInt8} {p : Nat} (h : p < b.length) : byteS b p = b[p] := by unfold byteS; rw [List.getD_eq_getElem?_getD, List.getElem?_eq_getElem h]; rfl
theorem byteS_ge {b : List UInt8} {p : Nat} (h : b.length ≤ p) : byteS b p = 0 := by unfold byteS; rw [List.getD_eq_getElem?_getD, List.getElem?_eq_none h]; rfl
theorem vl0 : vl 0 = -1 := by decide
theorem refpair_ok (b : List UInt8) (p : Nat) (hp : p ≤ 1000000000) : ref27_pair b (p : Int) = some (if vl (byteS b p) < 0 then (0, (p : Int), 6) else if vl (byteS b (p + 1)) < 0 then (0, ((p + 1 : Nat) : Int), 6) else (by2 (byteS b p) (byteS b (p + 1)), ((p + 2 : Nat) : Int), 0)) := by
  unfold ref27_pair
  rw [byteAt_ok, Option.bind_some, refvalue_eq, wI (x := (p : Int) + 1) (by omega), show ((p : Int) + 1) = ((p + 1 : Nat) : Int) by omega, byteAt_ok, Option.bind_some, refvalue_eq, wI (x := (p : Int) + 2) (by omega)]
  by_cases h : vl (byteS b p) < 0
  · rw [decide_eq_true h, if_pos h]; rfl
  · rw [decide_eq_false h, if_neg h, cond_false]
    by_cases h2 : vl (byteS b (p + 1)) < 0
    · rw [decide_eq_true h2, if_pos h2]; rfl
    · rw [decide_eq_false h2, if_neg h2, cond_false]
      have a := vl_ge (byteS b p)
      have c := vl_ge (byteS b (p + 1))
      rw [wI (x := 16 * vl (byteS b p)) (by omega), wI (by omega)]
      have : UInt8.ofInt (16 * vl (byteS b p) + vl (byteS b (p + 1))) = by2 (byteS b p) (byteS b (p + 1)) := by
        unfold by2
        have e : 16 * vl (byteS b p) + vl (byteS b (p + 1)) = ((16 * (vl (byteS b p)).toNat + (vl (byteS b (p + 1))).toNat : Nat) : Int) := by omega
        rw [e]
        exact ofI8 _
      rw [this]
      rfl
theorem toNat37 (c : UInt8) : ((c.toNat : Int) == 37) = (c == 37) := by
  rw [Bool.eq_iff_iff, beq_iff_eq, beq_iff_eq, ← UInt8.toNat_inj]
  show _ ↔ c.toNat = 37
  omega
theorem toNat32 (c : UInt8) : ((c.toNat : Int) == 32) = (c == 32) := by
  rw [Bool.eq_iff_iff, beq_iff_eq, beq_iff_eq, ← UInt8.toNat_inj]
  show _ ↔ c.toNat = 32
  omega
theorem toNat10 (c : UInt8) : ((c.toNat : Int) == 10) = (c == 10) := by
  rw [Bool.eq_iff_iff, beq_iff_eq, beq_iff_eq, ← UInt8.toNat_inj]
  show _ ↔ c.toNat = 10
  omega
theorem toNatn37 (c : UInt8) : ((c.toNat : Int) != 37) = (c != 37) := by show (!_) = !_; rw [toNat37]
/-- the loop's end, of wd's answer -/
def endR (r : List UInt8 × Nat × Int) : Sum (Int × List UInt8) (List UInt8 × Int × Int) := if r.2.2 = 0 then .inl ((r.2.1 : Int), r.1) else .inr ([], (r.2.1 : Int), 6)
theorem plain37 : manifest_plain 37 = false := by decide
theorem refWord_loop (b : List UInt8) (hb : b.length ≤ 100000000) : ∀ n p (acc : List UInt8), b.length - p ≤ n → p ≤ b.length → acc.length ≤ p → loopO (fun s => ref27_Word_l1 b s.1 s.2) ((p : Int), acc) = some (endR (wd (b.drop p) p acc)) := by
  intro n
  induction n with
  | zero =>
    intro p acc h1 h2 h3
    rw [List.drop_eq_nil_of_le (by omega)]
    refine loop_end ?_
    show ref27_Word_l1 b (p : Int) acc = _
    unfold ref27_Word_l1
    rw [decide_eq_false (by omega)]
    rfl
  | succ n ih =>
    intro p acc h1 h2 h3
    by_cases hp : p < b.length
    · have hx := List.getElem?_eq_getElem hp
      obtain ⟨c, hc⟩ : ∃ c, c = b[p] := ⟨_, rfl⟩
      rw [← hc] at hx
      have hd : b.drop p = c :: b.drop (p + 1) := by rw [hc]; exact List.drop_eq_getElem_cons hp
      have e0 : ref27_Word_l1 b (p : Int) acc = (cond (ref27_plain c)
          (Option.bind (app acc [c]) fun b1 =>
          some (.inl ((IntKind.i64.wrap ((p : Int) + 1)), b1)))
          (cond ((c.toNat : Int) != 37)
          (some (.inr (.inl ((p : Int), acc))))
          (Option.bind (ref27_pair b (IntKind.i64.wrap ((p : Int) + 1))) fun pair =>
          cond (pair.2.2 != 0)
          (some (.inr (.inr (([] : List UInt8), pair.2.1, pair.2.2))))
          (cond (ref27_plain pair.1)
          (some (.inr (.inr (([] : List UInt8), (IntKind.i64.wrap ((p : Int) + 2)), 6))))
          (Option.bind (app acc [pair.1]) fun b2 =>
          some (.inl (pair.2.1, b2))))))) := by
        unfold ref27_Word_l1
        rw [decide_eq_true (by omega), cond_true, idx_ok hx, Option.bind_some]
      rw [hd]
      unfold wd
      rw [plain_eq] at e0
      by_cases hpl : manifest_plain c = true
      · rw [if_pos hpl]
        rw [hpl, cond_true, app_ok (by simp; omega), Option.bind_some, wI (by omega)] at e0
        exact (loop_next (s' := (((p + 1 : Nat) : Int), acc ++ [c])) e0).trans (ih (p + 1) _ (by omega) (by omega) (by simp; omega))
      · rw [if_neg hpl]
        have hpl : manifest_plain c = false := by simpa using hpl
        rw [hpl, cond_false, toNatn37] at e0
        by_cases h37 : c = 37
        · rw [if_neg (by simpa using h37)]
          rw [show (c != 37) = false from by simp [h37], cond_false, wI (x := (p : Int) + 1) (by omega), show ((p : Int) + 1) = ((p + 1 : Nat) : Int) by omega, refpair_ok _ _ (by omega), Option.bind_some, wI (x := (p : Int) + 2) (by omega)] at e0
          rcases hdd : b.drop (p + 1) with _ | ⟨x, _ | ⟨y, d'⟩⟩
          · have hl : b.length ≤ p + 1 := by have := congrArg List.length hdd; rw [List.length_drop] at this; simp at this; omega
            rw [byteS_ge hl, vl0, if_pos (by omega)] at e0
            exact loop_end e0
          · have hl : b.length = p + 2 := by have := congrArg List.length hdd; rw [List.length_drop] at this; simp at this; omega
            have ex : byteS b (p + 1) = x := by
              rw [byteS_lt (by omega)]
              have := List.drop_eq_getElem_cons (show p + 1 < b.length by omega)
              rw [hdd] at this
              exact (List.cons.inj this).1.symm
            rw [ex, byteS_ge (p := p + 1 + 1) (by omega), vl0] at e0
            dsimp only
            by_cases hv : vl x < 0
            · rw [if_pos hv] at e0 ⊢; exact loop_end e0
            · rw [if_neg hv, if_pos (by omega)] at e0; rw [if_neg hv]; exact loop_end e0
          · have hl : p + 3 ≤ b.length := by have := congrArg List.length hdd; rw [List.length_drop] at this; simp at this; omega
            have e1 := List.drop_eq_getElem_cons (show p + 1 < b.length by omega)
            have e2 := List.drop_eq_getElem_cons (show p + 1 + 1 < b.length by omega)
            rw [hdd] at e1
            have ex : byteS b (p + 1) = x := by rw [byteS_lt (by omega)]; exact (List.cons.inj e1).1.symm
            rw [← (List.cons.inj e1).2] at e2
            have ey : byteS b (p + 1 + 1) = y := by rw [byteS_lt (by omega)]; exact (List.cons.inj e2).1.symm
            have ed : d' = b.drop (p + 3) := (List.cons.inj e2).2
            rw [ex, ey] at e0
            dsimp only
            by_cases hv : vl x < 0
            · rw [if_pos hv] at e0 ⊢; exact loop_end e0
            · rw [if_neg hv] at e0 ⊢
              by_cases hw : vl y < 0
              · rw [if_pos hw] at e0 ⊢; exact loop_end e0
              · rw [if_neg hw] at e0 ⊢
                dsimp only at e0
                rw [show ((0 : Int) != 0) = false from rfl, cond_false, plain_eq] at e0
                by_cases hq : manifest_plain (by2 x y) = true
                · rw [hq, cond_true] at e0; rw [if_pos hq]; exact loop_end e0
                · rw [if_neg hq]
                  have hq : manifest_plain (by2 x y) = false := by simpa using hq
                  rw [hq, cond_false, app_ok (by simp; omega), Option.bind_some] at e0
                  rw [ed]
                  exact (loop_next (s' := (((p + 3 : Nat) : Int), acc ++ [by2 x y])) e0).trans (ih (p + 3) _ (by omega) (by omega) (by simp; omega))
        · rw [if_pos h37]
          rw [show (c != 37) = true from by simpa using h37, cond_true] at e0
          exact loop_end e0
    · rw [List.drop_eq_nil_of_le (by omega)]
      refine loop_end ?_
      show ref27_Word_l1 b (p : Int) acc = _
      unfold ref27_Word_l1
      rw [decide_eq_false (by omega)]
      rfl
def out3 (r : List UInt8 × Nat × Int) : List UInt8 × Int × Int := (r.1, (r.2.1 : Int), r.2.2)
theorem refWord_ok (b : List UInt8) (p : Nat) (hb : b.length ≤ 100000000) (hp : p ≤ b.length) : ref27_Word b (p : Int) = some (out3 (wordS b p)) := by
  have hL := refWord_loop b hb b.length p [] (by omega) hp (by simp)
  have hL2 : loopO (fun s => ref27_Word_l2 b s.1 s.2) ((p : Int), []) = some (endR (wd (b.drop p) p [])) := hL
  have ha := wd_at (b.drop p).length (b.drop p) p [] (Nat.le_refl _)
  have tail : (bnd (some (endR (wd (b.drop p) p []))) fun s => cond (s.1 == (p : Int)) (some (([] : List UInt8), s.1, (6 : Int))) (some (s.2, s.1, 0))) = some (out3 (if (wd (b.drop p) p []).2.2 = 0 ∧ (wd (b.drop p) p []).2.1 = p then ([], p, 6) else wd (b.drop p) p [])) := by
    obtain ⟨r, hr⟩ : ∃ r, r = wd (b.drop p) p [] := ⟨_, rfl⟩
    rw [← hr] at ha ⊢
    obtain ⟨t, q, e⟩ := r
    dsimp only at ha ⊢
    unfold endR out3
    rcases ha.2.2.1 with he | ⟨he, ht⟩
    · subst he
      dsimp only
      by_cases hq : q = p
      · subst hq; simp [bnd]
      · rw [if_pos rfl, bnd_inl, show (((q : Int)) == (p : Int)) = false from by simpa using by omega, if_neg (by omega)]; rfl
    · subst he; subst ht
      dsimp only
      rw [if_neg (by decide), if_neg (fun h => by have := h.1; revert this; decide)]
      rfl
  unfold ref27_Word wordS lone
  rw [byteAt_ok, Option.bind_some, toNat37, wI (x := (p : Int) + 1) (by omega), show ((p : Int) + 1) = ((p + 1 : Nat) : Int) by omega, byteAt_ok, Option.bind_some, Option.bind_some, toNat32, toNat10, hL, hL2]
  have el : (((p + 1 : Nat) : Int) == (b.length : Int)) = decide (p + 1 = b.length) := by rw [Bool.eq_iff_iff]; simp; omega
  rw [el]
  cases h1 : (byteS b p == 37)
  · simpa using tail
  · cases h2 : decide (p + 1 = b.length)
    · cases h3 : (byteS b (p + 1) == 32)
      · cases h4 : (byteS b (p + 1) == 10)
        · simpa using tail
        · rfl
      · rfl
    · rfl
end Go.Proofs.YtebbaokcgnjfiaaDoor.F
