/- Names of folders in plain words: what is right; their bytes. -/
import Derived.Test.YtebbaokcgnjfiaaLDField0
set_option linter.unusedVariables false
set_option linter.unusedSimpArgs false
namespace Go.Proofs.Ytebbaokcgnjfiaa.F
open Go Go.RowKit Go.Proofs.Ytebbaokcgnjfiaa.K

def validB (s : List UInt8) : Bool := !s.isEmpty && (decide (s.length ≤ 255) && (s != [46] && (s != [46, 46] && (!s.contains 47 && !s.contains 0))))
theorem valid_eq (s : List UInt8) : name_Valid s = validB s := by
  have h0 : (decide (strings_IndexByte s 0 < 0)) = !s.contains 0 := ixb_none s 0
  have h47 : (decide (strings_IndexByte s 47 < 0)) = !s.contains 47 := ixb_none s 47
  have he : (s != []) = !s.isEmpty := by cases s <;> rfl
  have hl : (decide ((s.length : Int) ≤ 255)) = decide (s.length ≤ 255) := by rw [Bool.eq_iff_iff, decide_eq_true_eq, decide_eq_true_eq]; omega
  unfold name_Valid validB
  rw [h0, h47, he, hl]
  cases s.isEmpty <;> cases decide (s.length ≤ 255) <;> cases (s != [46]) <;> cases (s != [46, 46]) <;> cases s.contains 47 <;> cases s.contains 0 <;> rfl
theorem refvalid_loop (s : List UInt8) : loopO (fun t => ref10_Valid_l1 s t) 0 = some (if s.any (fun c => c == 47 || c == 0) then .inr false else .inl ()) := by
  rw [loop_any s _ (fun c => if (c == 47 || c == 0) then some false else none) ?_ ?_]
  · rw [find_if (fun c => c == 47 || c == 0)]
    cases s.any (fun c => c == 47 || c == 0) <;> rfl
  · intro t x hx
    have hlt := (List.getElem?_eq_some_iff.1 hx).1
    unfold ref10_Valid_l1
    rw [decide_eq_true (by omega), idx_ok hx]
    have e1 : (((x.toNat : Int)) == 47) = (x == 47) := by
      rw [Bool.eq_iff_iff, beq_iff_eq, beq_iff_eq, ← UInt8.toNat_inj]
      show _ ↔ x.toNat = 47
      omega
    have e2 : (((x.toNat : Int)) == 0) = (x == 0) := by
      rw [Bool.eq_iff_iff, beq_iff_eq, beq_iff_eq, ← UInt8.toNat_inj]
      show _ ↔ x.toNat = 0
      omega
    simp only [cond_true, Option.bind_some, e1, e2]
    cases x == 47 <;> cases x == 0 <;> rfl
  · unfold ref10_Valid_l1
    rw [decide_eq_false (by omega)]
    rfl
theorem refvalid_eq (s : List UInt8) : ref10_Valid s = some (validB s) := by
  unfold ref10_Valid validB
  rw [refvalid_loop]
  have h1 : (decide ((s.length : Int) < 1)) = s.isEmpty := by cases s with
    | nil => rfl
    | cons x s => rw [decide_eq_false (by simp only [List.length_cons]; omega)]; rfl
  have h2 : (decide ((s.length : Int) > 255)) = !decide (s.length ≤ 255) := by rw [Bool.eq_iff_iff]; simp; omega
  have h3 : (s.any fun c => c == 47 || c == 0) = (s.contains 47 || s.contains 0) := by
    rw [Bool.eq_iff_iff]
    simp only [List.any_eq_true, Bool.or_eq_true, beq_iff_eq, List.contains_iff_mem]
    constructor
    · rintro ⟨x, h, rfl | rfl⟩
      · exact .inl h
      · exact .inr h
    · rintro (h | h)
      · exact ⟨47, h, .inl rfl⟩
      · exact ⟨0, h, .inr rfl⟩
  rw [h1, h2, h3]
  have e1 : (s != [46]) = !(s == [46]) := rfl
  have e2 : (s != [46, 46]) = !(s == [46, 46]) := rfl
  rw [e1, e2]
  cases s.isEmpty <;> cases decide (s.length ≤ 255) <;> cases (s == [46]) <;> cases (s == [46, 46]) <;> cases s.contains 47 <;> cases s.contains 0 <;> rfl
/-- Is the list right, the name ahead being known? -/
def rightF (last : List UInt8) : List TApiKid → Bool
  | [] => true
  | k :: r => validB k.Name && (decide (0 ≤ k.Ino) && (decide (k.Ino ≤ 16384) && (!leB k.Name last && rightF k.Name r)))
theorem check_loop (l : List TApiKid) : ∀ k t last, l.length - t = k → t ≤ l.length → loopO (fun s => dirent_Check_l1 l s.1 s.2) (last, t) = some (if rightF last (l.drop t) then .inl () else .inr 1) := by
  intro k
  induction k with
  | zero =>
    intro t last h1 h2
    have : t = l.length := by omega
    subst this
    rw [List.drop_length]
    refine loop_end ?_
    show dirent_Check_l1 l last l.length = _
    unfold dirent_Check_l1
    rw [decide_eq_false (by omega)]
    rfl
  | succ k ih =>
    intro t last h1 h2
    have hlt : t < l.length := by omega
    have hx := List.getElem?_eq_getElem hlt
    rw [List.drop_eq_getElem_cons hlt, rightF]
    have hb : dirent_Check_l1 l last t = if validB l[t].Name && (decide (0 ≤ l[t].Ino) && (decide (l[t].Ino ≤ 16384) && !leB l[t].Name last)) then some (.inl (l[t].Name, t + 1)) else some (.inr (.inr 1)) := by
      unfold dirent_Check_l1
      rw [decide_eq_true (by omega), hx]
      simp only [cond_true, Option.bind_some, valid_eq]
      have e1 : decide (l[t].Ino < 0) = !decide (0 ≤ l[t].Ino) := by rw [Bool.eq_iff_iff]; simp
      have e2 : decide (l[t].Ino > 16384) = !decide (l[t].Ino ≤ 16384) := by rw [Bool.eq_iff_iff]; simp
      rw [e1, e2]
      cases validB l[t].Name <;> cases decide (0 ≤ l[t].Ino) <;> cases decide (l[t].Ino ≤ 16384) <;> cases leB l[t].Name last <;> rfl
    cases hg : validB l[t].Name && (decide (0 ≤ l[t].Ino) && (decide (l[t].Ino ≤ 16384) && !leB l[t].Name last)) with
    | true =>
      rw [hg] at hb
      rw [loop_next (s' := (l[t].Name, t + 1)) hb, ih (t + 1) _ (by omega) (by omega)]
      simp only [Bool.and_eq_true, Bool.not_eq_true'] at hg
      obtain ⟨g1, g2, g3, g4⟩ := hg
      rw [g1, g2, g3, g4]
      simp
    | false =>
      rw [hg] at hb
      rw [loop_end (r := .inr 1) hb]
      have : (validB l[t].Name && (decide (0 ≤ l[t].Ino) && (decide (l[t].Ino ≤ 16384) && (!leB l[t].Name last && rightF l[t].Name (l.drop (t + 1)))))) = false := by
        revert hg
        cases validB l[t].Name <;> cases decide (0 ≤ l[t].Ino) <;> cases decide (l[t].Ino ≤ 16384) <;> cases leB l[t].Name last <;> simp
      rw [this]
      rfl
theorem check_eq (l : List TApiKid) : dirent_Check l = some (if rightF [] l then 0 else 1) := by
  unfold dirent_Check
  rw [check_loop l l.length 0 [] (by omega) (by omega), List.drop_zero]
  cases rightF [] l <;> rfl
theorem leB_nil {s : List UInt8} (h : validB s = true) : leB s [] = false := by
  cases s with
  | nil => cases h
  | cons x s => rfl
theorem right_loop (l : List TApiKid) : ∀ k t, l.length - t = k → t ≤ l.length → loopO (fun s => ref16_Right_l1 l s) t = some (if rightF (if t = 0 then [] else (l.getD (t - 1) ⟨[], 0⟩).Name) (l.drop t) then .inl () else .inr false) := by
  intro k
  induction k with
  | zero =>
    intro t h1 h2
    have : t = l.length := by omega
    subst this
    rw [List.drop_length]
    refine loop_end ?_
    unfold ref16_Right_l1
    rw [decide_eq_false (by omega)]
    rfl
  | succ k ih =>
    intro t h1 h2
    have hlt : t < l.length := by omega
    have hx := List.getElem?_eq_getElem hlt
    rw [List.drop_eq_getElem_cons hlt, rightF]
    obtain ⟨last, hlast⟩ : ∃ last, last = (if t = 0 then [] else (l.getD (t - 1) ⟨[], 0⟩).Name) := ⟨_, rfl⟩
    rw [← hlast]
    have hb : ref16_Right_l1 l t = if validB l[t].Name && (decide (0 ≤ l[t].Ino) && (decide (l[t].Ino ≤ 16384) && !leB l[t].Name last)) then some (.inl (t + 1)) else some (.inr (.inr false)) := by
      unfold ref16_Right_l1
      rw [decide_eq_true (by omega), hx]
      simp only [cond_true, Option.bind_some, refvalid_eq]
      have e1 : decide (l[t].Ino < 0) = !decide (0 ≤ l[t].Ino) := by rw [Bool.eq_iff_iff]; simp
      have e2 : decide (l[t].Ino > 16384) = !decide (l[t].Ino ≤ 16384) := by rw [Bool.eq_iff_iff]; simp
      rw [e1, e2]
      by_cases h0 : t = 0
      · rw [if_pos h0] at hlast
        rw [decide_eq_false (show ¬ (t : Int) > 0 by omega), hlast]
        cases hv : validB l[t].Name with
        | false => rfl
        | true =>
          rw [leB_nil hv]
          cases decide (0 ≤ l[t].Ino) <;> cases decide (l[t].Ino ≤ 16384) <;> rfl
      · rw [if_neg h0, List.getD_eq_getElem?_getD, List.getElem?_eq_getElem (show t - 1 < l.length by omega), Option.getD_some] at hlast
        rw [decide_eq_true (show (t : Int) > 0 by omega), show (t : Int) - 1 = ((t - 1 : Nat) : Int) by omega, idx_ok (List.getElem?_eq_getElem (show t - 1 < l.length by omega)), hlast]
        simp only [cond_true, Option.bind_some]
        cases validB l[t].Name <;> cases decide (0 ≤ l[t].Ino) <;> cases decide (l[t].Ino ≤ 16384) <;> cases leB l[t].Name (l[t - 1]).Name <;> rfl
    have hnx : (if t + 1 = 0 then [] else (l.getD (t + 1 - 1) ⟨[], 0⟩).Name) = l[t].Name := by
      rw [if_neg (by omega), List.getD_eq_getElem?_getD, Nat.add_sub_cancel, hx]
      rfl
    cases hg : validB l[t].Name && (decide (0 ≤ l[t].Ino) && (decide (l[t].Ino ≤ 16384) && !leB l[t].Name last)) with
    | true =>
      rw [hg] at hb
      rw [loop_next (s' := t + 1) hb, ih (t + 1) (by omega) (by omega), hnx]
      simp only [Bool.and_eq_true, Bool.not_eq_true'] at hg
      obtain ⟨g1, g2, g3, g4⟩ := hg
      rw [g1, g2, g3, g4]
      simp
    | false =>
      rw [hg] at hb
      rw [loop_end (r := .inr false) hb]
      have : (validB l[t].Name && (decide (0 ≤ l[t].Ino) && (decide (l[t].Ino ≤ 16384) && (!leB l[t].Name last && rightF l[t].Name (l.drop (t + 1)))))) = false := by
        revert hg
        cases validB l[t].Name <;> cases decide (0 ≤ l[t].Ino) <;> cases decide (l[t].Ino ≤ 16384) <;> cases leB l[t].Name last <;> simp
      rw [this]
      rfl
theorem right_eq (l : List TApiKid) : ref16_Right l = some (rightF [] l) := by
  unfold ref16_Right
  rw [right_loop l l.length 0 (by omega) (by omega), List.drop_zero, if_pos rfl]
  cases rightF [] l <;> rfl

theorem loop_none {σ ρ : Type} {body : σ → Option (Sum σ ρ)} {s : σ} (h : body s = none) : loopO body s = none := by rw [loopO_eq, h]
/-! ### Rows -/
def runF (x0 : Int) : Nat → List TApiKid → Nat
  | 0, _ => 0
  | _ + 1, [] => 0
  | f + 1, k :: r => if k.Ino ≥ x0 then 1 + runF x0 f r else 0
theorem runF_le (x0 : Int) : ∀ f l, runF x0 f l ≤ f ∧ runF x0 f l ≤ l.length
  | 0, _ => ⟨Nat.le_refl _, Nat.zero_le _⟩
  | _ + 1, [] => ⟨Nat.zero_le _, Nat.le_refl _⟩
  | f + 1, k :: r => by
    have := runF_le x0 f r
    unfold runF
    split
    · rw [List.length_cons]; omega
    · exact ⟨Nat.zero_le _, Nat.zero_le _⟩
theorem runF_all (x0 : Int) : ∀ (f : Nat) (l : List TApiKid) (k : TApiKid), k ∈ l.take (runF x0 f l) → k.Ino ≥ x0
  | 0, _, k, h => by simp [runF] at h
  | _ + 1, [], k, h => by simp at h
  | f + 1, x :: r, k, h => by
    unfold runF at h
    split at h
    · rename_i hx
      rw [Nat.add_comm, List.take_succ_cons, List.mem_cons] at h
      rcases h with rfl | h
      · exact hx
      · exact runF_all x0 f r k h
    · simp at h
def runL : List TApiKid → Nat
  | [] => 0
  | x :: r => 1 + runF x.Ino 255 r
theorem runL_le (l : List TApiKid) : runL l ≤ 256 ∧ runL l ≤ l.length := by
  cases l with
  | nil => exact ⟨by decide, Nat.le_refl _⟩
  | cons x r =>
    have := runF_le x.Ino 255 r
    show 1 + runF x.Ino 255 r ≤ 256 ∧ 1 + runF x.Ino 255 r ≤ r.length + 1
    omega
theorem runL_pos {l : List TApiKid} (h : l ≠ []) : 1 ≤ runL l := by
  cases l with
  | nil => exact absurd rfl h
  | cons x r => exact Nat.le_add_right 1 _
theorem run_loop (x : TApiKid) (r : List TApiKid) : ∀ f n, 256 - n = f → 1 ≤ n → n ≤ 256 → n ≤ (x :: r).length → loopO (fun s => dirent_rows_1_l2 (x :: r) s) n = some (n + runF x.Ino f ((x :: r).drop n)) := by
  intro f
  induction f with
  | zero =>
    intro n h1 h2 h3 h4
    refine loop_end ?_
    unfold dirent_rows_1_l2
    rw [decide_eq_false (show ¬ (n : Int) < 256 by omega)]
    cases decide ((n : Int) < ((x :: r).length : Int)) <;> rfl
  | succ f ih =>
    intro n h1 h2 h3 h4
    by_cases hlt : n < (x :: r).length
    · have hx := List.getElem?_eq_getElem hlt
      have h0 : (x :: r)[0]? = some x := rfl
      rw [List.drop_eq_getElem_cons hlt, runF]
      have hb : dirent_rows_1_l2 (x :: r) n = cond (decide ((x :: r)[n].Ino ≥ x.Ino)) (some (.inl (n + 1))) (some (.inr n)) := by
        unfold dirent_rows_1_l2
        rw [decide_eq_true (by omega), decide_eq_true (show (n : Int) < 256 by omega), hx, h0]
        rfl
      by_cases hg : (x :: r)[n].Ino ≥ x.Ino
      · rw [decide_eq_true hg] at hb
        rw [loop_next (s' := n + 1) hb, ih (n + 1) (by omega) (by omega) (by omega) (by omega), if_pos hg]
        congr 1
        omega
      · rw [decide_eq_false hg] at hb
        rw [loop_end (r := n) hb, if_neg hg]
        rfl
    · have hb : dirent_rows_1_l2 (x :: r) n = some (.inr n) := by
        unfold dirent_rows_1_l2
        rw [decide_eq_false (by omega)]
        rfl
      rw [loop_end (r := n) hb, List.drop_of_length_le (by omega)]
      cases f <;> rfl
theorem run_eq {l : List TApiKid} (h : l ≠ []) : loopO (fun s => dirent_rows_1_l2 l s) 1 = some (runL l) := by
  cases l with
  | nil => exact absurd rfl h
  | cons x r =>
    rw [run_loop x r 255 1 (by omega) (by omega) (by omega) (by simp)]
    rfl
/-- The rows, one by one. -/
def rowsF : Nat → List TApiKid → List (List TApiKid)
  | 0, _ => []
  | _ + 1, [] => []
  | f + 1, x :: r => (x :: r).take (runL (x :: r)) :: rowsF f ((x :: r).drop (runL (x :: r)))
theorem rows_fold {σ : Type} (g : σ → List TApiKid → Option σ) : ∀ f (l : List TApiKid) (s : σ), l.length ≤ f → l.length ≤ 1000000000 →
    loopO (fun t => dirent_rows_1_l1 (ρs := Empty) (fun s x => (g s x).map Sum.inl) t.1 t.2) (l, s) = ((rowsF f l).foldlM g s).map fun s' => .inl ([], s') := by
  intro f
  induction f with
  | zero =>
    intro l s h1 h2
    have : l = [] := List.length_eq_zero_iff.1 (by omega)
    subst this
    refine (loop_end (r := .inl ([], s)) ?_).trans rfl
    rfl
  | succ f ih =>
    intro l s h1 h2
    cases l with
    | nil =>
      refine (loop_end (r := .inl ([], s)) ?_).trans rfl
      rfl
    | cons x r =>
      obtain ⟨l, hl⟩ : ∃ l, l = x :: r := ⟨_, rfl⟩
      have hne : l ≠ [] := by rw [hl]; simp
      have hr : rowsF (f + 1) (x :: r) = l.take (runL l) :: rowsF f (l.drop (runL l)) := by rw [hl]; rfl
      rw [hr, ← hl, List.foldlM_cons]
      rw [← hl] at h1 h2
      have hp := runL_pos hne
      have hle := runL_le l
      have hb : dirent_rows_1_l1 (ρs := Empty) (fun s x => (g s x).map Sum.inl) l s = (g s (l.take (runL l))).map fun s' => .inl (l.drop (runL l), s') := by
        unfold dirent_rows_1_l1
        have hpos : 0 < l.length := List.length_pos_iff.2 hne
        rw [decide_eq_true (by omega), run_eq hne]
        simp only [cond_true, Option.bind_some]
        rw [slc_ok (l := l) (a := 0) (by omega), slc_ok (l := l) (a := (runL l : Int)) (by omega)]
        simp only [Option.bind_some, Int.toNat_natCast, List.take_length, Int.toNat_zero, List.drop_zero]
        cases g s (l.take (runL l)) <;> rfl
      cases hg : g s (l.take (runL l)) with
      | none =>
        rw [hg] at hb
        rw [loop_none (s := (l, s)) hb]
        rfl
      | some s' =>
        rw [hg] at hb
        rw [loop_next (s' := (l.drop (runL l), s')) hb, ih _ s' (by rw [List.length_drop]; omega) (by rw [List.length_drop]; omega)]
        rfl
theorem rows_eq {σ : Type} (g : σ → List TApiKid → Option σ) (l : List TApiKid) (s : σ) (h : l.length ≤ 1000000000) : Option.map outS (dirent_rows_1 (fun s x => (g s x).map Sum.inl) s (dirent_rows l)) = (rowsF l.length l).foldlM g s := by
  unfold dirent_rows_1 dirent_rows
  rw [rows_fold g l.length l s (Nat.le_refl _) h]
  cases (rowsF l.length l).foldlM g s <;> rfl
end Go.Proofs.Ytebbaokcgnjfiaa.F
