/- Names of folders in plain words: rows counted. -/
import Derived.Test.YtebbaokcgnjfiaaLDDirent4
set_option linter.unusedVariables false
set_option linter.unusedSimpArgs false
namespace Go.Proofs.Ytebbaokcgnjfiaa.F
open Go Go.RowKit Go.Proofs.Ytebbaokcgnjfiaa.K

def nm (i : Nat) : List UInt8 := [UInt8.ofNat (97 + i / 26), UInt8.ofNat (97 + i % 26)]
theorem nm_valid : ∀ i, i < 600 → validB (nm i) = true := by decide +kernel
theorem nm_up : ∀ i, i < 600 → leB (nm (i + 1)) (nm i) = false := by decide +kernel
/-- m names from i on. -/
def mk (g : Nat → Int) : Nat → Nat → List TApiKid
  | _, 0 => []
  | i, m + 1 => ⟨nm i, g i⟩ :: mk g (i + 1) m
theorem mk_len (g : Nat → Int) : ∀ m i, (mk g i m).length = m
  | 0, _ => rfl
  | m + 1, i => by rw [mk, List.length_cons, mk_len g m]
theorem mk_snoc (g : Nat → Int) : ∀ m i, mk g i (m + 1) = mk g i m ++ [⟨nm (i + m), g (i + m)⟩]
  | 0, i => rfl
  | m + 1, i => by
    rw [mk, mk_snoc g m, mk, List.cons_append, show i + 1 + m = i + (m + 1) by omega]
theorem mk_drop (g : Nat → Int) : ∀ c m i, (mk g i m).drop c = mk g (i + c) (m - c)
  | 0, m, i => rfl
  | c + 1, 0, i => by simp [mk]
  | c + 1, m + 1, i => by
    rw [mk, List.drop_succ_cons, mk_drop g c m, show i + 1 + c = i + (c + 1) by omega, Nat.add_sub_add_right]
theorem mk_right (g : Nat → Int) : ∀ m i last, i + m ≤ 600 → leB (nm i) last = false → (∀ j, i ≤ j → j < i + m → 0 ≤ g j ∧ g j ≤ 16384) → rightF last (mk g i m) = true
  | 0, _, _, _, _, _ => rfl
  | m + 1, i, last, h1, h2, h3 => by
    have h4 := h3 i (Nat.le_refl _) (by omega)
    rw [mk, rightF, nm_valid i (by omega), decide_eq_true h4.1, decide_eq_true h4.2, h2]
    simp only [Bool.not_false, Bool.true_and]
    exact mk_right g m (i + 1) (nm i) (by omega) (nm_up i (by omega)) (fun j a b => h3 j (by omega) (by omega))
theorem mk_names (g : Nat → Int) : ∀ m i k, k ∈ mk g i m → k.Name.length = 2
  | 0, _, k, h => by cases h
  | m + 1, i, k, h => by
    rw [mk] at h
    rcases List.mem_cons.1 h with rfl | h
    · rfl
    · exact mk_names g m _ k h
theorem kids_len2 (x0 : Int) : ∀ (l : List TApiKid), (∀ k ∈ l, k.Name.length = 2) → (l.flatMap (kidB x0)).length = 5 * l.length
  | [], _ => rfl
  | k :: r, h => by
    have h1 := h k (.head _)
    have h2 := kids_len2 x0 r (fun k hk => h k (.tail _ hk))
    rw [List.flatMap_cons, List.length_append, h2, List.length_cons]
    unfold kidB
    simp only [List.length_append, enc_length, h1]
    omega
theorem rows_len2 : ∀ (f : Nat) (l : List TApiKid), l.length ≤ f → (∀ k ∈ l, k.Name.length = 2) → ((rowsF f l).flatMap rowB).length = 6 * (rowsF f l).length + 5 * l.length := by
  intro f
  induction f with
  | zero =>
    intro l h1 h2
    have : l = [] := List.length_eq_zero_iff.1 (by omega)
    subst this
    rfl
  | succ f ih =>
    intro l h1 h2
    cases l with
    | nil => rfl
    | cons x r =>
      obtain ⟨l, hl⟩ : ∃ l, l = x :: r := ⟨_, rfl⟩
      have hne : l ≠ [] := by rw [hl]; simp
      have hr : rowsF (f + 1) (x :: r) = l.take (runL l) :: rowsF f (l.drop (runL l)) := by rw [hl]; rfl
      rw [hr]
      rw [← hl] at h1 h2 ⊢
      have hp := runL_pos hne
      have hle := runL_le l
      have := ih (l.drop (runL l)) (by rw [List.length_drop]; omega) (fun k hk => h2 k (List.mem_of_mem_drop hk))
      have hk := kids_len2 ((l.take (runL l)).headD ⟨[], 0⟩).Ino (l.take (runL l)) (fun k hk => h2 k (List.mem_of_mem_take hk))
      rw [List.length_take, Nat.min_eq_left hle.2] at hk
      rw [List.length_drop] at this
      rw [List.flatMap_cons, List.length_append, this, List.length_cons]
      unfold rowB
      simp only [List.length_append, enc_length, hk]
      omega
theorem run_down (g : Nat → Int) (hg : ∀ i, g (i + 1) < g i) (i m : Nat) : runL (mk g i (m + 1)) = 1 := by
  show 1 + runF (g i) 255 (mk g (i + 1) m) = 1
  cases m with
  | zero => rfl
  | succ m =>
    rw [mk, runF_succ, if_neg (by have := hg i; show ¬ g (i + 1) ≥ g i; omega)]
theorem rows_down (g : Nat → Int) (hg : ∀ i, g (i + 1) < g i) : ∀ m f i, m ≤ f → (rowsF f (mk g i m)).length = m
  | 0, f, i, _ => by cases f <;> rfl
  | m + 1, f + 1, i, h => by
    have hr := run_down g hg i m
    have : rowsF (f + 1) (mk g i (m + 1)) = (mk g i (m + 1)).take (runL (mk g i (m + 1))) :: rowsF f ((mk g i (m + 1)).drop (runL (mk g i (m + 1)))) := rfl
    rw [this, List.length_cons, hr, mk_drop, Nat.add_sub_cancel, rows_down g hg m f (i + 1) (by omega)]
theorem runF_up (x0 : Int) (g : Nat → Int) : ∀ f m j, (∀ q, j ≤ q → g q ≥ x0) → runF x0 f (mk g j m) = min f m
  | 0, m, j, _ => by simp [runF]
  | f + 1, 0, j, _ => by simp [mk, runF]
  | f + 1, m + 1, j, h => by
    rw [mk, runF_succ, if_pos (h j (Nat.le_refl _)), runF_up x0 g f m (j + 1) (fun q hq => h q (by omega))]
    omega
theorem rows_up (g : Nat → Int) (hg : ∀ i j, i ≤ j → g j ≥ g i) : ∀ f m i, m ≤ f → (rowsF f (mk g i m)).length = (m + 255) / 256 := by
  intro f
  induction f with
  | zero =>
    intro m i h
    have : m = 0 := by omega
    subst this
    rfl
  | succ f ih =>
    intro m i h
    cases m with
    | zero => rfl
    | succ m =>
      have hr : runL (mk g i (m + 1)) = 1 + min 255 m := by
        show 1 + runF (g i) 255 (mk g (i + 1) m) = _
        rw [runF_up (g i) g 255 m (i + 1) (fun q hq => hg i q (by omega))]
      have : rowsF (f + 1) (mk g i (m + 1)) = (mk g i (m + 1)).take (runL (mk g i (m + 1))) :: rowsF f ((mk g i (m + 1)).drop (runL (mk g i (m + 1)))) := rfl
      rw [this, List.length_cons, hr, mk_drop, ih _ _ (by omega)]
      omega
def gD (n : Nat) (i : Nat) : Int := (n : Int) - (i : Int)
def gU (i : Nat) : Int := (i : Int)
theorem ofInt_nm {i : Nat} (h : i < 600) : [UInt8.ofInt (IntKind.i64.wrap (97 + (IntKind.i64.wrap (Int.tdiv (i : Int) 26)))), UInt8.ofInt (IntKind.i64.wrap (97 + (Int.tmod (i : Int) 26)))] = nm i := by
  have e1 : Int.tdiv (i : Int) 26 = ((i / 26 : Nat) : Int) := by rw [Int.tdiv_eq_ediv_of_nonneg (by omega)]; rfl
  have e2 : Int.tmod (i : Int) 26 = ((i % 26 : Nat) : Int) := by rw [Int.tmod_eq_emod_of_nonneg (by omega)]; rfl
  have e3 : ∀ n : Nat, UInt8.ofInt (n : Int) = UInt8.ofNat n := fun n => by
    have := enc_one n
    injection this
  rw [e1, e2, wI (x := ((i / 26 : Nat) : Int)) (by omega), wI (x := 97 + ((i / 26 : Nat) : Int)) (by omega), wI (x := 97 + ((i % 26 : Nat) : Int)) (by omega), show (97 : Int) + ((i / 26 : Nat) : Int) = ((97 + i / 26 : Nat) : Int) by omega, show (97 : Int) + ((i % 26 : Nat) : Int) = ((97 + i % 26 : Nat) : Int) by omega, e3, e3]
  rfl
theorem make_loop (n : Nat) (hn : n ≤ 600) (down : Bool) : ∀ k i, n - i = k → i ≤ n → loopO (fun s => law16_DirentRows_l1 (n : Int) s.1 s.2.1 s.2.2) (down, mk (if down then gD n else gU) 0 i, (i : Int)) = some (down, mk (if down then gD n else gU) 0 n) := by
  intro k
  induction k with
  | zero =>
    intro i h1 h2
    have : i = n := by omega
    subst this
    refine loop_end ?_
    show law16_DirentRows_l1 (i : Int) down _ (i : Int) = _
    unfold law16_DirentRows_l1
    rw [decide_eq_false (by omega)]
    rfl
  | succ k ih =>
    intro i h1 h2
    have := ih (i + 1) (by omega) (by omega)
    rw [show ((i + 1 : Nat) : Int) = (i : Int) + 1 by omega] at this
    refine (loop_next ?_).trans this
    show law16_DirentRows_l1 (n : Int) down (mk (if down then gD n else gU) 0 i) (i : Int) = _
    unfold law16_DirentRows_l1
    rw [decide_eq_true (by omega), ofInt_nm (by omega), wI (x := (i : Int) + 1) (by omega), wI (x := (n : Int) - (i : Int)) (by omega)]
    cases down with
    | true =>
      simp only [cond_true, if_true]
      rw [app_ok (by rw [mk_len, List.length_singleton]; omega), mk_snoc, Nat.zero_add]
      rfl
    | false =>
      simp only [cond_true, cond_false, Bool.false_eq_true, if_false]
      rw [app_ok (by rw [mk_len, List.length_singleton]; omega), mk_snoc, Nat.zero_add]
      rfl
theorem DirentRows_pure (n : Int) (hn : -9223372036854775808 ≤ n ∧ n ≤ 9223372036854775807) (down : Bool) : law16_DirentRows n down = some true := by
  unfold law16_DirentRows
  rw [live16]
  by_cases h1 : n < 0
  · rw [decide_eq_true h1]; rfl
  rw [decide_eq_false h1, cond_false]
  by_cases h2 : n > 600
  · rw [decide_eq_true h2]; rfl
  rw [decide_eq_false h2, cond_false]
  obtain ⟨n, rfl⟩ : ∃ k : Nat, n = (k : Int) := ⟨n.toNat, by omega⟩
  have hm := make_loop n (by omega) down n 0 (by omega) (by omega)
  rw [show ((down, mk (if down then gD n else gU) 0 0, ((0 : Nat) : Int)) : Bool × List TApiKid × Int) = (down, [], 0) from rfl] at hm
  rw [hm]
  simp only [Option.bind_some, lt_eq]
  obtain ⟨l, hl⟩ : ∃ l, l = mk (if down then gD n else gU) 0 n := ⟨_, rfl⟩
  have hlen : l.length = n := by rw [hl, mk_len]
  have hr : rightF [] l = true := by
    rw [hl]
    refine mk_right _ n 0 [] (by omega) (leB_nil (nm_valid 0 (by omega))) ?_
    intro j a b
    cases down with
    | true => simp only [if_true, gD]; omega
    | false => simp only [Bool.false_eq_true, if_false, gU]; omega
  have hbl : (encB l).length = 6 * (if down then n else (n + 255) / 256) + 5 * n := by
    have h5 := rows_len2 l.length l (Nat.le_refl _) (by rw [hl]; exact mk_names _ _ _)
    show ((rowsF l.length l).flatMap rowB).length = _
    rw [h5, hlen]
    congr 2
    rw [hl]
    cases down with
    | true => exact rows_down (gD n) (fun i => by simp only [gD]; omega) n n 0 (Nat.le_refl _)
    | false => exact rows_up gU (fun i j h => by simp only [gU]; omega) n n 0 (Nat.le_refl _)
  rw [← hl, Encode_ok hr (by omega)]
  simp only [Option.bind_some]
  rw [Decode_back hr (by omega)]
  simp only [Option.bind_some, law16_num]
  rw [show (IntKind.i64.wrap ((0 : Int) + 0) == 0) = true from by decide, cond_true, Same_eq, hbl]
  have hrow : (cond down (n : Int) (IntKind.i64.wrap (Int.tdiv ((n : Int) + 255) 256))) = ((if down then n else (n + 255) / 256 : Nat) : Int) := by
    cases down with
    | true => rfl
    | false =>
      rw [cond_false, Int.tdiv_eq_ediv_of_nonneg (by omega), wI (by omega)]
      simp only [Bool.false_eq_true, if_false]
      omega
  have hb : (if down then n else (n + 255) / 256) ≤ 600 := by
    cases down with
    | true => simp only [if_true]; omega
    | false => simp only [Bool.false_eq_true, if_false]; omega
  rw [hrow]
  generalize (if down then n else (n + 255) / 256) = rows at hb ⊢
  rw [wI (x := 6 * (rows : Int)) (by omega), wI (by omega), show (((6 * rows + 5 * n : Nat) : Int) == 6 * (rows : Int) + 5 * (n : Int)) = true from beq_iff_eq.2 (by omega)]
  rfl
end Go.Proofs.Ytebbaokcgnjfiaa.F
