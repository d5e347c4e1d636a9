/- Inodes in plain words: what is right. -/
import Derived.Test.YtebbaokcgnjfiaaLAField
set_option linter.unusedVariables false
set_option linter.unusedSimpArgs false
namespace Go.Proofs.Ytebbaokcgnjfiaa.F
open Go Go.RowKit Go.Proofs.Ytebbaokcgnjfiaa.K

theorem between_eq (x a b : Int) : inode_between x a b = decide (a ≤ x ∧ x ≤ b) := by
  unfold inode_between
  rw [Bool.cond_eq_ite]
  by_cases h1 : a ≤ x <;> by_cases h2 : x ≤ b <;> simp [h1, h2]
theorem in_eq (x a b : Int) : ref15_in x a b = decide (a ≤ x ∧ x ≤ b) := by
  unfold ref15_in
  rw [Bool.cond_eq_ite]
  by_cases h1 : a ≤ x <;> by_cases h2 : x ≤ b <;> simp [h1, h2]
def okW (l : List Int) : Bool := l.all fun x => decide (0 ≤ x ∧ x ≤ 4294967295)
theorem words_loop (l : List Int) : slices_ContainsFunc l = some (!okW l) := by
  unfold slices_ContainsFunc slices_IndexFunc1
  rw [loop_find l _ (fun t x => if inode_file_1 x then some (t : Int) else none) ?_ ?_ l.length 0 (by omega) (by omega)]
  · rw [List.drop_zero]
    have key : ∀ (l : List Int) (t : Nat), (okW l = true ∧ (l.zipIdx t).findSome? (fun y => if inode_file_1 y.1 then some (y.2 : Int) else none) = none) ∨ (okW l = false ∧ ∃ v : Nat, (l.zipIdx t).findSome? (fun y => if inode_file_1 y.1 then some (y.2 : Int) else none) = some (v : Int)) := by
      intro l
      induction l with
      | nil => exact fun t => .inl ⟨rfl, rfl⟩
      | cons x l ih =>
        intro t
        rw [List.zipIdx_cons, List.findSome?_cons]
        have hx : inode_file_1 x = !decide (0 ≤ x ∧ x ≤ 4294967295) := by unfold inode_file_1; rw [between_eq]
        have ho : okW (x :: l) = (decide (0 ≤ x ∧ x ≤ 4294967295) && okW l) := rfl
        simp only [hx, ho]
        cases hd : decide (0 ≤ x ∧ x ≤ 4294967295)
        · exact .inr ⟨rfl, t, by simp⟩
        · simpa using ih (t + 1)
    rcases key l 0 with ⟨h1, h2⟩ | ⟨h1, v, h2⟩
    · rw [h2, h1]; rfl
    · rw [h2, h1]
      show some (decide ((v : Int) ≥ 0)) = some true
      rw [decide_eq_true (by omega)]
  · intro t x hx
    have hlt := (List.getElem?_eq_some_iff.1 hx).1
    unfold slices_IndexFunc1_l1
    rw [decide_eq_true (by omega), hx]
    simp only [cond_true, Option.bind_some]
    cases inode_file_1 x <;> rfl
  · unfold slices_IndexFunc1_l1
    rw [decide_eq_false (by omega)]
    rfl
theorem ref_words (n : TApiInode) : loopO (fun s => ref15_Check_l1 n s) 0 = some (if okW n.Words then .inl () else .inr (.inr 1)) := by
  rw [loop_any n.Words _ (fun x => if !decide (0 ≤ x ∧ x ≤ 4294967295) then some (.inr 1) else none) ?_ ?_]
  · rw [find_if (fun x => !decide (0 ≤ x ∧ x ≤ 4294967295))]
    have : (n.Words.any fun x => !decide (0 ≤ x ∧ x ≤ 4294967295)) = !okW n.Words := by unfold okW; rw [List.all_eq_not_any_not, Bool.not_not]
    rw [this]
    cases okW n.Words <;> rfl
  · intro t x hx
    have hlt := (List.getElem?_eq_some_iff.1 hx).1
    unfold ref15_Check_l1
    rw [decide_eq_true (by omega), hx]
    simp only [cond_true, Option.bind_some, in_eq]
    cases decide (0 ≤ x ∧ x ≤ 4294967295) <;> rfl
  · unfold ref15_Check_l1
    rw [decide_eq_false (by omega)]
    rfl
theorem ref_target (n : TApiInode) : loopO (fun s => ref15_Check_l2 n s) 0 = some (if n.Target.contains 0 then .inr 1 else .inl ()) := by
  rw [loop_any n.Target _ (fun c => if c == 0 then some 1 else none) ?_ ?_]
  · rw [find_if (fun c => c == 0)]
    have : (n.Target.any fun c => c == 0) = n.Target.contains 0 := by
      rw [Bool.eq_iff_iff, List.any_eq_true, List.contains_iff_mem]
      constructor
      · rintro ⟨x, h1, h2⟩
        rw [beq_iff_eq] at h2
        rwa [← h2]
      · exact fun h => ⟨0, h, by simp⟩
    rw [this]
    cases n.Target.contains 0 <;> rfl
  · intro t x hx
    have hlt := (List.getElem?_eq_some_iff.1 hx).1
    unfold ref15_Check_l2
    rw [decide_eq_true (by omega), idx_nat, hx]
    have : (((x.toNat : Int)) == 0) = (x == 0) := by
      rw [Bool.eq_iff_iff, beq_iff_eq, beq_iff_eq, ← UInt8.toNat_inj]
      simp
    simp only [cond_true, Option.bind_some, this]
    cases x == 0 <;> rfl
  · unfold ref15_Check_l2
    rw [decide_eq_false (by omega)]
    rfl
/-- What is right of an inode whose kind is one. -/
def Good (n : TApiInode) : Prop :=
  ((0 ≤ n.Mode ∧ n.Mode ≤ 4095) ∧ (0 ≤ n.Time ∧ n.Time ≤ 4294967295) ∧ (0 ≤ n.Uid ∧ n.Uid ≤ 65535) ∧ (0 ≤ n.Gid ∧ n.Gid ≤ 65535) ∧ (1 ≤ n.Links ∧ n.Links ≤ 4294967295) ∧ (-1 ≤ n.Attrs ∧ n.Attrs ≤ 16777216)) ∧
  (n.Kind = 1 → (0 ≤ n.Size ∧ n.Size ≤ 1099511627775) ∧ (0 ≤ n.Start ∧ n.Start ≤ 8388608) ∧ n.Words.length ≤ 65536 ∧ (-1 ≤ n.Frag ∧ n.Frag ≤ 65535) ∧ (0 ≤ n.Off ∧ n.Off ≤ 1048575) ∧ (0 ≤ n.Tail ∧ n.Tail ≤ 1048575) ∧ (n.Frag = -1 → n.Off = 0 ∧ n.Tail = 0) ∧ (n.Frag ≠ -1 → n.Tail ≠ 0) ∧ okW n.Words = true) ∧
  (n.Kind ≠ 1 → n.Size = 0 ∧ n.Start = 0 ∧ n.Words.length = 0 ∧ n.Frag = 0 ∧ n.Off = 0 ∧ n.Tail = 0) ∧
  (n.Kind = 2 → (0 ≤ n.Dir ∧ n.Dir ≤ 16777216) ∧ (0 ≤ n.Bytes ∧ n.Bytes ≤ 16777216) ∧ (0 ≤ n.Parent ∧ n.Parent ≤ 16384)) ∧
  (n.Kind ≠ 2 → n.Dir = 0 ∧ n.Bytes = 0 ∧ n.Parent = 0) ∧
  (n.Kind = 3 → (1 ≤ n.Target.length ∧ n.Target.length ≤ 4096) ∧ n.Target.contains 0 = false) ∧
  (n.Kind ≠ 3 → n.Target = []) ∧
  (n.Kind > 3 → 0 ≤ n.Dev ∧ n.Dev ≤ 4294967295) ∧
  (n.Kind < 4 → n.Dev = 0)
open Classical in
noncomputable def chkI (n : TApiInode) : Int := if 1 ≤ n.Kind ∧ n.Kind ≤ 5 then (if Good n then 0 else 1) else 8
def fI (p : Bool) : Option Int := some (cond p 0 1)
def gI (p : Bool) : Option (Sum Unit Int) := some (cond p (.inl ()) (.inr 1))
theorem f0 : (some 0 : Option Int) = fI true := rfl
theorem f1 : (some 1 : Option Int) = fI false := rfl
theorem fc (a p q : Bool) : cond a (fI p) (fI q) = fI (cond a p q) := by cases a <;> rfl
theorem g0 : (some (.inl ()) : Option (Sum Unit Int)) = gI true := rfl
theorem g1 : (some (.inr 1) : Option (Sum Unit Int)) = gI false := rfl
theorem gc (a p q : Bool) : cond a (gI p) (gI q) = gI (cond a p q) := by cases a <;> rfl
theorem gb (p q : Bool) : bnd (gI p) (fun _ => fI q) = fI (p && q) := by cases p <;> rfl
theorem gi (p : Bool) : (some (if p = true then .inl () else .inr 1) : Option (Sum Unit Int)) = gI p := by cases p <;> rfl
theorem gj (p : Bool) : (some (if p = true then .inr 1 else .inl ()) : Option (Sum Unit Int)) = gI (!p) := by cases p <;> rfl
theorem gh (p : Bool) : (bnd (some (if p = true then .inl () else .inr (.inr 1)) : Option (Sum Unit (Sum Unit Int))) fun _ => gI true) = gI p := by cases p <;> rfl
theorem fI_eq {p : Bool} {n : TApiInode} (hk : 1 ≤ n.Kind ∧ n.Kind ≤ 5) (h : p = true ↔ Good n) : fI p = some (chkI n) := by
  rw [chkI, if_pos hk]
  by_cases hg : Good n
  · rw [if_pos hg, h.2 hg]; rfl
  · have : p = false := by cases p with
      | false => rfl
      | true => exact absurd (h.1 rfl) hg
    rw [if_neg hg, this]; rfl
theorem ref15_Check_eq (n : TApiInode) : ref15_Check n = some (chkI n) := by
  unfold ref15_Check
  rw [ref_words, ref_target, in_eq]
  by_cases hk : 1 ≤ n.Kind ∧ n.Kind ≤ 5
  · rw [decide_eq_true hk, cond_true]
    simp only [lt_eq, gh, gj, f0, f1, g0, g1, gc, fc, gb]
    refine fI_eq hk ?_
    obtain ⟨k, hk1⟩ : ∃ k, n.Kind = k := ⟨_, rfl⟩
    rw [hk1] at hk
    have : k = 1 ∨ k = 2 ∨ k = 3 ∨ k = 4 ∨ k = 5 := by omega
    rcases this with rfl | rfl | rfl | rfl | rfl <;> simp [hk1, in_eq, Good, Bool.cond_eq_ite] <;> grind
  · rw [decide_eq_false hk, cond_false, chkI, if_neg hk]
theorem inode_Check_eq (n : TApiInode) : inode_Check n = some (chkI n) := by
  unfold inode_Check inode_file
  rw [words_loop, between_eq]
  by_cases hk : 1 ≤ n.Kind ∧ n.Kind ≤ 5
  · rw [decide_eq_true hk, cond_true]
    have hz : (decide (Lib.indexByte n.Target 0 < 0)) = !n.Target.contains 0 := ixb_none n.Target 0
    obtain ⟨k, hk1⟩ : ∃ k, n.Kind = k := ⟨_, rfl⟩
    rw [hk1] at hk
    have hsp : ∀ o p q : Bool, (cond o (some p) (some false) : Option Bool) = some (o && p) := fun o p q => by cases o <;> rfl
    have hcond : ∀ (a p q : Bool), (cond a (some p) (some q) : Option Bool) = some (cond a p q) := fun a p q => by cases a <;> rfl
    have : k = 1 ∨ k = 2 ∨ k = 3 ∨ k = 4 ∨ k = 5 := by omega
    simp only [lt_eq, Option.bind_some, hcond, f0, f1, fc]
    refine fI_eq (hk1 ▸ hk) ?_
    rcases this with rfl | rfl | rfl | rfl | rfl <;> simp [hk1, between_eq, Good, Bool.cond_eq_ite, inode_dir, inode_link, inode_device, inode_rest, lt_, strings_IndexByte, internal_stringslite_IndexByte, hz] <;> grind
  · rw [decide_eq_false hk, cond_false, chkI, if_neg hk]
end Go.Proofs.Ytebbaokcgnjfiaa.F
