/- Names of folders in plain words: encoding; finding. -/
import Derived.Test.YtebbaokcgnjfiaaLDDirent
import Derived.Test.YtebbaokcgnjfiaaLDStore
set_option linter.unusedVariables false
set_option linter.unusedSimpArgs false
namespace Go.Proofs.Ytebbaokcgnjfiaa.F
open Go Go.RowKit Go.Proofs.Ytebbaokcgnjfiaa.K

structure OkK (k : TApiKid) : Prop where
  len : k.Name.length ≤ 255
  lo : 0 ≤ k.Ino
  hi : k.Ino ≤ 16384
theorem valid_len {s : List UInt8} (h : validB s = true) : s.length ≤ 255 := by
  unfold validB at h
  simp only [Bool.and_eq_true, decide_eq_true_eq] at h
  exact h.2.1
theorem right_ok : ∀ (l : List TApiKid) (last : List UInt8), rightF last l = true → ∀ k ∈ l, OkK k
  | [], _, _, k, hk => by cases hk
  | x :: r, last, h, k, hk => by
    unfold rightF at h
    simp only [Bool.and_eq_true, decide_eq_true_eq] at h
    obtain ⟨h1, h2, h3, _, h5⟩ := h
    cases hk with
    | head => exact ⟨valid_len h1, h2, h3⟩
    | tail _ hk => exact right_ok r _ h5 k hk
def kidB (x0 : Int) (k : TApiKid) : List UInt8 := enc 2 (k.Ino - x0).toNat ++ (enc 1 k.Name.length ++ k.Name)
def rowB (row : List TApiKid) : List UInt8 := enc 2 row.length ++ (enc 4 (row.headD ⟨[], 0⟩).Ino.toNat ++ row.flatMap (kidB (row.headD ⟨[], 0⟩).Ino))
def encB (l : List TApiKid) : List UInt8 := (rowsF l.length l).flatMap rowB
theorem kidB_len {x0 : Int} {k : TApiKid} (h : OkK k) : (kidB x0 k).length ≤ 258 := by
  have := h.len
  unfold kidB
  simp only [List.length_append, enc_length]
  omega
theorem kids_len (x0 : Int) : ∀ (l : List TApiKid), (∀ k ∈ l, OkK k) → (l.flatMap (kidB x0)).length ≤ 258 * l.length
  | [], _ => Nat.le_refl _
  | k :: r, h => by
    have h1 := kidB_len (x0 := x0) (h k (.head _))
    have h2 := kids_len x0 r (fun k hk => h k (.tail _ hk))
    rw [List.flatMap_cons, List.length_append, List.length_cons]
    omega
theorem enc1_ok {out : List UInt8} {x : Int} {w : Nat} (h : w = 1 ∨ w = 2 ∨ w = 4 ∨ w = 8) (hx : 0 ≤ x) (hx2 : x < ((256 ^ w : Nat) : Int)) (hx3 : x < 18446744073709551616) (hb : out.length ≤ 100000000000) : dirent_Encode_1 x (w : Int) out = some (out ++ enc w x.toNat) := by
  unfold dirent_Encode_1
  have e := ofInt_nat (x := x) ⟨hx, hx3⟩
  rw [Put_ok h (by rw [e]; omega) hb, e]
  rfl
theorem kids_loop (row : List TApiKid) (x : TApiKid) (hx : OkK x) (s : List UInt8) (hs : s.length + 300 * row.length ≤ 10000000000) (h : ∀ k ∈ row, OkK k ∧ k.Ino ≥ x.Ino) :
    loopO (fun s => dirent_Encode_l1 row x s.1 s.2) (s, 0) = some (row.foldl (fun s k => s ++ kidB x.Ino k) s) := by
  have key := loop_fold row (fun s => dirent_Encode_l1 row x s.1 s.2) (fun s k => s ++ kidB x.Ino k) (fun s => s) (fun s rest => s.length + 300 * rest.length ≤ 10000000000 ∧ ∀ k ∈ rest, OkK k ∧ k.Ino ≥ x.Ino) ?_ ?_ row.length 0 s (by omega) (by omega) (by rw [List.drop_zero]; exact ⟨hs, h⟩)
  · rw [List.drop_zero] at key
    exact key
  · intro s t k hk hI
    have hlt := (List.getElem?_eq_some_iff.1 hk).1
    have hgk : row[t] = k := by have := List.getElem?_eq_getElem hlt; rw [hk] at this; exact (Option.some.inj this).symm
    rw [List.drop_eq_getElem_cons hlt, hgk] at hI
    obtain ⟨h1, h2⟩ := hI
    rw [List.length_cons] at h1
    obtain ⟨o1, o2⟩ := h2 k (.head _)
    have hkl := kidB_len (x0 := x.Ino) o1
    have hlo := o1.lo
    have hhi := o1.hi
    have hnl := o1.len
    have hx0 := hx.lo
    have hb : dirent_Encode_l1 row x s t = some (.inl (s ++ kidB x.Ino k, t + 1)) := by
      unfold dirent_Encode_l1
      rw [decide_eq_true (by omega), hk]
      simp only [cond_true, Option.bind_some]
      rw [wI (by omega), show (2 : Int) = ((2 : Nat) : Int) from rfl, enc1_ok (w := 2) (by decide) (by omega) (by omega) (by omega) (by omega)]
      simp only [Option.bind_some]
      rw [show dirent_Encode_1 (k.Name.length : Int) 1 _ = _ from enc1_ok (w := 1) (by decide) (by omega) (by omega) (by omega) (by simp only [List.length_append, enc_length]; omega)]
      simp only [Option.bind_some, Int.toNat_natCast]
      rw [app_ok (by simp only [List.length_append, enc_length]; omega)]
      unfold kidB
      simp
    refine ⟨hb, ?_, fun k' hk' => h2 k' (.tail _ hk')⟩
    rw [List.length_append]
    omega
  · intro s hI
    show dirent_Encode_l1 row x s row.length = _
    unfold dirent_Encode_l1
    rw [decide_eq_false (by omega)]
    rfl
theorem foldl_app {α : Type} (g : α → List UInt8) : ∀ (l : List α) (s : List UInt8), l.foldl (fun s k => s ++ g k) s = s ++ l.flatMap g
  | [], s => by simp
  | x :: r, s => by rw [List.foldl_cons, foldl_app g r, List.flatMap_cons, List.append_assoc]
theorem row_ok (row : List TApiKid) (s : List UInt8) (hne : row ≠ []) (hlen : row.length ≤ 256) (hs : s.length + 300 * row.length ≤ 9000000000) (h : ∀ k ∈ row, OkK k ∧ k.Ino ≥ (row.headD ⟨[], 0⟩).Ino) : dirent_Encode_r1 s row = some (s ++ rowB row) := by
  cases row with
  | nil => exact absurd rfl hne
  | cons x r =>
    obtain ⟨row, hrow⟩ : ∃ row, row = x :: r := ⟨_, rfl⟩
    have hx := (h x (.head _)).1
    have h1 := hx.lo
    have h2 := hx.hi
    have h0 : row[0]? = some x := by rw [hrow]; rfl
    have hh : (row.headD ⟨[], 0⟩) = x := by rw [hrow]; rfl
    rw [← hrow] at hlen hs h ⊢
    rw [hh] at h
    unfold dirent_Encode_r1
    rw [show dirent_Encode_1 (row.length : Int) 2 s = _ from enc1_ok (w := 2) (by decide) (by omega) (by omega) (by omega) (by omega), h0]
    simp only [Option.bind_some, Int.toNat_natCast]
    rw [show dirent_Encode_1 x.Ino 4 _ = _ from enc1_ok (w := 4) (by decide) (by omega) (by omega) (by omega) (by simp only [List.length_append, enc_length]; omega)]
    simp only [Option.bind_some]
    rw [kids_loop row x hx _ (by simp only [List.length_append, enc_length]; omega) h, foldl_app]
    unfold rowB
    rw [hh]
    simp
theorem rowB_len {row : List TApiKid} (h : ∀ k ∈ row, OkK k) : (rowB row).length ≤ 6 + 258 * row.length := by
  have := kids_len (row.headD ⟨[], 0⟩).Ino row h
  unfold rowB
  simp only [List.length_append, enc_length]
  omega
theorem run_row {l : List TApiKid} (hne : l ≠ []) (h : ∀ k ∈ l, OkK k) : l.take (runL l) ≠ [] ∧ (l.take (runL l)).length = runL l ∧ ∀ k ∈ l.take (runL l), OkK k ∧ k.Ino ≥ ((l.take (runL l)).headD ⟨[], 0⟩).Ino := by
  have hp := runL_pos hne
  have hle := runL_le l
  have hlen : (l.take (runL l)).length = runL l := by rw [List.length_take]; omega
  refine ⟨fun e => by rw [e] at hlen; simp at hlen; omega, hlen, ?_⟩
  cases l with
  | nil => exact absurd rfl hne
  | cons x r =>
    intro k hk
    refine ⟨h k (List.mem_of_mem_take hk), ?_⟩
    have hr : runL (x :: r) = runF x.Ino 255 r + 1 := Nat.add_comm _ _
    rw [hr, List.take_succ_cons] at hk ⊢
    show k.Ino ≥ x.Ino
    rcases List.mem_cons.1 hk with rfl | hk
    · exact Int.le_refl _
    · exact runF_all _ _ _ _ hk
theorem enc_fold : ∀ (f : Nat) (l : List TApiKid) (s : List UInt8), l.length ≤ f → (∀ k ∈ l, OkK k) → s.length + 300 * l.length ≤ 9000000000 → (rowsF f l).foldlM dirent_Encode_r1 s = some (s ++ (rowsF f l).flatMap rowB) := by
  intro f
  induction f with
  | zero => intro l s h1 h2 h3; simp [rowsF]
  | succ f ih =>
    intro l s h1 h2 h3
    cases l with
    | nil => simp [rowsF]
    | cons x r =>
      obtain ⟨l, hl⟩ : ∃ l, l = x :: r := ⟨_, rfl⟩
      have hne : l ≠ [] := by rw [hl]; simp
      have hr : rowsF (f + 1) (x :: r) = l.take (runL l) :: rowsF f (l.drop (runL l)) := by rw [hl]; rfl
      rw [hr]
      rw [← hl] at h1 h2 h3
      have hp := runL_pos hne
      have hle := runL_le l
      obtain ⟨g1, g2, g3⟩ := run_row hne h2
      have hbl := rowB_len (fun k hk => (g3 k hk).1)
      rw [List.foldlM_cons, row_ok _ _ g1 (by omega) (by omega) g3]
      show (rowsF f (l.drop (runL l))).foldlM dirent_Encode_r1 (s ++ rowB (l.take (runL l))) = _
      rw [ih (l.drop (runL l)) _ (by rw [List.length_drop]; omega) (fun k hk => h2 k (List.mem_of_mem_drop hk)) (by rw [List.length_drop, List.length_append]; omega), List.flatMap_cons, List.append_assoc]
theorem Encode_ok {l : List TApiKid} (h : rightF [] l = true) (hl : l.length ≤ 1000000) : dirent_Encode l = some (encB l, 0) := by
  unfold dirent_Encode
  rw [check_eq, h]
  simp only [Option.bind_some, if_true, bne_self_eq_false, cond_false]
  rw [rows_eq dirent_Encode_r1 l [] (by omega), enc_fold l.length l [] (Nat.le_refl _) (right_ok l _ h) (by simp only [List.length_nil]; omega)]
  rfl
theorem Encode_no {l : List TApiKid} (h : rightF [] l = false) : dirent_Encode l = some ([], 1) := by
  unfold dirent_Encode
  rw [check_eq, h]
  rfl
theorem live16 : law16_live = some true := by
  unfold law16_live
  rw [Encode_ok (by decide) (by decide)]
  simp only [Option.bind_some]
  rw [show law16_num 0 = 0 from rfl, show ((0 : Int) == 0) = true from rfl, cond_true]
  rw [show encB [({ Name := ([97] : List UInt8), Ino := 5 } : TApiKid), ({ Name := ([98] : List UInt8), Ino := 7 } : TApiKid), ({ Name := ([99] : List UInt8), Ino := 2 } : TApiKid)] = ([2, 0, 5, 0, 0, 0, 0, 0, 1, 97, 2, 0, 1, 98, 1, 0, 2, 0, 0, 0, 0, 0, 1, 99] : List UInt8) from by decide]
  rw [beq_self_eq_true]

/-! ### Finding -/
def fi (p : TApiKid → Bool) : List TApiKid → Option (Nat × TApiKid)
  | [] => none
  | k :: r => if p k then some (0, k) else (fi p r).map fun y => (y.1 + 1, y.2)
theorem fi_get (p : TApiKid → Bool) : ∀ (l : List TApiKid) (j : Nat) (x : TApiKid), fi p l = some (j, x) → l[j]? = some x
  | [], j, x, h => by cases h
  | k :: r, j, x, h => by
    unfold fi at h
    split at h
    · injection h with h; injection h with h1 h2; subst h1; subst h2; rfl
    · obtain ⟨⟨j', x'⟩, h1, h2⟩ := Option.map_eq_some_iff.1 h
      injection h2 with h2 h3
      subst h2; subst h3
      exact fi_get p r j' x' h1
theorem find_loop (l : List TApiKid) (v : List UInt8) : ∀ k t, l.length - t = k → t ≤ l.length → loopO (fun s => slices_IndexFunc0_l1 l v s) t = some (match fi (fun k => k.Name == v) (l.drop t) with | some y => .inr ((t + y.1 : Nat) : Int) | none => .inl ()) := by
  intro k
  induction k with
  | zero =>
    intro t h1 h2
    have : t = l.length := by omega
    subst this
    rw [List.drop_length]
    refine loop_end ?_
    unfold slices_IndexFunc0_l1
    rw [decide_eq_false (by omega)]
    rfl
  | succ k ih =>
    intro t h1 h2
    have hlt : t < l.length := by omega
    have hx := List.getElem?_eq_getElem hlt
    rw [List.drop_eq_getElem_cons hlt, fi]
    have hb : slices_IndexFunc0_l1 l v t = cond (l[t].Name == v) (some (.inr (.inr (t : Int)))) (some (.inl (t + 1))) := by
      unfold slices_IndexFunc0_l1 dirent_Find_1
      rw [decide_eq_true (by omega), hx]
      rfl
    cases hp : l[t].Name == v with
    | true =>
      rw [hp] at hb
      rw [loop_end hb]
      rfl
    | false =>
      rw [hp] at hb
      rw [loop_next hb, ih (t + 1) (by omega) (by omega)]
      cases fi (fun k => k.Name == v) (l.drop (t + 1)) with
      | none => rfl
      | some y =>
        simp only [Option.map_some, Bool.false_eq_true, if_false]
        rw [show t + 1 + y.1 = t + (y.1 + 1) by omega]
theorem Find_eq (l : List TApiKid) (v : List UInt8) : dirent_Find l v = some (match fi (fun k => k.Name == v) l with | some y => (y.2.Ino, true) | none => (0, false)) := by
  unfold dirent_Find slices_IndexFunc0
  rw [find_loop l v l.length 0 (by omega) (by omega), List.drop_zero]
  cases hf : fi (fun k => k.Name == v) l with
  | none => rfl
  | some y =>
    obtain ⟨j, x⟩ := y
    have hg := fi_get _ _ _ _ hf
    simp only [bnd_inr, Option.bind_some, Nat.zero_add]
    rw [decide_eq_false (by omega), idx_ok hg]
    rfl
theorem finds_loop (l : List TApiKid) (v : List UInt8) (find : Int × Bool) : ∀ k t, l.length - t = k → t ≤ l.length → loopO (fun s => law16_DirentFinds_l1 l v find s) t = some (match fi (fun k => k.Name == v) (l.drop t) with | some y => .inr (find.2 && find.1 == y.2.Ino) | none => .inl ()) := by
  intro k
  induction k with
  | zero =>
    intro t h1 h2
    have : t = l.length := by omega
    subst this
    rw [List.drop_length]
    refine loop_end ?_
    unfold law16_DirentFinds_l1
    rw [decide_eq_false (by omega)]
    rfl
  | succ k ih =>
    intro t h1 h2
    have hlt : t < l.length := by omega
    have hx := List.getElem?_eq_getElem hlt
    rw [List.drop_eq_getElem_cons hlt, fi]
    have hb : law16_DirentFinds_l1 l v find t = cond (l[t].Name == v) (some (.inr (.inr (find.2 && find.1 == l[t].Ino)))) (some (.inl (t + 1))) := by
      unfold law16_DirentFinds_l1
      rw [decide_eq_true (by omega), hx, live16]
      simp only [cond_true, Option.bind_some]
      cases l[t].Name == v <;> cases find.2 <;> cases find.1 == l[t].Ino <;> rfl
    cases hp : l[t].Name == v with
    | true =>
      rw [hp] at hb
      rw [loop_end hb]
      rfl
    | false =>
      rw [hp] at hb
      rw [loop_next hb, ih (t + 1) (by omega) (by omega)]
      cases fi (fun k => k.Name == v) (l.drop (t + 1)) <;> rfl
theorem much_all (l : List TApiKid) : ∃ b, law16_much l = some b ∧ (b = false → l.length ≤ 700) := by
  unfold law16_much
  by_cases h : (l.length : Int) > 700
  · rw [decide_eq_true h]; exact ⟨true, rfl, fun h => by cases h⟩
  · rw [decide_eq_false h, cond_false]
    rw [loop_any l _ (fun k => if decide ((k.Name.length : Int) > 300) then some true else none) ?_ ?_]
    · rw [find_if (fun k : TApiKid => decide ((k.Name.length : Int) > 300))]
      cases l.any fun k => decide ((k.Name.length : Int) > 300)
      · exact ⟨false, rfl, fun _ => by omega⟩
      · exact ⟨true, rfl, fun h => by cases h⟩
    · intro t x hx
      have hlt := (List.getElem?_eq_some_iff.1 hx).1
      unfold law16_much_l1
      rw [decide_eq_true (by omega), hx]
      simp only [cond_true, Option.bind_some]
      cases decide ((x.Name.length : Int) > 300) <;> rfl
    · unfold law16_much_l1
      rw [decide_eq_false (by omega)]
      rfl
theorem DirentFinds_pure (l : List TApiKid) (hl : (rSl rApiKid).wf l) (v : List UInt8) (hv : rStr.wf v) : law16_DirentFinds l v = some true := by
  unfold law16_DirentFinds
  obtain ⟨b, hb, _⟩ := much_all l
  rw [hb, live16, Find_eq]
  simp only [Option.bind_some]
  cases b with
  | true => rfl
  | false =>
    cases decide ((v.length : Int) > 300) with
    | true => rfl
    | false =>
      simp only [cond_false]
      rw [finds_loop l v _ l.length 0 (by omega) (by omega), List.drop_zero]
      cases fi (fun k => k.Name == v) l with
      | none => rfl
      | some y =>
        simp only [bnd_inr]
        simp
end Go.Proofs.Ytebbaokcgnjfiaa.F
