/- Names of folders in plain words: the document's decoder; there and back; the laws. -/
import Derived.Test.YtebbaokcgnjfiaaLDDirent3
set_option linter.unusedVariables false
set_option linter.unusedSimpArgs false
namespace Go.Proofs.Ytebbaokcgnjfiaa.F
open Go Go.RowKit Go.Proofs.Ytebbaokcgnjfiaa.K

theorem rd1 {b : List UInt8} {p : Nat} (h : p < b.length) : rd b p 1 = (b[p]).toNat := by
  unfold rd
  rw [List.drop_eq_getElem_cons h, List.take_succ_cons, List.take_zero]
  simp [le]
theorem kids_ref {b : List UInt8} (hb : b.length ≤ 1000000) (v1 v2 : UInt64) (hn : v1.toNat < 65536) (hf : v2.toNat < 4294967296) : ∀ k i a (acc : List TApiKid), v1.toNat - i = k → i ≤ v1.toNat → a ≤ b.length → acc.length ≤ a →
    loopO (fun s => ref16_Decode_l2 b v1 v2 s.1 s.2.1 s.2.2) (acc, (a : Int), (i : Int)) = some (match kidsP b (v2.toNat : Int) k a acc with | some y => .inl (y.1, (y.2 : Int)) | none => .inr (.inr (.inr ([], 6)))) := by
  intro k
  induction k with
  | zero =>
    intro i a acc h1 h2 h3 h4
    refine (loop_end (r := .inl (acc, (a : Int))) ?_).trans rfl
    show ref16_Decode_l2 b v1 v2 acc (a : Int) (i : Int) = _
    unfold ref16_Decode_l2
    rw [wI (by omega), decide_eq_false (by omega)]
    rfl
  | succ k ih =>
    intro i a acc h1 h2 h3 h4
    unfold kidsP
    by_cases hc : a + 3 ≤ b.length ∧ a + 3 + rd b (a + 2) 1 ≤ b.length
    · rw [if_pos hc]
      have hlt : a + 2 < b.length := by omega
      have hg := rd1 hlt
      rw [hg] at hc
      obtain ⟨u, g1, g2⟩ := Load_ok (b := b) (p := (a : Int)) (w := 2) (by omega) (by omega) (by decide)
      rw [Int.toNat_natCast] at g2
      have hr := rd_lt b a 2
      have hb2 : ref16_Decode_l2 b v1 v2 acc (a : Int) (i : Int) = some (.inl (acc ++ [⟨(b.drop (a + 3)).take (rd b (a + 2) 1), (v2.toNat : Int) + rd b a 2⟩], ((a + 3 + rd b (a + 2) 1 : Nat) : Int), ((i + 1 : Nat) : Int))) := by
        rw [hg]
        unfold ref16_Decode_l2
        rw [wI (x := (v1.toNat : Int)) (by omega), decide_eq_true (by omega), wI (x := (a : Int) + 3) (by omega), decide_eq_false (show ¬ (a : Int) + 3 > (b.length : Int) by omega), wI (x := (a : Int) + 2) (by omega), show (a : Int) + 2 = ((a + 2 : Nat) : Int) by omega, idx_ok (List.getElem?_eq_getElem hlt)]
        simp only [cond_true, cond_false, Option.bind_some]
        rw [wI (x := (a : Int) + 3 + ((b[a + 2]).toNat : Int)) (by omega), decide_eq_false (by omega), cond_false, slc_ok (by omega)]
        simp only [Option.bind_some]
        rw [show ref01_Load b (a : Int) 2 = _ from g1]
        simp only [Option.bind_some]
        rw [g2, wI (x := ((rd b a 2 : Nat) : Int)) (by omega), wI (x := (v2.toNat : Int)) (by omega), wI (x := (v2.toNat : Int) + (rd b a 2 : Int)) (by omega), app_ok (by rw [List.length_singleton]; omega), wI (x := (i : Int) + 1) (by omega), List.drop_take]
        simp only [Option.bind_some]
        rw [show ((a : Int) + 3 + ((b[a + 2]).toNat : Int)).toNat - ((a : Int) + 3).toNat = (b[a + 2]).toNat by omega, show ((a : Int) + 3).toNat = a + 3 by omega]
        congr 1
      rw [loop_next (s' := (acc ++ [⟨(b.drop (a + 3)).take (rd b (a + 2) 1), (v2.toNat : Int) + rd b a 2⟩], ((a + 3 + rd b (a + 2) 1 : Nat) : Int), ((i + 1 : Nat) : Int))) hb2]
      exact ih (i + 1) (a + 3 + rd b (a + 2) 1) _ (by omega) (by omega) (by rw [hg]; exact hc.2) (by rw [List.length_append, List.length_singleton]; omega)
    · rw [if_neg hc]
      have hb2 : ref16_Decode_l2 b v1 v2 acc (a : Int) (i : Int) = some (.inr (.inr (.inr (.inr ([], 6))))) := by
        unfold ref16_Decode_l2
        rw [wI (x := (v1.toNat : Int)) (by omega), decide_eq_true (by omega), wI (x := (a : Int) + 3) (by omega), cond_true]
        by_cases h3' : a + 3 ≤ b.length
        · have hlt : a + 2 < b.length := by omega
          have hg := rd1 hlt
          rw [decide_eq_false (show ¬ (a : Int) + 3 > (b.length : Int) by omega), wI (x := (a : Int) + 2) (by omega), show (a : Int) + 2 = ((a + 2 : Nat) : Int) by omega, idx_ok (List.getElem?_eq_getElem hlt)]
          have hbb := (b[a + 2]).toNat_lt
          simp only [cond_false, Option.bind_some]
          rw [wI (x := (a : Int) + 3 + ((b[a + 2]).toNat : Int)) (by omega), decide_eq_true (by rw [hg] at hc; omega), cond_true]
        · rw [decide_eq_true (show (a : Int) + 3 > (b.length : Int) by omega), cond_true]
      rw [loop_end (r := .inr (.inr (.inr ([], 6)))) hb2]
theorem rows_ref {b : List UInt8} (hb : b.length ≤ 1000000) : ∀ f a (acc : List TApiKid), b.length - a ≤ f → a ≤ b.length → acc.length ≤ a →
    loopO (fun s => ref16_Decode_l1 b s.1 s.2) (acc, (a : Int)) = some (match rowsP b f a acc with | some l => .inl l | none => .inr ([], 6)) := by
  intro f
  induction f with
  | zero =>
    intro a acc h1 h2 h3
    refine (loop_end (r := .inl acc) ?_).trans rfl
    show ref16_Decode_l1 b acc (a : Int) = _
    unfold ref16_Decode_l1
    rw [decide_eq_false (by omega)]
    rfl
  | succ f ih =>
    intro a acc h1 h2 h3
    unfold rowsP
    by_cases hlt : a < b.length
    · rw [if_pos hlt]
      by_cases h6 : a + 6 ≤ b.length
      · rw [if_pos h6]
        obtain ⟨u, g1, g2⟩ := Load_ok (b := b) (p := (a : Int)) (w := 2) (by omega) (by omega) (by decide)
        obtain ⟨v, g3, g4⟩ := Load_ok (b := b) (p := (a : Int) + 2) (w := 4) (by omega) (by omega) (by decide)
        rw [Int.toNat_natCast] at g2
        rw [show ((a : Int) + 2).toNat = a + 2 by omega] at g4
        have r1 := rd_lt b a 2
        have r2 := rd_lt b (a + 2) 4
        have hst : ref16_Decode_l1 b acc (a : Int) = bnd (loopO (fun s => ref16_Decode_l2 b u v s.1 s.2.1 s.2.2) (acc, ((a + 6 : Nat) : Int), ((0 : Nat) : Int))) (fun (l_1, at_1) => some (.inl (l_1, at_1))) := by
          unfold ref16_Decode_l1
          rw [decide_eq_true (by omega), wI (x := (a : Int) + 6) (by omega), decide_eq_false (by omega), wI (x := (a : Int) + 2) (by omega), show ref01_Load b (a : Int) 2 = _ from g1]
          simp only [cond_true, cond_false, Option.bind_some]
          rw [show ref01_Load b ((a : Int) + 2) 4 = _ from g3]
          rfl
        rw [kids_ref hb u v (by omega) (by omega) u.toNat 0 (a + 6) acc (by omega) (by omega) h6 (by omega), g2, g4] at hst
        cases hk : kidsP b (rd b (a + 2) 4 : Int) (rd b a 2) (a + 6) acc with
        | none =>
          rw [hk] at hst
          rw [loop_end (r := .inr ([], 6)) hst]
        | some y =>
          obtain ⟨acc', a'⟩ := y
          rw [hk] at hst
          have hs := kidsP_some _ _ _ _ _ _ _ hk
          rw [loop_next (s' := (acc', (a' : Int))) hst]
          exact ih a' acc' (by omega) (hs.2.1 h6) (by omega)
      · rw [if_neg h6]
        have hst : ref16_Decode_l1 b acc (a : Int) = some (.inr (.inr ([], 6))) := by
          unfold ref16_Decode_l1
          rw [decide_eq_true (by omega), wI (x := (a : Int) + 6) (by omega), decide_eq_true (by omega)]
          rfl
        rw [loop_end (r := .inr ([], 6)) hst]
    · rw [if_neg hlt]
      have hst : ref16_Decode_l1 b acc (a : Int) = some (.inr (.inl acc)) := by
        unfold ref16_Decode_l1
        rw [decide_eq_false (by omega)]
        rfl
      rw [loop_end (r := .inl acc) hst]
theorem refDecode_eq {b : List UInt8} (hb : b.length ≤ 1000000) : ref16_Decode b = some (decB b) := by
  unfold ref16_Decode decB
  have := rows_ref hb b.length 0 [] (by omega) (by omega) (by simp)
  rw [show (([], ((0 : Nat) : Int)) : List TApiKid × Int) = ([], 0) from rfl] at this
  rw [this]
  cases hp : rowsP b b.length 0 [] with
  | none => rfl
  | some l =>
    have hl := rowsP_len b _ _ _ _ (Nat.le_refl 0) (by omega) hp
    simp only [bnd_inl]
    rw [right_eq]
    cases hr : rightF [] l with
    | false => simp
    | true =>
      rw [refBytes_ok hr (by omega)]
      simp only [Option.bind_some, cond_true]
      by_cases he : encB l = b
      · rw [show (encB l != b) = false from bne_eq_false_iff_eq.2 he, cond_false, if_pos ⟨trivial, he⟩]
      · rw [show (encB l != b) = true from bne_iff_ne.2 he, cond_true, if_neg (fun h => he h.2)]
theorem Same_eq (l : List TApiKid) : ref16_Same l l = some true := by
  unfold ref16_Same
  simp only [bne_self_eq_false, cond_false]
  rw [loop_any l _ (fun _ => (none : Option Bool)) ?_ ?_]
  · have : l.findSome? (fun _ => (none : Option Bool)) = none := by simp
    rw [this]
    rfl
  · intro t x hx
    have hlt := (List.getElem?_eq_some_iff.1 hx).1
    unfold ref16_Same_l1
    rw [decide_eq_true (by omega), hx]
    simp
  · unfold ref16_Same_l1
    rw [decide_eq_false (by omega)]
    rfl
theorem DirentDecodes_pure (b : List UInt8) (hb : (rSl rU8).wf b) : law16_DirentDecodes b = some true := by
  unfold law16_DirentDecodes
  rw [live16]
  by_cases h1 : (b.length : Int) > 3000
  · rw [decide_eq_true h1]; rfl
  rw [decide_eq_false h1, cond_false, app_ok (by rw [List.length_nil]; omega), List.nil_append]
  simp only [Option.bind_some]
  rw [Decode_eq (by omega), refDecode_eq (by omega)]
  simp only [Option.bind_some]
  rw [Same_eq]
  simp only [Option.bind_some, cond_true, law16_num, bne_self_eq_false, cond_false]
  by_cases he : (decB b).2 = 0
  · rw [show ((decB b).2 != 0) = false from bne_eq_false_iff_eq.2 he, cond_false]
    have key : rightF [] (decB b).1 = true ∧ encB (decB b).1 = b ∧ (decB b).1.length ≤ b.length := by
      unfold decB at he ⊢
      split
      · rename_i l hp
        rw [hp] at he
        have hl := rowsP_len b _ _ _ _ (Nat.le_refl 0) (by omega) hp
        split
        · rename_i hc
          exact ⟨hc.1, hc.2, hl⟩
        · rename_i hc
          simp only [if_neg hc] at he
          exact absurd he (by decide)
      · rename_i hp
        rw [hp] at he
        exact absurd (show (6 : Int) = 0 from he) (by decide)
    rw [Encode_ok key.1 (by omega)]
    simp [key.2.1]
  · rw [show ((decB b).2 != 0) = true from bne_iff_ne.2 he, cond_true]

/-! ### There and back -/
theorem rd_enc {w k : Nat} {x : List UInt8} {b : List UInt8} {p : Nat} (hk : k < 256 ^ w) (h : b.drop p = enc w k ++ x) (hw : 1 ≤ w := by decide) : rd b p w = k ∧ b.drop (p + w) = x ∧ p + w ≤ b.length := by
  have hlen := congrArg List.length h
  rw [List.length_drop, List.length_append, enc_length] at hlen
  refine ⟨?_, ?_, by omega⟩
  · unfold rd
    rw [h, List.take_append_of_le_length (by rw [enc_length]; omega), List.take_of_length_le (by rw [enc_length]; omega), le_enc, Nat.mod_eq_of_lt hk]
  · rw [← List.drop_drop, h, List.drop_append_of_le_length (by rw [enc_length]; omega), List.drop_of_length_le (by rw [enc_length]; omega), List.nil_append]
theorem kids_back (b : List UInt8) (x0 : Int) : ∀ (l : List TApiKid) (rest : List UInt8) (a : Nat) (acc : List TApiKid), (∀ k ∈ l, OkK k ∧ k.Ino ≥ x0) → 0 ≤ x0 → a ≤ b.length → b.drop a = l.flatMap (kidB x0) ++ rest →
    kidsP b x0 l.length a acc = some (acc ++ l, a + (l.flatMap (kidB x0)).length) ∧ b.drop (a + (l.flatMap (kidB x0)).length) = rest
  | [], rest, a, acc, _, _, _, h => by simpa [kidsP] using h
  | k :: r, rest, a, acc, h, h0, ha, he => by
    obtain ⟨o1, o2⟩ := h k (.head _)
    have g1 := o1.hi
    have g3 := o1.len
    rw [List.flatMap_cons, kidB] at he
    simp only [List.append_assoc] at he
    obtain ⟨e1, e2, e3⟩ := rd_enc (w := 2) (k := (k.Ino - x0).toNat) (by omega) he
    obtain ⟨e4, e5, e6⟩ := rd_enc (w := 1) (k := k.Name.length) (by omega) e2
    have hlen := congrArg List.length e5
    rw [List.length_drop, List.length_append] at hlen
    have hdrop : b.drop (a + 3 + k.Name.length) = r.flatMap (kidB x0) ++ rest := by
      rw [← List.drop_drop, show a + 3 = a + 2 + 1 from rfl, e5, List.drop_append_of_le_length (Nat.le_refl _), List.drop_length, List.nil_append]
    have htake : (b.drop (a + 3)).take k.Name.length = k.Name := by
      rw [show a + 3 = a + 2 + 1 from rfl, e5, List.take_append_of_le_length (Nat.le_refl _), List.take_length]
    have hino : x0 + (rd b a 2 : Int) = k.Ino := by rw [e1]; omega
    obtain ⟨i1, i2⟩ := kids_back b x0 r rest (a + 3 + k.Name.length) (acc ++ [k]) (fun k hk => h k (.tail _ hk)) h0 (by omega) hdrop
    have hkl : (kidB x0 k).length = 3 + k.Name.length := by unfold kidB; simp only [List.length_append, enc_length]; omega
    rw [List.length_cons, kidsP, e4, if_pos (by omega), htake, hino, List.flatMap_cons, List.length_append, hkl]
    rw [show a + (3 + k.Name.length + (r.flatMap (kidB x0)).length) = a + 3 + k.Name.length + (r.flatMap (kidB x0)).length by omega]
    refine ⟨?_, i2⟩
    rw [show ({ Name := k.Name, Ino := k.Ino } : TApiKid) = k from rfl, i1, List.append_assoc]
    rfl
theorem rows_back (b : List UInt8) : ∀ (g : Nat) (l : List TApiKid) (f a : Nat) (acc : List TApiKid), l.length ≤ g → (∀ k ∈ l, OkK k) → a ≤ b.length → b.length - a ≤ f → b.drop a = (rowsF g l).flatMap rowB → rowsP b f a acc = some (acc ++ l) := by
  intro g
  induction g with
  | zero =>
    intro l f a acc h1 h2 h3 h4 h5
    have : l = [] := List.length_eq_zero_iff.1 (by omega)
    subst this
    have hl := congrArg List.length h5
    rw [List.length_drop] at hl
    have hl2 : b.length - a = 0 := hl
    cases f with
    | zero => simp [rowsP]
    | succ f => rw [rowsP, if_neg (by omega), List.append_nil]
  | succ g ih =>
    intro l f a acc h1 h2 h3 h4 h5
    cases l with
    | nil =>
      have hl := congrArg List.length h5
      rw [List.length_drop] at hl
      have hl2 : b.length - a = 0 := hl
      cases f with
      | zero => simp [rowsP]
      | succ f => rw [rowsP, if_neg (by omega), List.append_nil]
    | cons x r =>
      obtain ⟨l, hl⟩ : ∃ l, l = x :: r := ⟨_, rfl⟩
      have hne : l ≠ [] := by rw [hl]; simp
      have hr : rowsF (g + 1) (x :: r) = l.take (runL l) :: rowsF g (l.drop (runL l)) := by rw [hl]; rfl
      rw [hr] at h5
      rw [← hl] at h1 h2 ⊢
      have hp := runL_pos hne
      have hle := runL_le l
      obtain ⟨g1, g2, g3⟩ := run_row hne h2
      obtain ⟨x0, hx0⟩ : ∃ x0, x0 = ((l.take (runL l)).headD ⟨[], 0⟩).Ino := ⟨_, rfl⟩
      rw [← hx0] at g3
      have hhead : ((l.take (runL l)).headD ⟨[], 0⟩) ∈ l.take (runL l) := by
        cases ht : l.take (runL l) with
        | nil => exact absurd ht g1
        | cons y ys => exact .head _
      have o := (g3 _ hhead).1
      have o1 := o.lo
      have o2 := o.hi
      rw [← hx0] at o1 o2
      rw [List.flatMap_cons, rowB, ← hx0] at h5
      simp only [List.append_assoc] at h5
      obtain ⟨e1, e2, e3⟩ := rd_enc (w := 2) (k := (l.take (runL l)).length) (by omega) h5
      obtain ⟨e4, e5, e6⟩ := rd_enc (w := 4) (k := x0.toNat) (by omega) e2
      obtain ⟨k1, k2⟩ := kids_back b x0 (l.take (runL l)) ((rowsF g (l.drop (runL l))).flatMap rowB) (a + 6) acc g3 o1 (by omega) e5
      cases f with
      | zero => omega
      | succ f =>
        have hx : ((rd b (a + 2) 4 : Nat) : Int) = x0 := by rw [e4]; omega
        have hs := kidsP_some _ _ _ _ _ _ _ k1
        rw [rowsP, if_pos (by omega), if_pos (by omega), hx, e1, k1]
        show rowsP b f _ _ = _
        rw [ih (l.drop (runL l)) f _ _ (by rw [List.length_drop]; omega) (fun k hk => h2 k (List.mem_of_mem_drop hk)) (hs.2.1 (by omega)) (by omega) k2, List.append_assoc, List.take_append_drop]
theorem back_ok {l : List TApiKid} (h : rightF [] l = true) : rowsP (encB l) (encB l).length 0 [] = some l := by
  have := rows_back (encB l) l.length l (encB l).length 0 [] (Nat.le_refl _) (right_ok l _ h) (by omega) (by omega) (by rw [List.drop_zero]; rfl)
  rw [this, List.nil_append]
theorem rows_len : ∀ (g : Nat) (l : List TApiKid), l.length ≤ g → (∀ k ∈ l, OkK k) → ((rowsF g l).flatMap rowB).length ≤ 264 * l.length := by
  intro g
  induction g with
  | zero => intro l h1 h2; simp [rowsF]
  | succ g ih =>
    intro l h1 h2
    cases l with
    | nil => simp [rowsF]
    | cons x r =>
      obtain ⟨l, hl⟩ : ∃ l, l = x :: r := ⟨_, rfl⟩
      have hne : l ≠ [] := by rw [hl]; simp
      have hr : rowsF (g + 1) (x :: r) = l.take (runL l) :: rowsF g (l.drop (runL l)) := by rw [hl]; rfl
      rw [hr]
      rw [← hl] at h1 h2 ⊢
      have hp := runL_pos hne
      have hle := runL_le l
      obtain ⟨g1, g2, g3⟩ := run_row hne h2
      have hb := rowB_len (fun k hk => (g3 k hk).1)
      have := ih (l.drop (runL l)) (by rw [List.length_drop]; omega) (fun k hk => h2 k (List.mem_of_mem_drop hk))
      rw [List.length_drop] at this
      rw [List.flatMap_cons, List.length_append]
      omega
theorem Decode_back {l : List TApiKid} (h : rightF [] l = true) (hl : l.length ≤ 3000) : dirent_Decode (encB l) = some (l, 0) := by
  have hlen := rows_len l.length l (Nat.le_refl _) (right_ok l _ h)
  have hlen2 : (encB l).length ≤ 264 * l.length := hlen
  rw [Decode_eq (by omega)]
  unfold decB
  rw [back_ok h]
  simp [h]
theorem DirentEncodes_pure (l : List TApiKid) (hl : (rSl rApiKid).wf l) : law16_DirentEncodes l = some true := by
  unfold law16_DirentEncodes
  obtain ⟨b, hb, hb2⟩ := much_all l
  rw [hb, live16]
  simp only [Option.bind_some]
  cases b with
  | true => rfl
  | false =>
    have h700 := hb2 rfl
    simp only [cond_false]
    rw [right_eq, check_eq]
    cases hr : rightF [] l with
    | false =>
      rw [Encode_no hr]
      rfl
    | true =>
      rw [Encode_ok hr (by omega), refBytes_ok hr (by omega)]
      simp only [Option.bind_some, cond_true, law16_num, bne_self_eq_false, cond_false, if_true]
      rw [Decode_back hr (by omega)]
      simp only [Option.bind_some, beq_self_eq_true, cond_true]
      rw [Same_eq]
      rfl
end Go.Proofs.Ytebbaokcgnjfiaa.F
