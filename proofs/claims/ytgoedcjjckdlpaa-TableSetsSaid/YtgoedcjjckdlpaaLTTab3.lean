/- Tables in plain words: ids as bytes, bytes as ids. -/
import Derived.Test.YtgoedcjjckdlpaaLTTab2
set_option linter.unusedVariables false
set_option linter.unusedSimpArgs false
namespace Go.Proofs.Ytgoedcjjckdlpaa.F
open Go Go.RowKit Go.Proofs.Ytgoedcjjckdlpaa.K

/-- rising numbers of 32 bits -/
def incF (last : Int) : List Int → Bool
  | [] => true
  | x :: r => decide (last < x) && (decide (x ≤ 4294967295) && incF x r)
theorem incF_each : ∀ (l : List Int) (last : Int), -1 ≤ last → incF last l = true → ∀ x ∈ l, 0 ≤ x ∧ x ≤ 4294967295
  | [], _, _, _ => by simp
  | y :: l, last, h0, h => by
    unfold incF at h
    simp only [Bool.and_eq_true, decide_eq_true_eq] at h
    intro x hx
    rcases List.mem_cons.1 hx with rfl | hx
    · exact ⟨by omega, h.2.1⟩
    · exact incF_each l y (by omega) h.2.2 x hx
theorem encIds_loop (l : List Int) : ∀ k t (last : Int), l.length - t = k → t ≤ l.length → loopO (fun s => table_EncodeIds_l1 l s.1 s.2) (last, t) = some (if incF last (l.drop t) then .inl () else .inr ([], 1)) := by
  intro k
  induction k with
  | zero =>
    intro t last h1 h2
    have : t = l.length := by omega
    subst this
    rw [List.drop_length]
    refine loop_end ?_
    show table_EncodeIds_l1 l last l.length = _
    unfold table_EncodeIds_l1
    rw [decide_eq_false (by omega)]
    rfl
  | succ k ih =>
    intro t last h1 h2
    have hlt : t < l.length := by omega
    obtain ⟨x, ha⟩ : ∃ x, x = l[t] := ⟨_, rfl⟩
    have hx := List.getElem?_eq_getElem hlt
    rw [← ha] at hx
    have hd : l.drop t = x :: l.drop (t + 1) := by rw [ha]; exact List.drop_eq_getElem_cons hlt
    rw [hd, incF]
    have e : table_EncodeIds_l1 l last t = cond (decide (x ≤ last)) (some (.inr (.inr ([], 1)))) (cond (decide (x > 4294967295)) (some (.inr (.inr ([], 1)))) (some (.inl (x, t + 1)))) := by
      unfold table_EncodeIds_l1
      rw [decide_eq_true (by omega), cond_true, hx, Option.bind_some]
    by_cases h3 : last < x
    · rw [decide_eq_false (show ¬ x ≤ last by omega), cond_false] at e
      by_cases h4 : x ≤ 4294967295
      · rw [decide_eq_false (show ¬ x > 4294967295 by omega)] at e
        rw [loop_next (s' := (x, t + 1)) e, ih (t + 1) x (by omega) (by omega), decide_eq_true h3, decide_eq_true h4]
        rfl
      · rw [decide_eq_true (show x > 4294967295 by omega)] at e
        rw [loop_end e, decide_eq_true h3, decide_eq_false h4]
        rfl
    · rw [decide_eq_true (show x ≤ last by omega)] at e
      rw [loop_end e, decide_eq_false h3]
      rfl
def idsB (l : List Int) : List UInt8 := l.flatMap fun x => enc 4 x.toNat
theorem idsB_len (l : List Int) : (idsB l).length = 4 * l.length := by
  unfold idsB
  induction l with
  | nil => rfl
  | cons x l ih => rw [List.flatMap_cons, List.length_append, ih, enc_length, List.length_cons]; omega
theorem write0_ok (l : List Int) (hl : l.length ≤ 65536) (h : ∀ x ∈ l, 0 ≤ x ∧ x ≤ 4294967295) : table_write0 l = some (idsB l) := by
  have key : ∀ k t (b : List UInt8), l.length - t = k → t ≤ l.length → b.length + 4 * (l.length - t) ≤ 10000000 → loopO (fun s => table_write0_l1 l s.1 s.2.1 s.2.2.1 s.2.2.2) (b, 16777216, 0, t) = some (b ++ idsB (l.drop t), 16777216, 0) := by
    intro k
    induction k with
    | zero =>
      intro t b h1 h2 h3
      have : t = l.length := by omega
      subst this
      rw [List.drop_length]
      refine loop_end ?_
      show table_write0_l1 l b 16777216 0 l.length = _
      unfold table_write0_l1
      rw [decide_eq_false (by omega)]
      simp [idsB]
    | succ k ih =>
      intro t b h1 h2 h3
      have hlt : t < l.length := by omega
      obtain ⟨x, ha⟩ : ∃ x, x = l[t] := ⟨_, rfl⟩
      have hx := List.getElem?_eq_getElem hlt
      rw [← ha] at hx
      have hd : l.drop t = x :: l.drop (t + 1) := by rw [ha]; exact List.drop_eq_getElem_cons hlt
      have hs := h x (by rw [ha]; exact List.getElem_mem hlt)
      refine (loop_next (s' := (b ++ enc 4 x.toNat, 16777216, 0, t + 1)) ?_).trans ?_
      · show table_write0_l1 l b 16777216 0 t = _
        unfold table_write0_l1 table_EncodeIds_1
        rw [decide_eq_true (by omega), cond_true, hx, Option.bind_some]
        have : field_Writer_Num ({ f_b := b, f_most := 16777216, f_e := 0 } : TFieldWriter) (UInt64.ofInt x) 4 = some (wr (b ++ enc 4 (UInt64.ofInt x).toNat)) := WNum_ok (w := 4) (by omega) (by rw [ofInt_nat (by omega)]; omega) (by omega)
        rw [this, ofInt_nat (by omega)]
        rfl
      · rw [ih (t + 1) _ (by omega) (by omega) (by rw [List.length_append, enc_length]; omega), hd, List.append_assoc]
        rfl
  unfold table_write0
  rw [newWriter]
  have := key l.length 0 [] (by omega) (by omega) (by simp; omega)
  rw [List.drop_zero, List.nil_append] at this
  have hlen := idsB_len l
  show Option.bind (loopO _ ([], 16777216, 0, 0)) _ = _
  rw [this, Option.bind_some]
  have : field_Writer_Done ({ f_b := idsB l, f_most := 16777216, f_e := 0 } : TFieldWriter) = some (idsB l, 0) := Done_ok (b := idsB l) (by omega)
  dsimp only
  rw [this]
  rfl
/-- May a table have these? -/
def idsOk (l : List Int) : Bool := incF (-1) l && decide (l.length ≤ 65536)
theorem EncodeIds_ok (l : List Int) : table_EncodeIds l = some (if idsOk l then (idsB l, 0) else ([], 1)) := by
  unfold table_EncodeIds idsOk
  by_cases hl : l.length ≤ 65536
  · rw [decide_eq_false (show ¬ (l.length : Int) > 65536 by omega), cond_false, encIds_loop l l.length 0 (-1) (by omega) (by omega), List.drop_zero, decide_eq_true hl, Bool.and_true]
    cases h : incF (-1) l
    · rfl
    · rw [if_pos rfl, bnd_inl, write0_ok l hl (incF_each l (-1) (by omega) h)]
      rfl
  · rw [decide_eq_true (show (l.length : Int) > 65536 by omega), cond_true, decide_eq_false hl, Bool.and_false]
    rfl
theorem sub1 {n t k : Nat} (h : n - t = k + 1) : n - (t + 1) = k := by omega
theorem refRightIds_loop (l : List Int) : ∀ k t, l.length - t = k → t ≤ l.length → (t = 0 ∨ ∃ y, l[t - 1]? = some y ∧ 0 ≤ y) → loopO (fun s => ref17_RightIds_l1 l s) t = some (if incF (if t = 0 then -1 else l.getD (t - 1) 0) (l.drop t) then .inl () else .inr false) := by
  intro k
  induction k with
  | zero =>
    intro t h1 h2 h3
    have : t = l.length := by omega
    subst this
    rw [List.drop_length]
    refine loop_end ?_
    unfold ref17_RightIds_l1
    rw [decide_eq_false (by omega)]
    rfl
  | succ k ih =>
    intro t h1 h2 h3
    have hlt : t < l.length := by omega
    obtain ⟨x, ha⟩ : ∃ x, x = l[t] := ⟨_, rfl⟩
    have hx := List.getElem?_eq_getElem hlt
    rw [← ha] at hx
    have hd : l.drop t = x :: l.drop (t + 1) := by rw [ha]; exact List.drop_eq_getElem_cons hlt
    obtain ⟨last, hlast⟩ : ∃ last, last = (if t = 0 then -1 else l.getD (t - 1) 0) := ⟨_, rfl⟩
    rw [hd, incF, ← hlast]
    have hl0 : -1 ≤ last := by
      rw [hlast]
      split
      · omega
      · rcases h3 with h3 | ⟨y, h3, h4⟩
        · omega
        · rw [List.getD_eq_getElem?_getD, h3]; exact Int.le_trans (by omega) h4
    have hnext : (if t + 1 = 0 then (-1 : Int) else l.getD (t + 1 - 1) 0) = x := by
      rw [if_neg (by omega), Nat.add_sub_cancel, List.getD_eq_getElem?_getD, hx]; rfl
    have e : ref17_RightIds_l1 l t = if last < x ∧ x ≤ 4294967295 then some (.inl (t + 1)) else some (.inr (.inr false)) := by
      unfold ref17_RightIds_l1
      rw [decide_eq_true (by omega), cond_true, hx, Option.bind_some]
      by_cases c1 : x < 0
      · rw [decide_eq_true c1, if_neg (by omega)]; rfl
      · rw [decide_eq_false c1, cond_false]
        by_cases c2 : x ≤ 4294967295
        · rw [decide_eq_false (show ¬ x > 4294967295 by omega), cond_false]
          by_cases c3 : t = 0
          · rw [decide_eq_false (by omega), cond_false, if_pos ⟨by rw [hlast, if_pos c3]; omega, c2⟩]
          · have hp : idx l ((t : Int) - 1) = some last := by
              rw [show (t : Int) - 1 = ((t - 1 : Nat) : Int) by omega]
              refine idx_ok ?_
              rw [hlast, if_neg c3, List.getD_eq_getElem?_getD, List.getElem?_eq_getElem (show t - 1 < l.length by omega)]
              rfl
            rw [decide_eq_true (by omega), cond_true, hp, Option.bind_some]
            by_cases c4 : x ≤ last
            · rw [decide_eq_true c4, if_neg (by omega)]; rfl
            · rw [decide_eq_false c4, if_pos (by omega)]; rfl
        · rw [decide_eq_true (show x > 4294967295 by omega), if_neg (by omega)]; rfl
    by_cases hc : last < x ∧ x ≤ 4294967295
    · rw [if_pos hc] at e
      have hx0 : 0 ≤ x := by
        have h5 := hc.1
        clear e hd hnext hlast ih
        omega
      rw [loop_next e, ih (t + 1) (sub1 h1) hlt (.inr ⟨x, by rw [Nat.add_sub_cancel]; exact hx, hx0⟩), hnext, decide_eq_true hc.1, decide_eq_true hc.2, Bool.true_and, Bool.true_and]
    · rw [if_neg hc] at e
      rw [loop_end e]
      have : (decide (last < x) && (decide (x ≤ 4294967295) && incF x (l.drop (t + 1)))) = false := by
        rw [← Bool.and_assoc, ← Bool.decide_and, decide_eq_false hc]; rfl
      rw [this]
      rfl
theorem RightIds_ok (l : List Int) : ref17_RightIds l = some (idsOk l) := by
  unfold ref17_RightIds idsOk
  have := refRightIds_loop l l.length 0 (by omega) (by omega) (.inl rfl)
  rw [List.drop_zero, if_pos rfl] at this
  rw [this, show decide ((l.length : Int) ≤ 65536) = decide (l.length ≤ 65536) from by rw [Bool.eq_iff_iff]; simp; omega]
  cases incF (-1) l
  · rfl
  · rw [if_pos rfl, bnd_inl, Bool.true_and]
theorem IdBytes_ok (l : List Int) (hl : l.length ≤ 1000000) (h : ∀ x ∈ l, 0 ≤ x ∧ x ≤ 4294967295) : ref17_IdBytes l = some (idsB l) := by
  have := loop_fold l (fun s => ref17_IdBytes_l1 l s.1 s.2) (fun b x => b ++ enc 4 x.toNat) id (fun b r => b.length + 4 * r.length ≤ 100000000 ∧ ∀ x ∈ r, 0 ≤ x ∧ x ≤ 4294967295) ?_ ?_ l.length 0 [] (by omega) (by omega) ⟨by simp; omega, by simpa using h⟩
  · unfold ref17_IdBytes
    rw [this, List.drop_zero, foldB]
    rfl
  · intro b t x hx ⟨hI, hA⟩
    have hlt := (List.getElem?_eq_some_iff.1 hx).1
    have e : x = l[t] := (List.getElem?_eq_some_iff.1 hx).2.symm
    rw [List.drop_eq_getElem_cons hlt, ← e] at hI hA
    rw [List.length_cons] at hI
    have hs := hA x (by simp)
    refine ⟨?_, by rw [List.length_append, enc_length]; omega, fun y hy => hA y (by simp [hy])⟩
    unfold ref17_IdBytes_l1
    dsimp only
    rw [decide_eq_true (by omega), cond_true, hx, Option.bind_some, show (4 : Int) = ((4 : Nat) : Int) from rfl, refstoreI 4 (by omega) (by omega), Option.bind_some, app_ok (by rw [enc_length]; omega)]
    rfl
  · intro b _
    unfold ref17_IdBytes_l1
    dsimp only
    rw [decide_eq_false (by omega)]
    rfl

/-! bytes as ids -/
def cut4 (b : List UInt8) : Nat → Nat → List Int
  | _, 0 => []
  | p, k + 1 => ((rd b p 4 : Nat) : Int) :: cut4 b (p + 4) k
theorem cut4_len (b : List UInt8) : ∀ k p, (cut4 b p k).length = k
  | 0, _ => rfl
  | k + 1, p => by rw [cut4, List.length_cons, cut4_len b k]
theorem rd4 (b : List UInt8) (p : Nat) : rd b p 4 < 4294967296 := rd_lt b p 4
theorem read_loop (b : List UInt8) (hb : b.length ≤ 1000000) : ∀ k p (out : List Int), p + 4 * k = b.length → out.length + k ≤ 1000000 → loopO (fun s => table_read0_l1 s.1 s.2.1 s.2.2.1 s.2.2.2) (b, (p : Int), 0, out) = some (out ++ cut4 b p k) := by
  intro k
  induction k with
  | zero =>
    intro p out h1 h2
    refine loop_end ?_
    show table_read0_l1 b (p : Int) 0 out = _
    unfold table_read0_l1 field_Reader_Left
    dsimp only
    rw [Option.bind_some, wI (by omega), decide_eq_false (by omega)]
    simp [cut4]
  | succ k ih =>
    intro p out h1 h2
    obtain ⟨v, r', e1, e2, e3, e4, _⟩ := Num_any (l := b) (by omega) (r := ⟨b, (p : Int), 0⟩) ⟨rfl, by dsimp only; omega, by dsimp only; omega⟩ (w := 4) (by omega)
    dsimp only at e3 e4
    have h0 := e3.2 ⟨rfl, by omega⟩
    obtain ⟨e5, e6⟩ := e4 h0
    have hr : r' = ⟨b, ((p + 4 : Nat) : Int), 0⟩ := by
      obtain ⟨b', a', e'⟩ := r'
      have g1 := e2.b
      dsimp only at g1 h0 e5
      subst g1; subst h0
      rw [e5]
      rfl
    have hv : v.toNat = rd b p 4 := by rw [e6, Int.toNat_natCast]; rfl
    have h4 := rd4 b p
    refine (loop_next (s' := (b, ((p + 4 : Nat) : Int), 0, out ++ [((rd b p 4 : Nat) : Int)])) ?_).trans ?_
    · show table_read0_l1 b (p : Int) 0 out = _
      unfold table_read0_l1 field_Reader_Left table_DecodeIds_1
      dsimp only
      rw [Option.bind_some, wI (x := (b.length : Int) - (p : Int)) (by omega), decide_eq_true (by omega), cond_true, show (4 : Int) = ((4 : Nat) : Int) from rfl, e1, Option.bind_some, hr, hv, wI (by omega), Option.bind_some, app_ok (by simp; omega)]
      rfl
    · rw [ih (p + 4) _ (by omega) (by simp; omega), List.append_assoc]
      rfl
theorem DecodeIds_ok (b : List UInt8) (hb : b.length ≤ 262144) : table_DecodeIds b = some (if b.length % 4 = 0 ∧ idsOk (cut4 b 0 (b.length / 4)) = true then (cut4 b 0 (b.length / 4), 0) else ([], 6)) := by
  unfold table_DecodeIds table_read0
  rw [chk_d (by decide), Option.bind_some, show Int.tmod (b.length : Int) 4 = ((b.length % 4 : Nat) : Int) from rfl, show Int.tdiv (b.length : Int) 4 = ((b.length / 4 : Nat) : Int) from rfl]
  by_cases h : b.length % 4 = 0
  · rw [show ((((b.length % 4 : Nat)) : Int) != 0) = false from by simp [h], cond_false, Option.bind_some, wI (by omega), decide_eq_false (by omega), cond_false, new_ok (by omega), Option.bind_some]
    have := read_loop b (by omega) (b.length / 4) 0 [] (by omega) (by simp; omega)
    rw [List.nil_append] at this
    dsimp only
    rw [show (0 : Int) = ((0 : Nat) : Int) from rfl]
    rw [show ((0 : Nat) : Int) = (0 : Int) from rfl] at this ⊢
    rw [this, Option.bind_some, Option.bind_some, EncodeIds_ok, Option.bind_some, cond_true]
    cases hc : idsOk (cut4 b 0 (b.length / 4))
    · rw [if_neg (by decide), if_neg (by simp)]; rfl
    · rw [if_pos rfl, if_pos ⟨h, rfl⟩]; rfl
  · rw [show ((((b.length % 4 : Nat)) : Int) != 0) = true from by simpa using by omega, cond_true, Option.bind_some, EncodeIds_ok, Option.bind_some, if_neg (c := b.length % 4 = 0 ∧ _) (fun x => h x.1)]
    rfl
theorem refdec_loop (b : List UInt8) (hb : b.length ≤ 1000000) : ∀ k p (out : List Int), p + 4 * k ≤ b.length → b.length < p + 4 * k + 4 → out.length + k ≤ 1000000 → loopO (fun s => ref17_DecodeIds_l1 b s.1 s.2) (out, (p : Int)) = some (out ++ cut4 b p k) := by
  intro k
  induction k with
  | zero =>
    intro p out h1 h2 h3
    refine loop_end ?_
    show ref17_DecodeIds_l1 b out (p : Int) = _
    unfold ref17_DecodeIds_l1
    rw [wI (by omega), decide_eq_false (by omega)]
    simp [cut4]
  | succ k ih =>
    intro p out h1 h2 h3
    obtain ⟨v, e1, e2⟩ := Load_ok (b := b) (p := (p : Int)) (w := 4) (by omega) (by omega) (by omega)
    rw [Int.toNat_natCast] at e2
    have h4 := rd4 b p
    refine (loop_next (s' := (out ++ [((rd b p 4 : Nat) : Int)], ((p + 4 : Nat) : Int))) ?_).trans ?_
    · show ref17_DecodeIds_l1 b out (p : Int) = _
      unfold ref17_DecodeIds_l1
      rw [wI (x := (p : Int) + 4) (by omega), decide_eq_true (by omega), cond_true]
      have e1' : ref01_Load b (p : Int) 4 = some v := e1
      rw [e1', Option.bind_some, e2, wI (by omega), app_ok (by simp; omega)]
      rfl
    · rw [ih (p + 4) _ (by omega) (by omega) (by simp; omega), List.append_assoc]
      rfl
theorem refDecodeIds_ok (b : List UInt8) (hb : b.length ≤ 262144) : ref17_DecodeIds b = some (if b.length % 4 = 0 ∧ idsOk (cut4 b 0 (b.length / 4)) = true then (cut4 b 0 (b.length / 4), 0) else ([], 6)) := by
  unfold ref17_DecodeIds
  have := refdec_loop b (by omega) (b.length / 4) 0 [] (by omega) (by omega) (by simp; omega)
  rw [List.nil_append] at this
  have this : loopO (fun s => ref17_DecodeIds_l1 b s.1 s.2) ([], 0) = some (cut4 b 0 (b.length / 4)) := this
  rw [this, Option.bind_some, show Int.tmod (b.length : Int) 4 = ((b.length % 4 : Nat) : Int) from rfl]
  by_cases h : b.length % 4 = 0
  · rw [show ((((b.length % 4 : Nat)) : Int) != 0) = false from by simp [h], cond_false, RightIds_ok, Option.bind_some]
    cases hc : idsOk (cut4 b 0 (b.length / 4))
    · rw [if_neg (by simp)]; rfl
    · rw [if_pos ⟨h, rfl⟩]; rfl
  · rw [show ((((b.length % 4 : Nat)) : Int) != 0) = true from by simpa using by omega, cond_true, if_neg (fun x => h x.1)]
theorem cut4_app (a : List UInt8) : ∀ (l : List Int) (p : Nat), p = a.length → (∀ x ∈ l, 0 ≤ x ∧ x ≤ 4294967295) → cut4 (a ++ idsB l) p l.length = l
  | [], p, _, _ => rfl
  | x :: l, p, hp, h => by
    have hx := h x (by simp)
    have e : rd (a ++ idsB (x :: l)) p 4 = x.toNat := by
      unfold rd idsB
      rw [List.flatMap_cons, hp, List.drop_left, List.take_append_of_le_length (by rw [enc_length]; omega), List.take_of_length_le (by rw [enc_length]; omega), le_enc]
      omega
    rw [List.length_cons, cut4, e, show ((x.toNat : Nat) : Int) = x by omega]
    have e2 : a ++ idsB (x :: l) = (a ++ enc 4 x.toNat) ++ idsB l := by unfold idsB; rw [List.flatMap_cons, List.append_assoc]
    rw [e2, cut4_app (a ++ enc 4 x.toNat) l (p + 4) (by rw [List.length_append, enc_length]; omega) (fun y hy => h y (by simp [hy]))]
theorem ids_back {l : List Int} (hl : l.length ≤ 65536) (h : idsOk l = true) : table_DecodeIds (idsB l) = some (l, 0) := by
  have hi : incF (-1) l = true := by unfold idsOk at h; simp only [Bool.and_eq_true] at h; exact h.1
  have he := incF_each l (-1) (by omega) hi
  have hlen := idsB_len l
  have e : cut4 (idsB l) 0 ((idsB l).length / 4) = l := by
    rw [hlen, show 4 * l.length / 4 = l.length by omega]
    have := cut4_app [] l 0 rfl he
    rwa [List.nil_append] at this
  rw [DecodeIds_ok _ (by omega), e, if_pos ⟨by omega, h⟩]
theorem TableIdBytes_pure (l : List Int) (_ : (rSl rI64).wf l) (b : List UInt8) (_ : (rSl rU8).wf b) : law17_TableIdBytes l b = some true := by
  have main : (b.length ≤ 3000) → (l.length ≤ 1000 ∨ 65536 < l.length) → (Option.bind (table_EncodeIds l) fun encode1 =>
      Option.bind (ref17_RightIds l) fun rightI1 =>
      bnd
      (cond rightI1
      (Option.bind (table_DecodeIds encode1.1) fun decode3 =>
      cond ((IntKind.i64.wrap ((law17_num encode1.2) + (law17_num decode3.2))) != 0)
      (some (.inr false))
      (Option.bind (ref17_IdBytes l) fun idByte1 =>
      cond (encode1.1 != idByte1)
      (some (.inr false))
      (Option.bind (ref17_SameInts decode3.1 l) fun sameIn2 =>
      cond sameIn2
      (some (.inl ()))
      (some (.inr false)))))
      (cond ((law17_num encode1.2) != 1)
      (some (.inr false))
      (cond ((encode1.1.length : Int) != 0)
      (some (.inr false))
      (some (.inl ()))))) fun (_ : Unit) =>
      Option.bind (table_DecodeIds b) fun decode4 =>
      Option.bind (ref17_DecodeIds b) fun decode5 =>
      Option.bind (ref17_SameInts decode4.1 decode5.1) fun sameIn3 =>
      cond sameIn3
      (cond ((law17_num decode4.2) == decode5.2)
      (Option.bind law17_live fun live4 =>
      some live4)
      (some false))
      (some false)) = some true := by
    intro hb hl
    have tail : (Option.bind (table_DecodeIds b) fun decode4 =>
      Option.bind (ref17_DecodeIds b) fun decode5 =>
      Option.bind (ref17_SameInts decode4.1 decode5.1) fun sameIn3 =>
      cond sameIn3
      (cond ((law17_num decode4.2) == decode5.2)
      (Option.bind law17_live fun live4 =>
      some live4)
      (some false))
      (some false)) = some true := by
      rw [DecodeIds_ok b (by omega), refDecodeIds_ok b (by omega), Option.bind_some, Option.bind_some, SameInts_eq, live17]
      unfold law17_num
      simp
    rw [EncodeIds_ok, RightIds_ok, Option.bind_some, Option.bind_some]
    cases hc : idsOk l
    · rw [if_neg (by decide), cond_false, show ((law17_num (([] : List UInt8), (1 : Int)).2) != 1) = false from rfl, cond_false, show (((([] : List UInt8), (1 : Int)).1.length : Int) != 0) = false from rfl, cond_false, bnd_inl]
      exact tail
    · have hl2 : l.length ≤ 65536 := by unfold idsOk at hc; simp only [Bool.and_eq_true, decide_eq_true_eq] at hc; exact hc.2
      have hi : incF (-1) l = true := by unfold idsOk at hc; simp only [Bool.and_eq_true] at hc; exact hc.1
      rw [if_pos rfl, cond_true]
      dsimp only
      rw [ids_back hl2 hc, Option.bind_some, show (IntKind.i64.wrap ((law17_num (0 : Int)) + (law17_num ((l, (0 : Int)).2))) != 0) = false from (by decide : (IntKind.i64.wrap ((0 : Int) + 0) != 0) = false), cond_false, IdBytes_ok l (by omega) (incF_each l (-1) (by omega) hi), Option.bind_some, show (idsB l != idsB l) = false from by simp, cond_false, SameInts_eq, show (l == l) = true from by simp, Option.bind_some, cond_true, bnd_inl]
      exact tail
  unfold law17_TableIdBytes
  by_cases h1 : l.length > 1000
  · rw [decide_eq_true (show (l.length : Int) > 1000 by omega), cond_true]
    by_cases h2 : l.length ≤ 65536
    · rw [decide_eq_true (by omega), cond_true, live17]; rfl
    · rw [decide_eq_false (by omega), cond_false]
      by_cases h3 : b.length > 3000
      · rw [decide_eq_true (by omega), cond_true, live17]; rfl
      · rw [decide_eq_false (by omega), cond_false]
        exact main (by omega) (.inr (by omega))
  · rw [decide_eq_false (show ¬ (l.length : Int) > 1000 by omega), cond_false]
    by_cases h3 : b.length > 3000
    · rw [decide_eq_true (by omega), cond_true, live17]; rfl
    · rw [decide_eq_false (by omega), cond_false]
      exact main (by omega) (.inl (by omega))
end Go.Proofs.Ytgoedcjjckdlpaa.F
