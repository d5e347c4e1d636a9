/- Tables in plain words: fragments. -/
import Derived.Test.YtgoedcjjckdlpaaLTTab3
set_option linter.unusedVariables false
set_option linter.unusedSimpArgs false
namespace Go.Proofs.Ytgoedcjjckdlpaa.F
open Go Go.RowKit Go.Proofs.Ytgoedcjjckdlpaa.K

theorem enc_rd (b : List UInt8) (p w : Nat) (h : p + w ≤ b.length) : enc w (rd b p w) = (b.drop p).take w := by
  have hl : ((b.drop p).take w).length = w := by rw [List.length_take, List.length_drop]; omega
  have := enc_le ((b.drop p).take w)
  rw [hl] at this
  exact this
def fragOk (f : TApiFrag) : Bool := (decide (0 ≤ f.At) && decide (f.At ≤ 8388608)) && ((decide (1 ≤ f.Word) && decide (f.Word ≤ 4294967295)) && (decide (1 ≤ f.Plain) && decide (f.Plain ≤ 1048576)))
theorem wrong_eq (f : TApiFrag) : table_EncodeFrags_1 f = !fragOk f := by
  unfold table_EncodeFrags_1 fragOk
  rw [btw, btw, btw]
  cases (decide (0 ≤ f.At) && decide (f.At ≤ 8388608)) <;> cases (decide (1 ≤ f.Word) && decide (f.Word ≤ 4294967295)) <;> rfl
structure FragP (f : TApiFrag) : Prop where
  a : 0 ≤ f.At ∧ f.At ≤ 8388608
  w : 1 ≤ f.Word ∧ f.Word ≤ 4294967295
  p : 1 ≤ f.Plain ∧ f.Plain ≤ 1048576
theorem fragOk_iff (f : TApiFrag) : fragOk f = true ↔ FragP f := by
  unfold fragOk
  simp only [Bool.and_eq_true, decide_eq_true_eq]
  exact ⟨fun h => ⟨h.1, h.2.1, h.2.2⟩, fun h => ⟨h.a, h.w, h.p⟩⟩
theorem find_all {α : Type} (q : α → Bool) (l : List α) : (match l.findIdx? (fun x => !q x) with | some i => (i : Int) | none => -1) ≥ 0 ↔ l.all q = false := by
  cases h : l.findIdx? (fun x => !q x) with
  | none =>
    have := List.findIdx?_eq_none_iff.1 h
    constructor
    · intro h; exact absurd h (by show ¬ ((-1 : Int) ≥ 0); omega)
    · intro h2
      have h3 : l.all q = true := List.all_eq_true.2 fun x hx => by have := this x hx; simpa using this
      rw [h3] at h2; cases h2
  | some i =>
    obtain ⟨hi, hq, _⟩ := List.findIdx?_eq_some_iff_getElem.1 h
    constructor
    · intro _
      rw [List.all_eq_false]
      exact ⟨l[i], List.getElem_mem hi, by simpa using hq⟩
    · intro _; show (i : Int) ≥ 0; omega
theorem Contains_ok (l : List TApiFrag) : slices_ContainsFunc l = some (!l.all fragOk) := by
  unfold slices_ContainsFunc slices_IndexFunc
  have := loop_find l (fun s => slices_IndexFunc_l1 l s) (fun t x => if !fragOk x then some (t : Int) else none) ?_ ?_ l.length 0 (by omega) (by omega)
  · rw [this, List.drop_zero]
    have key : ∀ (l : List TApiFrag) (t : Nat), (l.zipIdx t).findSome? (fun y => if !fragOk y.1 then some (y.2 : Int) else none) = (l.findIdx? (fun x => !fragOk x)).map fun i => ((t + i : Nat) : Int) := by
      intro l
      induction l with
      | nil => intro t; rfl
      | cons x l ih =>
        intro t
        rw [List.zipIdx_cons, List.findSome?_cons, List.findIdx?_cons]
        cases h : (!fragOk x)
        · simp only [Bool.false_eq_true, if_false]
          rw [ih]
          cases l.findIdx? (fun x => !fragOk x) with
          | none => rfl
          | some i => simp; omega
        · simp
    rw [key]
    have ha := find_all fragOk l
    cases hf : l.findIdx? (fun x => !fragOk x) with
    | none =>
      rw [hf] at ha
      cases hc : l.all fragOk
      · exact absurd (ha.2 hc) (by show ¬ ((-1 : Int) ≥ 0); omega)
      · rfl
    | some i =>
      rw [hf] at ha
      rw [ha.1 (by show (i : Int) ≥ 0; omega)]
      simp [bnd]
  · intro t x hx
    have hlt := (List.getElem?_eq_some_iff.1 hx).1
    unfold slices_IndexFunc_l1
    rw [decide_eq_true (by omega), cond_true, hx, Option.bind_some, wrong_eq]
    cases fragOk x <;> rfl
  · unfold slices_IndexFunc_l1
    rw [decide_eq_false (by omega)]
    rfl
def fragB (f : TApiFrag) : List UInt8 := enc 4 f.At.toNat ++ (enc 4 f.Word.toNat ++ enc 4 f.Plain.toNat)
theorem fragB_len (f : TApiFrag) : (fragB f).length = 12 := by unfold fragB; simp only [List.length_append, enc_length]
def fragsB (l : List TApiFrag) : List UInt8 := l.flatMap fragB
theorem fragsB_len (l : List TApiFrag) : (fragsB l).length = 12 * l.length := by
  unfold fragsB
  induction l with
  | nil => rfl
  | cons x l ih => rw [List.flatMap_cons, List.length_append, ih, fragB_len, List.length_cons]; omega
theorem Enc2_ok {b : List UInt8} {f : TApiFrag} (h : FragP f) (hb : b.length + 12 ≤ 16777216) : table_EncodeFrags_2 (wr b) f = some (wr (b ++ fragB f)) := by
  have ha := h.a
  have hw := h.w
  have hp := h.p
  unfold table_EncodeFrags_2
  have n1 : ∀ (b : List UInt8) (x : Int), 0 ≤ x ∧ x ≤ 4294967295 → b.length + 4 ≤ 16777216 → field_Writer_Num (wr b) (UInt64.ofInt x) 4 = some (wr (b ++ enc 4 x.toNat)) := fun b x hx hb => by
    have := WNum_ok (b := b) (n := UInt64.ofInt x) (w := 4) (by omega) (by rw [ofInt_nat (by omega)]; omega) (by omega)
    rw [ofInt_nat (by omega)] at this
    exact this
  rw [n1 b _ (by omega) (by omega), Option.bind_some, n1 _ _ (by omega) (by rw [List.length_append, enc_length]; omega), Option.bind_some, n1 _ _ (by omega) (by simp only [List.length_append, enc_length]; omega), Option.bind_some]
  unfold fragB
  simp only [List.append_assoc]
theorem write2_ok (l : List TApiFrag) (hl : l.length ≤ 65536) (h : ∀ x ∈ l, FragP x) : table_write2 l = some (fragsB l) := by
  have key : ∀ k t (b : List UInt8), l.length - t = k → t ≤ l.length → b.length + 12 * (l.length - t) ≤ 10000000 → loopO (fun s => table_write2_l1 l s.1 s.2.1 s.2.2.1 s.2.2.2) (b, 16777216, 0, t) = some (b ++ fragsB (l.drop t), 16777216, 0) := by
    intro k
    induction k with
    | zero =>
      intro t b h1 h2 h3
      have : t = l.length := by omega
      subst this
      rw [List.drop_length]
      refine loop_end ?_
      show table_write2_l1 l b 16777216 0 l.length = _
      unfold table_write2_l1
      rw [decide_eq_false (by omega)]
      simp [fragsB]
    | succ k ih =>
      intro t b h1 h2 h3
      have hlt : t < l.length := by omega
      obtain ⟨x, ha⟩ : ∃ x, x = l[t] := ⟨_, rfl⟩
      have hx := List.getElem?_eq_getElem hlt
      rw [← ha] at hx
      have hd : l.drop t = x :: l.drop (t + 1) := by rw [ha]; exact List.drop_eq_getElem_cons hlt
      have hs := h x (by rw [ha]; exact List.getElem_mem hlt)
      refine (loop_next (s' := (b ++ fragB x, 16777216, 0, t + 1)) ?_).trans ?_
      · show table_write2_l1 l b 16777216 0 t = _
        unfold table_write2_l1
        rw [decide_eq_true (by omega), cond_true, hx, Option.bind_some]
        have : table_EncodeFrags_2 ({ f_b := b, f_most := 16777216, f_e := 0 } : TFieldWriter) x = some (wr (b ++ fragB x)) := Enc2_ok hs (by omega)
        rw [this]
        rfl
      · rw [ih (t + 1) _ (sub1 h1) hlt (by rw [List.length_append, fragB_len]; omega), hd, List.append_assoc]
        rfl
  unfold table_write2
  rw [newWriter]
  have := key l.length 0 [] (by omega) (by omega) (by simp; omega)
  rw [List.drop_zero, List.nil_append] at this
  have hlen := fragsB_len l
  show Option.bind (loopO _ ([], 16777216, 0, 0)) _ = _
  rw [this, Option.bind_some]
  have : field_Writer_Done ({ f_b := fragsB l, f_most := 16777216, f_e := 0 } : TFieldWriter) = some (fragsB l, 0) := Done_ok (b := fragsB l) (by omega)
  dsimp only
  rw [this]
  rfl
def fragsOk (l : List TApiFrag) : Bool := l.all fragOk && decide (l.length ≤ 65536)
theorem fragsP {l : List TApiFrag} (h : fragsOk l = true) : l.length ≤ 65536 ∧ ∀ x ∈ l, FragP x := by
  unfold fragsOk at h
  simp only [Bool.and_eq_true, decide_eq_true_eq] at h
  exact ⟨h.2, fun x hx => (fragOk_iff x).1 (List.all_eq_true.1 h.1 x hx)⟩
theorem EncodeFrags_ok (l : List TApiFrag) : table_EncodeFrags l = some (if fragsOk l then (fragsB l, 0) else ([], 1)) := by
  unfold table_EncodeFrags
  by_cases hl : l.length ≤ 65536
  · rw [decide_eq_false (show ¬ (l.length : Int) > 65536 by omega), cond_false, Contains_ok, Option.bind_some]
    cases h : l.all fragOk
    · unfold fragsOk; rw [h]; rfl
    · have hf : fragsOk l = true := by unfold fragsOk; rw [h, decide_eq_true hl]; rfl
      rw [Bool.not_true, cond_false, write2_ok l hl (fragsP hf).2, hf]
      rfl
  · rw [decide_eq_true (show (l.length : Int) > 65536 by omega), cond_true]
    unfold fragsOk
    rw [decide_eq_false hl, Bool.and_false]
    rfl
theorem RightFrags_ok (l : List TApiFrag) : ref17_RightFrags l = some (fragsOk l) := by
  unfold ref17_RightFrags fragsOk
  rw [loop_any l _ (fun x => if fragOk x then none else some false) ?_ ?_]
  · have : l.findSome? (fun x => if fragOk x then none else some false) = if l.all fragOk then none else some false := by
      induction l with
      | nil => rfl
      | cons x l ih =>
        rw [List.findSome?_cons, List.all_cons]
        cases h : fragOk x
        · simp
        · simpa using ih
    rw [this, show decide ((l.length : Int) ≤ 65536) = decide (l.length ≤ 65536) from by rw [Bool.eq_iff_iff]; simp; omega]
    cases l.all fragOk
    · rfl
    · simp [bnd]
  · intro t x hx
    have hlt := (List.getElem?_eq_some_iff.1 hx).1
    unfold ref17_RightFrags_l1
    rw [decide_eq_true (by omega), cond_true, hx, Option.bind_some]
    have h : fragOk x = (!decide (x.At < 0) && (!decide (x.At > 8388608) && (!decide (x.Word < 1) && (!decide (x.Word > 4294967295) && (!decide (x.Plain < 1) && !decide (x.Plain > 1048576)))))) := by
      unfold fragOk
      rw [Bool.eq_iff_iff]
      simp
      omega
    rw [h]
    cases decide (x.At < 0) <;> cases decide (x.At > 8388608) <;> cases decide (x.Word < 1) <;> cases decide (x.Word > 4294967295) <;> cases decide (x.Plain < 1) <;> cases decide (x.Plain > 1048576) <;> rfl
  · unfold ref17_RightFrags_l1
    rw [decide_eq_false (by omega)]
    rfl
theorem FragBytes_ok (l : List TApiFrag) (hl : l.length ≤ 1000000) (h : ∀ x ∈ l, FragP x) : ref17_FragBytes l = some (fragsB l) := by
  have := loop_fold l (fun s => ref17_FragBytes_l1 l s.1 s.2) (fun b x => b ++ fragB x) id (fun b r => b.length + 12 * r.length ≤ 100000000 ∧ ∀ x ∈ r, FragP x) ?_ ?_ l.length 0 [] (by omega) (by omega) ⟨by simp; omega, by simpa using h⟩
  · unfold ref17_FragBytes
    rw [this, List.drop_zero, foldB]
    rfl
  · intro b t x hx ⟨hI, hA⟩
    have hlt := (List.getElem?_eq_some_iff.1 hx).1
    have e : x = l[t] := (List.getElem?_eq_some_iff.1 hx).2.symm
    rw [List.drop_eq_getElem_cons hlt, ← e] at hI hA
    rw [List.length_cons] at hI
    have hs := hA x (by simp)
    have ha := hs.a
    have hw := hs.w
    have hp := hs.p
    refine ⟨?_, by rw [List.length_append, fragB_len]; omega, fun y hy => hA y (by simp [hy])⟩
    have s1 : ∀ x : Int, 0 ≤ x ∧ x ≤ 4294967295 → ref01_Store (UInt64.ofInt x) 4 = some (enc 4 x.toNat) := fun x hx => refstoreI 4 (by omega) (by omega)
    unfold ref17_FragBytes_l1 fragB
    dsimp only
    rw [decide_eq_true (by omega), cond_true, hx, Option.bind_some, s1 _ (by omega), Option.bind_some, app_ok (by rw [enc_length]; omega), Option.bind_some, s1 _ (by omega), Option.bind_some, app_ok (by simp only [List.length_append, enc_length]; omega), Option.bind_some, s1 _ (by omega), Option.bind_some, app_ok (by simp only [List.length_append, enc_length]; omega)]
    simp only [List.append_assoc, Option.bind_some]
  · intro b _
    unfold ref17_FragBytes_l1
    dsimp only
    rw [decide_eq_false (by omega)]
    rfl

/-! bytes as fragments -/
def fragAt (b : List UInt8) (p : Nat) : TApiFrag := { At := ((rd b p 4 : Nat) : Int), Word := ((rd b (p + 4) 4 : Nat) : Int), Plain := ((rd b (p + 8) 4 : Nat) : Int) }
def cut12 (b : List UInt8) : Nat → Nat → List TApiFrag
  | _, 0 => []
  | p, k + 1 => fragAt b p :: cut12 b (p + 12) k
theorem Num_step {b : List UInt8} {p : Nat} (hb : b.length ≤ 1000000) (h : p + 4 ≤ b.length) : ∃ v : UInt64, field_Reader_Num ⟨b, (p : Int), 0⟩ 4 = some (v, ⟨b, ((p + 4 : Nat) : Int), 0⟩) ∧ v.toNat = rd b p 4 := by
  obtain ⟨v, r', e1, e2, e3, e4, _⟩ := Num_any (l := b) (by omega) (r := ⟨b, (p : Int), 0⟩) ⟨rfl, by dsimp only; omega, by dsimp only; omega⟩ (w := 4) (by omega)
  dsimp only at e3 e4
  have h0 := e3.2 ⟨rfl, by omega⟩
  obtain ⟨e5, e6⟩ := e4 h0
  have hr : r' = ⟨b, ((p + 4 : Nat) : Int), 0⟩ := by
    obtain ⟨b', a', e'⟩ := r'
    have g1 := e2.b
    dsimp only at g1 h0 e5
    subst g1; subst h0
    rw [e5]
    rfl
  refine ⟨v, ?_, by rw [e6, Int.toNat_natCast]; rfl⟩
  rw [← hr]
  exact e1
theorem read1_loop (b : List UInt8) (hb : b.length ≤ 1000000) : ∀ k p (out : List TApiFrag), p + 12 * k = b.length → out.length + k ≤ 1000000 → loopO (fun s => table_read1_l1 s.1 s.2.1 s.2.2.1 s.2.2.2) (b, (p : Int), 0, out) = some (out ++ cut12 b p k) := by
  intro k
  induction k with
  | zero =>
    intro p out h1 h2
    refine loop_end ?_
    show table_read1_l1 b (p : Int) 0 out = _
    unfold table_read1_l1 field_Reader_Left
    dsimp only
    rw [Option.bind_some, wI (by omega), decide_eq_false (by omega)]
    simp [cut12]
  | succ k ih =>
    intro p out h1 h2
    obtain ⟨v1, a1, a2⟩ := Num_step hb (p := p) (by omega)
    obtain ⟨v2, b1, b2⟩ := Num_step hb (p := p + 4) (by omega)
    obtain ⟨v3, c1, c2⟩ := Num_step hb (p := p + 8) (by omega)
    have h4 := rd4 b p
    have h5 := rd4 b (p + 4)
    have h6 := rd4 b (p + 8)
    refine (loop_next (s' := (b, ((p + 12 : Nat) : Int), 0, out ++ [fragAt b p])) ?_).trans ?_
    · show table_read1_l1 b (p : Int) 0 out = _
      unfold table_read1_l1 field_Reader_Left table_DecodeFrags_1
      dsimp only
      rw [Option.bind_some, wI (x := (b.length : Int) - (p : Int)) (by omega), decide_eq_true (by omega), cond_true, a1, Option.bind_some]
      dsimp only
      rw [b1, Option.bind_some]
      dsimp only
      rw [c1, Option.bind_some, Option.bind_some, a2, b2, c2, wI (by omega), wI (by omega), wI (by omega), app_ok (by simp; omega)]
      rfl
    · rw [ih (p + 12) _ (by omega) (by simp; omega), List.append_assoc]
      rfl
theorem frags_cut (b : List UInt8) : ∀ k p, p + 12 * k = b.length → fragsB (cut12 b p k) = b.drop p
  | 0, p, h => by rw [List.drop_eq_nil_of_le (by omega)]; rfl
  | k + 1, p, h => by
    have ih := frags_cut b k (p + 12) (by omega)
    have e : fragB (fragAt b p) = (b.drop p).take 12 := by
      unfold fragB fragAt
      dsimp only
      rw [Int.toNat_natCast, Int.toNat_natCast, Int.toNat_natCast, enc_rd _ _ _ (by omega), enc_rd _ _ _ (by omega), enc_rd _ _ _ (by omega)]
      have a1 : (b.drop p).take (4 + 8) = (b.drop p).take 4 ++ ((b.drop p).drop 4).take 8 := List.take_add
      have a2 : ((b.drop p).drop 4).take (4 + 4) = ((b.drop p).drop 4).take 4 ++ (((b.drop p).drop 4).drop 4).take 4 := List.take_add
      have h1 : (b.drop p).take 12 = (b.drop p).take 4 ++ (((b.drop p).drop 4).take 4 ++ ((b.drop p).drop 8).take 4) := by
        refine a1.trans ?_
        rw [List.drop_drop] at a2 ⊢
        rw [List.drop_drop] at a2
        rw [a2]
        simp only [List.drop_drop]
      rw [h1, List.drop_drop, List.drop_drop]
    show (fragAt b p :: cut12 b (p + 12) k).flatMap fragB = _
    rw [List.flatMap_cons, e]
    have ih : (cut12 b (p + 12) k).flatMap fragB = b.drop (p + 12) := ih
    rw [ih, ← List.drop_drop, List.take_append_drop]
theorem DecodeFrags_ok (b : List UInt8) (hb : b.length ≤ 786432) : table_DecodeFrags b = some (if b.length % 12 = 0 ∧ fragsOk (cut12 b 0 (b.length / 12)) = true then (cut12 b 0 (b.length / 12), 0) else ([], 6)) := by
  unfold table_DecodeFrags table_read1
  rw [chk_d (by decide), Option.bind_some, show Int.tmod (b.length : Int) 12 = ((b.length % 12 : Nat) : Int) from rfl, show Int.tdiv (b.length : Int) 12 = ((b.length / 12 : Nat) : Int) from rfl]
  by_cases h : b.length % 12 = 0
  · rw [show ((((b.length % 12 : Nat)) : Int) != 0) = false from by simp [h], cond_false, Option.bind_some, wI (by omega), decide_eq_false (by omega), cond_false, new_ok (by omega), Option.bind_some]
    have := read1_loop b (by omega) (b.length / 12) 0 [] (by omega) (by simp; omega)
    rw [List.nil_append] at this
    have this : loopO (fun s => table_read1_l1 s.1 s.2.1 s.2.2.1 s.2.2.2) (b, 0, 0, []) = some (cut12 b 0 (b.length / 12)) := this
    dsimp only
    rw [this, Option.bind_some, Option.bind_some, EncodeFrags_ok, Option.bind_some, cond_true]
    cases hc : fragsOk (cut12 b 0 (b.length / 12))
    · rw [if_neg (by decide), if_neg (c := b.length % 12 = 0 ∧ _) (by simp)]; rfl
    · have hf := frags_cut b (b.length / 12) 0 (by omega)
      rw [List.drop_zero] at hf
      rw [if_pos rfl, if_pos ⟨h, rfl⟩, hf]
      unfold bytes_Equal
      simp
  · rw [show ((((b.length % 12 : Nat)) : Int) != 0) = true from by simpa using by omega, cond_true, Option.bind_some, EncodeFrags_ok, Option.bind_some, if_neg (c := b.length % 12 = 0 ∧ _) (fun x => h x.1)]
    rfl
theorem refdecF_loop (b : List UInt8) (hb : b.length ≤ 1000000) : ∀ k p (out : List TApiFrag), p + 12 * k ≤ b.length → b.length < p + 12 * k + 12 → out.length + k ≤ 1000000 → loopO (fun s => ref17_DecodeFrags_l1 b s.1 s.2) (out, (p : Int)) = some (out ++ cut12 b p k) := by
  intro k
  induction k with
  | zero =>
    intro p out h1 h2 h3
    refine loop_end ?_
    show ref17_DecodeFrags_l1 b out (p : Int) = _
    unfold ref17_DecodeFrags_l1
    rw [wI (by omega), decide_eq_false (by omega)]
    simp [cut12]
  | succ k ih =>
    intro p out h1 h2 h3
    have ld : ∀ q : Nat, q + 4 ≤ b.length → ∃ v : UInt64, ref01_Load b (q : Int) 4 = some v ∧ v.toNat = rd b q 4 := fun q hq => by
      obtain ⟨v, e1, e2⟩ := Load_ok (b := b) (p := (q : Int)) (w := 4) (by omega) (by omega) (by omega)
      rw [Int.toNat_natCast] at e2
      exact ⟨v, e1, e2⟩
    obtain ⟨v1, a1, a2⟩ := ld p (by omega)
    obtain ⟨v2, b1, b2⟩ := ld (p + 4) (by omega)
    obtain ⟨v3, c1, c2⟩ := ld (p + 8) (by omega)
    have h4 := rd4 b p
    have h5 := rd4 b (p + 4)
    have h6 := rd4 b (p + 8)
    refine (loop_next (s' := (out ++ [fragAt b p], ((p + 12 : Nat) : Int))) ?_).trans ?_
    · show ref17_DecodeFrags_l1 b out (p : Int) = _
      unfold ref17_DecodeFrags_l1
      rw [wI (x := (p : Int) + 12) (by omega), decide_eq_true (by omega), cond_true, a1, Option.bind_some, wI (x := (p : Int) + 4) (by omega), show (p : Int) + 4 = ((p + 4 : Nat) : Int) by omega, b1, Option.bind_some, wI (x := (p : Int) + 8) (by omega), show (p : Int) + 8 = ((p + 8 : Nat) : Int) by omega, c1, Option.bind_some, a2, b2, c2, wI (by omega), wI (by omega), wI (by omega), app_ok (by simp; omega)]
      rfl
    · rw [ih (p + 12) _ (by omega) (by omega) (by simp; omega), List.append_assoc]
      rfl
theorem refDecodeFrags_ok (b : List UInt8) (hb : b.length ≤ 786432) : ref17_DecodeFrags b = some (if b.length % 12 = 0 ∧ fragsOk (cut12 b 0 (b.length / 12)) = true then (cut12 b 0 (b.length / 12), 0) else ([], 6)) := by
  unfold ref17_DecodeFrags
  have := refdecF_loop b (by omega) (b.length / 12) 0 [] (by omega) (by omega) (by simp; omega)
  rw [List.nil_append] at this
  have this : loopO (fun s => ref17_DecodeFrags_l1 b s.1 s.2) ([], 0) = some (cut12 b 0 (b.length / 12)) := this
  rw [this, Option.bind_some, show Int.tmod (b.length : Int) 12 = ((b.length % 12 : Nat) : Int) from rfl]
  by_cases h : b.length % 12 = 0
  · rw [show ((((b.length % 12 : Nat)) : Int) != 0) = false from by simp [h], cond_false, RightFrags_ok, Option.bind_some]
    cases hc : fragsOk (cut12 b 0 (b.length / 12))
    · rw [if_neg (by simp)]; rfl
    · rw [if_pos ⟨h, rfl⟩]; rfl
  · rw [show ((((b.length % 12 : Nat)) : Int) != 0) = true from by simpa using by omega, cond_true, if_neg (fun x => h x.1)]
theorem SameFrags_eq (a b : List TApiFrag) : ref17_SameFrags a b = some (decide (a = b)) := by
  unfold ref17_SameFrags
  by_cases hl : a.length = b.length
  · rw [show ((a.length : Int) != (b.length : Int)) = false from by simp [hl], cond_false]
    have key : ∀ k t, a.length - t = k → t ≤ a.length → loopO (fun s => ref17_SameFrags_l1 a b s) t = some (if a.drop t = b.drop t then .inl () else .inr false) := by
      intro k
      induction k with
      | zero =>
        intro t h1 h2
        rw [List.drop_eq_nil_of_le (by omega), List.drop_eq_nil_of_le (by omega), if_pos rfl]
        refine loop_end ?_
        unfold ref17_SameFrags_l1
        rw [decide_eq_false (by omega)]
        rfl
      | succ k ih =>
        intro t h1 h2
        have hta : t < a.length := by omega
        have htb : t < b.length := by omega
        have hq : ((a[t].At == b[t].At) && ((a[t].Word == b[t].Word) && ((a[t].Plain == b[t].Plain) && true))) = decide (a[t] = b[t]) := by
          rw [Bool.eq_iff_iff]
          simp only [Bool.and_true, Bool.and_eq_true, beq_iff_eq, decide_eq_true_eq]
          constructor
          · rintro ⟨g1, g2, g3⟩
            cases ha : a[t] with
            | mk x y z =>
              cases hb : b[t] with
              | mk x' y' z' =>
                rw [ha, hb] at g1 g2 g3
                dsimp only at g1 g2 g3
                rw [g1, g2, g3]
          · intro h; rw [h]; exact ⟨rfl, rfl, rfl⟩
        have e : ref17_SameFrags_l1 a b t = cond (decide (a[t] = b[t])) (some (.inl (t + 1))) (some (.inr (.inr false))) := by
          unfold ref17_SameFrags_l1
          rw [decide_eq_true (by omega), cond_true, List.getElem?_eq_getElem hta, Option.bind_some, List.getElem?_eq_getElem htb, Option.bind_some, hq]
        rw [List.drop_eq_getElem_cons hta, List.drop_eq_getElem_cons htb]
        by_cases hx : a[t] = b[t]
        · rw [decide_eq_true hx] at e
          rw [loop_next e, ih (t + 1) (sub1 h1) hta, hx]
          by_cases hd : a.drop (t + 1) = b.drop (t + 1)
          · rw [if_pos hd, if_pos (by rw [hd])]
          · rw [if_neg hd, if_neg (fun e => hd (List.cons.inj e).2)]
        · rw [decide_eq_false hx] at e
          rw [loop_end e, if_neg (fun e => hx (List.cons.inj e).1)]
    have := key a.length 0 (by omega) (by omega)
    rw [this, List.drop_zero, List.drop_zero]
    by_cases h : a = b
    · simp [h, bnd]
    · simp [h, bnd]
  · rw [bne_d _ _ (by omega), cond_true, decide_eq_false (fun h => hl (by rw [h]))]
theorem cut12_app (a : List UInt8) : ∀ (l : List TApiFrag) (p : Nat), p = a.length → (∀ x ∈ l, FragP x) → cut12 (a ++ fragsB l) p l.length = l
  | [], p, _, _ => rfl
  | x :: l, p, hp, h => by
    have hx := h x (by simp)
    have h1 := hx.a
    have h2 := hx.w
    have h3 := hx.p
    have e2 : a ++ fragsB (x :: l) = (a ++ fragB x) ++ fragsB l := by unfold fragsB; rw [List.flatMap_cons, List.append_assoc]
    have g : ∀ (u v : List UInt8) (q n : Nat), q = u.length → n < 4294967296 → rd (u ++ (enc 4 n ++ v)) q 4 = n := fun u v q n hq hn => by
      unfold rd
      rw [hq, List.drop_left, List.take_append_of_le_length (by rw [enc_length]; omega), List.take_of_length_le (by rw [enc_length]; omega), le_enc]
      omega
    have e : fragAt (a ++ fragsB (x :: l)) p = x := by
      have f1 : a ++ fragsB (x :: l) = a ++ (enc 4 x.At.toNat ++ (enc 4 x.Word.toNat ++ (enc 4 x.Plain.toNat ++ fragsB l))) := by
        rw [e2]; unfold fragB; simp only [List.append_assoc]
      have f2 : a ++ fragsB (x :: l) = (a ++ enc 4 x.At.toNat) ++ (enc 4 x.Word.toNat ++ (enc 4 x.Plain.toNat ++ fragsB l)) := by rw [f1]; simp only [List.append_assoc]
      have f3 : a ++ fragsB (x :: l) = (a ++ enc 4 x.At.toNat ++ enc 4 x.Word.toNat) ++ (enc 4 x.Plain.toNat ++ fragsB l) := by rw [f1]; simp only [List.append_assoc]
      have k1 : rd (a ++ fragsB (x :: l)) p 4 = x.At.toNat := by rw [f1]; exact g _ _ _ _ hp (by omega)
      have k2 : rd (a ++ fragsB (x :: l)) (p + 4) 4 = x.Word.toNat := by rw [f2]; exact g _ _ _ _ (by rw [List.length_append, enc_length]; omega) (by omega)
      have k3 : rd (a ++ fragsB (x :: l)) (p + 8) 4 = x.Plain.toNat := by rw [f3]; exact g _ _ _ _ (by simp only [List.length_append, enc_length]; omega) (by omega)
      unfold fragAt
      rw [k1, k2, k3]
      obtain ⟨xa, xw, xp⟩ := x
      dsimp only at h1 h2 h3 ⊢
      rw [show ((xa.toNat : Nat) : Int) = xa by omega, show ((xw.toNat : Nat) : Int) = xw by omega, show ((xp.toNat : Nat) : Int) = xp by omega]
    rw [List.length_cons, cut12, e, e2, cut12_app (a ++ fragB x) l (p + 12) (by rw [List.length_append, fragB_len]; omega) (fun y hy => h y (by simp [hy]))]
theorem frags_back {l : List TApiFrag} (h : fragsOk l = true) : table_DecodeFrags (fragsB l) = some (l, 0) := by
  obtain ⟨hl, hp⟩ := fragsP h
  have hlen := fragsB_len l
  have e : cut12 (fragsB l) 0 ((fragsB l).length / 12) = l := by
    rw [hlen, show 12 * l.length / 12 = l.length by omega]
    have := cut12_app [] l 0 rfl hp
    rwa [List.nil_append] at this
  rw [DecodeFrags_ok _ (by omega), e, if_pos ⟨by omega, h⟩]
theorem TableFrags_pure (l : List TApiFrag) (_ : (rSl rApiFrag).wf l) (b : List UInt8) (_ : (rSl rU8).wf b) : law17_TableFrags l b = some true := by
  have main : (b.length ≤ 3000) → (l.length ≤ 1000 ∨ 65536 < l.length) → (Option.bind (table_EncodeFrags l) fun encode1 =>
      Option.bind (ref17_RightFrags l) fun rightF1 =>
      bnd
      (cond rightF1
      (Option.bind (table_DecodeFrags encode1.1) fun decode3 =>
      cond ((IntKind.i64.wrap ((law17_num encode1.2) + (law17_num decode3.2))) != 0)
      (some (.inr false))
      (Option.bind (ref17_FragBytes l) fun fragBy1 =>
      cond (encode1.1 != fragBy1)
      (some (.inr false))
      (Option.bind (ref17_SameFrags decode3.1 l) fun sameFr2 =>
      cond sameFr2
      (some (.inl ()))
      (some (.inr false)))))
      (cond ((law17_num encode1.2) != 1)
      (some (.inr false))
      (cond ((encode1.1.length : Int) != 0)
      (some (.inr false))
      (some (.inl ()))))) fun (_ : Unit) =>
      Option.bind (table_DecodeFrags b) fun decode4 =>
      Option.bind (ref17_DecodeFrags b) fun decode5 =>
      Option.bind (ref17_SameFrags decode4.1 decode5.1) fun sameFr3 =>
      cond sameFr3
      (cond ((law17_num decode4.2) == decode5.2)
      (Option.bind law17_live fun live4 =>
      some live4)
      (some false))
      (some false)) = some true := by
    intro hb hl
    have tail : (Option.bind (table_DecodeFrags b) fun decode4 =>
      Option.bind (ref17_DecodeFrags b) fun decode5 =>
      Option.bind (ref17_SameFrags decode4.1 decode5.1) fun sameFr3 =>
      cond sameFr3
      (cond ((law17_num decode4.2) == decode5.2)
      (Option.bind law17_live fun live4 =>
      some live4)
      (some false))
      (some false)) = some true := by
      rw [DecodeFrags_ok b (by omega), refDecodeFrags_ok b (by omega), Option.bind_some, Option.bind_some, SameFrags_eq, live17]
      unfold law17_num
      simp
    rw [EncodeFrags_ok, RightFrags_ok, Option.bind_some, Option.bind_some]
    cases hc : fragsOk l
    · rw [if_neg (by decide), cond_false, show ((law17_num (([] : List UInt8), (1 : Int)).2) != 1) = false from rfl, cond_false, show (((([] : List UInt8), (1 : Int)).1.length : Int) != 0) = false from rfl, cond_false, bnd_inl]
      exact tail
    · obtain ⟨hl2, hp⟩ := fragsP hc
      rw [if_pos rfl, cond_true]
      dsimp only
      rw [frags_back hc, Option.bind_some, show (IntKind.i64.wrap ((law17_num (0 : Int)) + (law17_num ((l, (0 : Int)).2))) != 0) = false from (by decide : (IntKind.i64.wrap ((0 : Int) + 0) != 0) = false), cond_false, FragBytes_ok l (by omega) hp, Option.bind_some, show (fragsB l != fragsB l) = false from by simp, cond_false, SameFrags_eq, decide_eq_true rfl, Option.bind_some, cond_true, bnd_inl]
      exact tail
  unfold law17_TableFrags
  by_cases h1 : l.length > 1000
  · rw [decide_eq_true (show (l.length : Int) > 1000 by omega), cond_true]
    by_cases h2 : l.length ≤ 65536
    · rw [decide_eq_true (by omega), cond_true, live17]; rfl
    · rw [decide_eq_false (by omega), cond_false]
      by_cases h3 : b.length > 3000
      · rw [decide_eq_true (by omega), cond_true, live17]; rfl
      · rw [decide_eq_false (by omega), cond_false]
        exact main (by omega) (.inr (by omega))
  · rw [decide_eq_false (show ¬ (l.length : Int) > 1000 by omega), cond_false]
    by_cases h3 : b.length > 3000
    · rw [decide_eq_true (by omega), cond_true, live17]; rfl
    · rw [decide_eq_false (by omega), cond_false]
      exact main (by omega) (.inl (by omega))
end Go.Proofs.Ytgoedcjjckdlpaa.F
