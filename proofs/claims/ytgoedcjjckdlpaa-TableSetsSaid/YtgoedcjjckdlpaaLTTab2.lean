/- Tables in plain words: sets of attributes, the page's example. -/
import Derived.Test.YtgoedcjjckdlpaaLTTab1
import Derived.Test.YtgoedcjjckdlpaaLTStore
import Derived.Test.YtgoedcjjckdlpaaLTRd
import Derived.Test.YtgoedcjjckdlpaaLTReader0
set_option linter.unusedVariables false
set_option linter.unusedSimpArgs false
namespace Go.Proofs.Ytgoedcjjckdlpaa.F
open Go Go.RowKit Go.Proofs.Ytgoedcjjckdlpaa.K

def wr (b : List UInt8) : TFieldWriter := { f_b := b, f_most := 16777216, f_e := 0 }
theorem newWriter : field_NewWriter 16777216 = wr [] := rfl
theorem wright_ok {b : List UInt8} {more : Int} (h : 0 ≤ more ∧ b.length + more ≤ 16777216) : field_Writer_right (wr b) 0 more = some (true, wr b) := by
  unfold field_Writer_right wr
  dsimp only
  rw [show ((0 : Int) != 0) = false from rfl, cond_false, show ((0 : Int) == 0) = true from rfl, cond_true, wI (by omega), decide_eq_false (by omega)]
  rfl
theorem WNum_ok {b : List UInt8} {n : UInt64} {w : Nat} (hw : w = 1 ∨ w = 2 ∨ w = 4 ∨ w = 8) (hn : n.toNat < 256 ^ w) (h : b.length + w ≤ 16777216) : field_Writer_Num (wr b) n (w : Int) = some (wr (b ++ enc w n.toNat)) := by
  unfold field_Writer_Num
  rw [wide_ok hw, cond_true, fits_ok hw, decide_eq_true hn]
  simp only [Option.bind_some, cond_true]
  rw [wright_ok (by omega)]
  simp only [Option.bind_some, cond_true]
  rw [show (wr b).f_b = b from rfl, store_eq n w (by omega) b (by omega)]
  rfl
theorem WBytes_ok {b x : List UInt8} (h : b.length + x.length ≤ 16777216) : field_Writer_Bytes (wr b) x = some (wr (b ++ x)) := by
  unfold field_Writer_Bytes
  rw [wright_ok (by omega)]
  simp only [Option.bind_some, cond_true]
  rw [show (wr b).f_b = b from rfl, app_ok (by omega)]
  rfl
theorem ofI64 (n : Nat) (h : n < 18446744073709551616) : (UInt64.ofInt (n : Int)).toNat = n := by rw [ofInt_nat (by omega), Int.toNat_natCast]
theorem WText_ok {b x : List UInt8} (hx : x.length ≤ 65535) (h : b.length + x.length + 2 ≤ 16777216) : field_Writer_Text (wr b) x = some (wr (b ++ (enc 2 x.length ++ x))) := by
  unfold field_Writer_Text
  rw [decide_eq_false (by omega), cond_false]
  have e : (if (65535 : Int) < (x.length : Int) then 65535 else (x.length : Int)) = (x.length : Int) := if_neg (by omega)
  rw [e, wright_ok (by omega)]
  simp only [Option.bind_some, cond_true]
  rw [show (wr b).f_b = b from rfl, show (2 : Int) = ((2 : Nat) : Int) from rfl, store_eq _ 2 (by omega) b (by omega), ofI64 _ (by omega), Option.bind_some, app_ok (by rw [List.length_append, enc_length]; omega), Option.bind_some, List.append_assoc]
  rfl
theorem Done_ok {b : List UInt8} (h : b.length ≤ 100000000000) : field_Writer_Done (wr b) = some (b, 0) := by
  unfold field_Writer_Done
  rw [show ((wr b).f_e != 0) = false from rfl, cond_false, show (wr b).f_b = b from rfl, copied_ok h]
  rfl
/-- An attribute's bytes. -/
def attrB (a : TApiAttr) : List UInt8 := enc 1 a.Name.length ++ (a.Name ++ (enc 2 a.Value.length ++ a.Value))
theorem attrB_len (a : TApiAttr) : (attrB a).length = 3 + a.Name.length + a.Value.length := by
  unfold attrB; simp only [List.length_append, enc_length]; omega
theorem Enc1_ok {b : List UInt8} {a : TApiAttr} (h1 : a.Name.length ≤ 255) (h2 : a.Value.length ≤ 65535) (h : b.length + (attrB a).length ≤ 16777216) : table_EncodeAttrs_1 (wr b) a = some (wr (b ++ attrB a)) := by
  rw [attrB_len] at h
  unfold table_EncodeAttrs_1
  have := WNum_ok (b := b) (n := UInt64.ofInt (a.Name.length : Int)) (w := 1) (.inl rfl) (by rw [ofI64 _ (by omega)]; omega) (by omega)
  rw [show (1 : Int) = ((1 : Nat) : Int) from rfl, this, Option.bind_some, ofI64 _ (by omega), WBytes_ok (by rw [List.length_append, enc_length]; omega), Option.bind_some, WText_ok h2 (by simp only [List.length_append, enc_length]; omega), Option.bind_some]
  unfold attrB
  simp only [List.append_assoc]
/-! which sets are right -/
def rightA (last : List UInt8) : List TApiAttr → Bool
  | [] => true
  | a :: r => (decide (1 ≤ a.Name.length) && (decide (a.Name.length ≤ 255) && (!a.Name.contains 0 && (!leB a.Name last && (decide (a.Value.length ≤ 4096) && rightA a.Name r)))))
theorem btw (n a b : Int) : table_between n a b = (decide (a ≤ n) && decide (n ≤ b)) := by
  unfold table_between
  by_cases h : n ≥ a
  · rw [decide_eq_true h, cond_true, Bool.true_and]
  · rw [decide_eq_false h, cond_false, Bool.false_and]
theorem ixb_no (s : List UInt8) : (decide (strings_IndexByte s 0 ≥ 0)) = s.contains 0 := by
  have h : (decide (strings_IndexByte s 0 < 0)) = !s.contains 0 := ixb_none s 0
  have : (decide (strings_IndexByte s 0 ≥ 0)) = !(decide (strings_IndexByte s 0 < 0)) := by rw [Bool.eq_iff_iff]; simp
  rw [this, h, Bool.not_not]
theorem right_loop (l : List TApiAttr) : ∀ k t last, l.length - t = k → t ≤ l.length → loopO (fun s => table_right_l1 l s.1 s.2) (last, t) = some (if rightA last (l.drop t) then .inl () else .inr false) := by
  intro k
  induction k with
  | zero =>
    intro t last h1 h2
    have : t = l.length := by omega
    subst this
    rw [List.drop_length]
    refine loop_end ?_
    show table_right_l1 l last l.length = _
    unfold table_right_l1
    rw [decide_eq_false (by omega)]
    rfl
  | succ k ih =>
    intro t last h1 h2
    have hlt : t < l.length := by omega
    obtain ⟨a, ha⟩ : ∃ a, a = l[t] := ⟨_, rfl⟩
    have hx := List.getElem?_eq_getElem hlt
    rw [← ha] at hx
    have hd : l.drop t = a :: l.drop (t + 1) := by rw [ha]; exact List.drop_eq_getElem_cons hlt
    rw [hd, rightA]
    obtain ⟨c, hc⟩ : ∃ c, c = (decide (1 ≤ a.Name.length) && (decide (a.Name.length ≤ 255) && (!a.Name.contains 0 && (!leB a.Name last && decide (a.Value.length ≤ 4096))))) := ⟨_, rfl⟩
    have hb : table_right_l1 l last t = if c then some (.inl (a.Name, t + 1)) else some (.inr (.inr false)) := by
      unfold table_right_l1
      rw [decide_eq_true (by omega), cond_true, hx, Option.bind_some, btw, ixb_no, show decide ((a.Value.length : Int) > 4096) = !decide (a.Value.length ≤ 4096) from by rw [Bool.eq_iff_iff]; simp; omega, show decide ((1 : Int) ≤ (a.Name.length : Int)) = decide (1 ≤ a.Name.length) from by rw [Bool.eq_iff_iff]; simp; omega, show decide ((a.Name.length : Int) ≤ 255) = decide (a.Name.length ≤ 255) from by rw [Bool.eq_iff_iff]; simp; omega, hc]
      cases decide (1 ≤ a.Name.length) <;> cases decide (a.Name.length ≤ 255) <;> cases a.Name.contains 0 <;> cases leB a.Name last <;> cases decide (a.Value.length ≤ 4096) <;> rfl
    have hr : (decide (1 ≤ a.Name.length) && (decide (a.Name.length ≤ 255) && (!a.Name.contains 0 && (!leB a.Name last && (decide (a.Value.length ≤ 4096) && rightA a.Name (l.drop (t + 1))))))) = (c && rightA a.Name (l.drop (t + 1))) := by
      rw [hc]; simp only [Bool.and_assoc]
    rw [hr]
    cases hcc : c
    · rw [hcc] at hb
      rw [loop_end hb]
      rfl
    · rw [hcc] at hb
      rw [loop_next (s' := (a.Name, t + 1)) hb, ih (t + 1) a.Name (by omega) (by omega), Bool.true_and]
theorem tright_ok (l : List TApiAttr) : table_right l = some (rightA [] l && (decide (1 ≤ l.length) && decide (l.length ≤ 64))) := by
  unfold table_right
  rw [right_loop l l.length 0 [] (by omega) (by omega), List.drop_zero, btw]
  cases rightA [] l
  · rfl
  · rw [if_pos rfl, bnd_inl, Bool.true_and]
    congr 2
    · rw [Bool.eq_iff_iff]; simp; omega
    · rw [Bool.eq_iff_iff]; simp; omega
theorem rightA_each : ∀ (l : List TApiAttr) (last : List UInt8), rightA last l = true → ∀ a ∈ l, 1 ≤ a.Name.length ∧ a.Name.length ≤ 255 ∧ a.Value.length ≤ 4096
  | [], _, _ => by simp
  | x :: l, last, h => by
    unfold rightA at h
    simp only [Bool.and_eq_true, decide_eq_true_eq] at h
    obtain ⟨h1, h2, _, _, h5, h6⟩ := h
    intro a ha
    rcases List.mem_cons.1 ha with rfl | ha
    · exact ⟨h1, h2, h5⟩
    · exact rightA_each l x.Name h6 a ha
def attrsB (l : List TApiAttr) : List UInt8 := l.flatMap attrB
theorem foldB {α : Type} (f : α → List UInt8) : ∀ (l : List α) (b : List UInt8), l.foldl (fun b a => b ++ f a) b = b ++ l.flatMap f
  | [], b => by simp
  | x :: l, b => by rw [List.foldl_cons, foldB f l, List.flatMap_cons, List.append_assoc]
theorem write1_ok (l : List TApiAttr) (hl : l.length ≤ 64) (h : ∀ a ∈ l, a.Name.length ≤ 255 ∧ a.Value.length ≤ 4096) : table_write1 l = some (attrsB l) := by
  have key : ∀ k t (b : List UInt8), l.length - t = k → t ≤ l.length → b.length + 5000 * (l.length - t) ≤ 10000000 → loopO (fun s => table_write1_l1 l s.1 s.2.1 s.2.2.1 s.2.2.2) (b, 16777216, 0, t) = some (b ++ attrsB (l.drop t), 16777216, 0) := by
    intro k
    induction k with
    | zero =>
      intro t b h1 h2 h3
      have : t = l.length := by omega
      subst this
      rw [List.drop_length]
      refine loop_end ?_
      show table_write1_l1 l b 16777216 0 l.length = _
      unfold table_write1_l1
      rw [decide_eq_false (by omega)]
      simp [attrsB]
    | succ k ih =>
      intro t b h1 h2 h3
      have hlt : t < l.length := by omega
      obtain ⟨a, ha⟩ : ∃ a, a = l[t] := ⟨_, rfl⟩
      have hx := List.getElem?_eq_getElem hlt
      rw [← ha] at hx
      have hd : l.drop t = a :: l.drop (t + 1) := by rw [ha]; exact List.drop_eq_getElem_cons hlt
      have hs := h a (by rw [ha]; exact List.getElem_mem hlt)
      have hal := attrB_len a
      refine (loop_next (s' := (b ++ attrB a, 16777216, 0, t + 1)) ?_).trans ?_
      · show table_write1_l1 l b 16777216 0 t = _
        unfold table_write1_l1
        rw [decide_eq_true (by omega), cond_true, hx, Option.bind_some]
        have : table_EncodeAttrs_1 ({ f_b := b, f_most := 16777216, f_e := 0 } : TFieldWriter) a = some (wr (b ++ attrB a)) := Enc1_ok hs.1 (by omega) (by omega)
        rw [this]
        rfl
      · rw [ih (t + 1) _ (by omega) (by omega) (by rw [List.length_append]; omega), hd, List.append_assoc]
        rfl
  unfold table_write1
  rw [newWriter]
  have := key l.length 0 [] (by omega) (by omega) (by simp; omega)
  rw [List.drop_zero, List.nil_append] at this
  have hlen : (attrsB l).length ≤ 5000 * l.length := by
    clear this key hl
    induction l with
    | nil => simp [attrsB]
    | cons a l ih =>
      have := ih (fun a ha => h a (by simp [ha]))
      have := attrB_len a
      have := h a (by simp)
      unfold attrsB at *
      rw [List.flatMap_cons, List.length_append, List.length_cons]
      omega
  show Option.bind (loopO _ ([], 16777216, 0, 0)) _ = _
  rw [this, Option.bind_some]
  have : field_Writer_Done ({ f_b := attrsB l, f_most := 16777216, f_e := 0 } : TFieldWriter) = some (attrsB l, 0) := Done_ok (b := attrsB l) (by omega)
  dsimp only
  rw [this]
  rfl
theorem attrsB_len {l : List TApiAttr} (h : ∀ a ∈ l, a.Name.length ≤ 255 ∧ a.Value.length ≤ 4096) : (attrsB l).length ≤ 5000 * l.length := by
  induction l with
  | nil => simp [attrsB]
  | cons a l ih =>
    have := ih (fun a ha => h a (by simp [ha]))
    have := attrB_len a
    have := h a (by simp)
    unfold attrsB at *
    rw [List.flatMap_cons, List.length_append, List.length_cons]
    omega
/-- Is it a set? -/
def setB (l : List TApiAttr) : Bool := rightA [] l && (decide (1 ≤ l.length) && decide (l.length ≤ 64))
theorem EncodeAttrs_ok (l : List TApiAttr) : table_EncodeAttrs l = some (if setB l then (enc 2 l.length ++ attrsB l, 0) else ([], 1)) := by
  unfold table_EncodeAttrs setB
  rw [tright_ok]
  by_cases h : l.length ≤ 64
  · rw [decide_eq_false (show ¬ (l.length : Int) > 64 by omega), cond_false, Option.bind_some]
    cases hr : (rightA [] l && (decide (1 ≤ l.length) && decide (l.length ≤ 64)))
    · rfl
    · simp only [Bool.and_eq_true] at hr
      have he := rightA_each l [] hr.1
      have hp := Put_ok (b := []) (n := UInt64.ofInt (l.length : Int)) (w := 2) (.inr (.inl rfl)) (by rw [ofI64 _ (by omega)]; omega) (by simp)
      have hlen := attrsB_len (fun a ha => (he a ha).2)
      rw [cond_true, if_pos rfl, show (2 : Int) = ((2 : Nat) : Int) from rfl, hp, Option.bind_some, ofI64 _ (by omega), write1_ok l h (fun a ha => (he a ha).2), Option.bind_some, List.nil_append, app_ok (by rw [enc_length]; omega)]
      rfl
  · rw [decide_eq_true (show (l.length : Int) > 64 by omega), cond_true, decide_eq_false h]
    simp
theorem live17 : law17_live = some true := by
  unfold law17_live
  rw [EncodeAttrs_ok, show setB [({ Name := ([107] : List UInt8), Value := ([(118 : UInt8)] : List UInt8) } : TApiAttr)] = true from by decide, if_pos rfl, Option.bind_some]
  obtain ⟨r, h1, h2⟩ := Ids_ok [5, 0, 5] (by decide)
  have h3 : r = [0, 5] := h2.eq ⟨by simp, by intro x; simp; omega⟩
  rw [h1, h3, Option.bind_some, SameInts_eq]
  rfl
theorem TableIds_pure (l : List Int) (_ : (rSl rI64).wf l) (id : Int) (_ : rI64.wf id) : law17_TableIds l id = some true := by
  unfold law17_TableIds
  rw [live17]
  by_cases hl : l.length ≤ 300
  · obtain ⟨r, h1, h2⟩ := Ids_ok l (by omega)
    obtain ⟨s, h3, h4⟩ := refIds_ok l (by omega)
    have e : r = s := h2.eq h4
    subst e
    rw [decide_eq_false (by omega), cond_false, app_ok (by simp; omega), Option.bind_some, List.nil_append, h1, Option.bind_some, h3, Option.bind_some, SameInts_eq, Option.bind_some, SameInts_eq, show (r == r) = true from by simp, show (l == l) = true from by simp, cond_true, Option.bind_some, Option.bind_some]
    simp only [Bool.not_true, cond_false]
    unfold table_Place
    rw [Index_ok, Option.bind_some, Option.bind_some]
    cases hf : l.findIdx? (fun x => id == x) with
    | none =>
      have hn : ∀ x ∈ l, (x == id) = false := by
        intro x hx
        have := List.findIdx?_eq_none_iff.1 hf x hx
        simp only [beq_eq_false_iff_ne] at this ⊢
        exact fun e => this e.symm
      have hloop : loopO (fun s => law17_TableIds_l1 l id ((-1 : Int) |> fun i => ((if 0 > i then 0 else i), (decide (i ≥ 0)))) s) 0 = some (.inl ()) := by
        have := loop_any l (fun s => law17_TableIds_l1 l id ((-1 : Int) |> fun i => ((if 0 > i then 0 else i), (decide (i ≥ 0)))) s) (fun x => (none : Option Bool)) (fun t x hx => by
          have hlt := (List.getElem?_eq_some_iff.1 hx).1
          unfold law17_TableIds_l1
          rw [decide_eq_true (by omega), cond_true, hx, Option.bind_some, hn x (List.mem_of_getElem? hx)]
          rfl) (by
          unfold law17_TableIds_l1
          rw [decide_eq_false (by omega)]
          rfl)
        rw [this]
        have : l.findSome? (fun x => (none : Option Bool)) = none := by simp
        rw [this]
      dsimp only at hloop ⊢
      rw [hloop]
      rfl
    | some i =>
      obtain ⟨hi, hid, hbefore⟩ := List.findIdx?_eq_some_iff_getElem.1 hf
      have e : (if (0 : Int) > (i : Int) then 0 else (i : Int)) = (i : Int) := if_neg (by omega)
      have hloop : ∀ k t, i - t = k → t ≤ i → loopO (fun s => law17_TableIds_l1 l id ((i : Int), (decide ((i : Int) ≥ 0))) s) t = some (.inr true) := by
        intro k
        induction k with
        | zero =>
          intro t g1 g2
          have : t = i := by omega
          subst this
          refine loop_end ?_
          unfold law17_TableIds_l1
          rw [decide_eq_true (by omega), cond_true, List.getElem?_eq_getElem hi, Option.bind_some, show (l[t] == id) = true from by rw [beq_iff_eq]; exact (eq_of_beq hid).symm, cond_true, decide_eq_true (by omega), cond_true, show ((t : Int) == (t : Int)) = true from by simp, cond_true, live17]
          rfl
        | succ k ih =>
          intro t g1 g2
          have hlt : t < l.length := by omega
          refine (loop_next (s' := t + 1) ?_).trans (ih (t + 1) (by omega) (by omega))
          unfold law17_TableIds_l1
          have hb := hbefore t (by omega)
          rw [decide_eq_true (by omega), cond_true, List.getElem?_eq_getElem hlt, Option.bind_some, show (l[t] == id) = false from by
            simp only [Bool.not_eq_true, beq_eq_false_iff_ne] at hb ⊢
            exact fun e => hb e.symm]
          rfl
      dsimp only
      rw [e, hloop i 0 (by omega) (by omega)]
      rfl
  · rw [decide_eq_true (by omega)]
    rfl
end Go.Proofs.Ytgoedcjjckdlpaa.F
