/- Acts in plain words: lines, scripts as texts. -/
import Derived.Test.YtgoedcjjckdlpaaDoorLSScr
set_option linter.unusedVariables false
set_option linter.unusedSimpArgs false
namespace Go.Proofs.YtgoedcjjckdlpaaDoor.F
open Go Go.RowKit Go.Proofs.YtgoedcjjckdlpaaDoor.K

/-- What a line is made of. -/
structure Line (a : TApiAct) (W : List (List UInt8)) : Prop where
  w : script_words a = some W
  r : ref31_Line a = some (Lib.join W [32] ++ [10])
  n : W.length ≤ 10
  l : (Lib.join W [32]).length ≤ 9200
theorem join3 (x y z : List UInt8) : Lib.join [x, y, z] [32] = x ++ (32 :: y) ++ (32 :: z) := by rw [Lib.join_cons]; simp [Lib.joinTail]
theorem join2 (x y : List UInt8) : Lib.join [x, y] [32] = x ++ (32 :: y) := by rw [Lib.join_cons]; simp [Lib.joinTail]
theorem join1 (x : List UInt8) : Lib.join [x] [32] = x := Lib.join_one x [32]
theorem good_of {a : TApiAct} (h : chkS a = 0) : good a ∧ rangesB a = true := by
  unfold chkS at h
  by_cases hg : good a
  · rw [if_pos hg] at h
    by_cases hr : rangesB a = true
    · exact ⟨hg, hr⟩
    · rw [if_neg hr] at h; exact absurd h (by decide)
  · rw [if_neg hg] at h; exact absurd h (by decide)
theorem chkI {n : Int} (h : inR n) : chk (decide (-9223372036854775808 ≤ n ∧ n ≤ 9223372036854775807)) = some () := chk_d (by unfold inR at h; omega)
theorem line1 {a : TApiAct} (h : a.Do = 1) (hr : inR a.Len) : ∃ W, Line a W := by
  obtain ⟨k, hk⟩ := dg_ex (b := 16) (by omega) a.Sum.toNat
  have hk16 : k ≤ 16 := dg_le hk (j := 16) (by have := a.Sum.toNat_lt; omega) (by omega) (by omega)
  have hil := itoa_len hr
  have hp : Lib.repeatL ([48] : List UInt8) (16 - ((pd 16 k a.Sum.toNat).length : Int)).toNat ++ pd 16 k a.Sum.toNat = pd 16 16 a.Sum.toNat := by
    rw [rep48, pd_len, show (16 - (k : Int)).toNat = 16 - k by omega, ← pd_pad (by omega) (16 - k) k _ hk.2.1, show k + (16 - k) = 16 by omega]
  have h16 := pd_len 16 16 a.Sum.toNat
  refine ⟨[[98, 101, 103, 105, 110], Lib.itoa a.Len, pd 16 16 a.Sum.toNat], ?_, ?_, by simp, ?_⟩
  · unfold script_words
    rw [show (a.Do != 7) = true from by simp [h], cond_true, show idx script_actWords a.Do = some [98, 101, 103, 105, 110] from by rw [h]; rfl, Option.bind_some, show (a.Do == 1) = true from by simp [h], cond_true, FormatUint16 hk, Option.bind_some, chkI hr, Option.bind_some, chk_d (by rw [pd_len]; refine ⟨by omega, by omega, ?_⟩; simp; omega), Option.bind_some, cat_ok (by rw [← List.length_append, hp]; omega), hp, Option.bind_some, app_ok (by simp)]
    rfl
  · unfold ref31_Line ref31_word
    rw [show (a.Do == 7) = false from by simp [h], cond_false, h]
    rw [show idx ([([] : List UInt8), ([98, 101, 103, 105, 110] : List UInt8), ([99, 104, 117, 110, 107] : List UInt8), ([102, 105, 110, 105, 115, 104] : List UInt8), ([97, 98, 111, 114, 116] : List UInt8), ([97, 114, 109] : List UInt8), ([114, 101, 98, 111, 111, 116] : List UInt8)]) 1 = some [98, 101, 103, 105, 110] from rfl]
    simp only [Option.bind_some, beq_self_eq_true, cond_true]
    rw [cat_ok (by simp), Option.bind_some, Digits10 hr, Option.bind_some, cat_ok (by simp; omega), Option.bind_some, cat_ok (by simp; omega), Option.bind_some, sixteen_ok, Option.bind_some, cat_ok (by simp [h16]; omega), Option.bind_some, cat_ok (by simp [h16]; omega), Option.bind_some, join3]
    simp
  · rw [join3]; simp [h16]; omega
theorem line2 {a : TApiAct} (h : a.Do = 2) (hs : Small a) : ∃ W, Line a W := by
  have hl := hexS_len a.Bytes
  have hb := hs.b
  refine ⟨[[99, 104, 117, 110, 107], hexS a.Bytes], ?_, ?_, by simp, ?_⟩
  · unfold script_words
    rw [show (a.Do != 7) = true from by simp [h], cond_true, show idx script_actWords a.Do = some [99, 104, 117, 110, 107] from by rw [h]; rfl, Option.bind_some, show (a.Do == 1) = false from by simp [h], cond_false, show (a.Do == 2) = true from by simp [h], cond_true, hex_ok _ (by omega), Option.bind_some, app_ok (by simp)]
    rfl
  · unfold ref31_Line ref31_word
    rw [show (a.Do == 7) = false from by simp [h], cond_false, h]
    rw [show idx ([([] : List UInt8), ([98, 101, 103, 105, 110] : List UInt8), ([99, 104, 117, 110, 107] : List UInt8), ([102, 105, 110, 105, 115, 104] : List UInt8), ([97, 98, 111, 114, 116] : List UInt8), ([97, 114, 109] : List UInt8), ([114, 101, 98, 111, 111, 116] : List UInt8)]) 2 = some [99, 104, 117, 110, 107] from rfl]
    rw [show ((2 : Int) == 1) = false from rfl, show ((2 : Int) == 2) = true from rfl]
    simp only [Option.bind_some, cond_true, cond_false]
    rw [cat_ok (by simp), Option.bind_some, refhex_ok _ (by omega), Option.bind_some, cat_ok (by simp; omega), Option.bind_some, Option.bind_some, cat_ok (by simp; omega), Option.bind_some, join2]
    simp
  · rw [join2]; simp; omega
theorem line5 {a : TApiAct} (h : a.Do = 5) (hr : inR a.Crash.After) (hs : Small a) : Line a [[97, 114, 109], Lib.itoa a.Crash.After, hexS a.Crash.Torn] := by
  have hl := hexS_len a.Crash.Torn
  have hb := hs.t
  have hil := itoa_len hr
  refine ⟨?_, ?_, by simp, ?_⟩
  · unfold script_words
    rw [show (a.Do != 7) = true from by simp [h], cond_true, show idx script_actWords a.Do = some [97, 114, 109] from by rw [h]; rfl, Option.bind_some, show (a.Do == 1) = false from by simp [h], cond_false, show (a.Do == 2) = false from by simp [h], cond_false, show (a.Do == 5) = true from by simp [h], cond_true, chkI hr, Option.bind_some, hex_ok _ (by omega), Option.bind_some, app_ok (by simp)]
    rfl
  · unfold ref31_Line ref31_word
    rw [show (a.Do == 7) = false from by simp [h], cond_false, h]
    rw [show idx ([([] : List UInt8), ([98, 101, 103, 105, 110] : List UInt8), ([99, 104, 117, 110, 107] : List UInt8), ([102, 105, 110, 105, 115, 104] : List UInt8), ([97, 98, 111, 114, 116] : List UInt8), ([97, 114, 109] : List UInt8), ([114, 101, 98, 111, 111, 116] : List UInt8)]) 5 = some [97, 114, 109] from rfl]
    rw [show ((5 : Int) == 1) = false from rfl, show ((5 : Int) == 2) = false from rfl, show ((5 : Int) == 5) = true from rfl]
    simp only [Option.bind_some, cond_true, cond_false]
    rw [cat_ok (by simp), Option.bind_some, Digits10 hr, Option.bind_some, cat_ok (by simp; omega), Option.bind_some, cat_ok (by simp; omega), Option.bind_some, refhex_ok _ (by omega), Option.bind_some, cat_ok (by simp; omega), Option.bind_some, Option.bind_some, cat_ok (by simp; omega), Option.bind_some, join3]
    simp
  · rw [join3]; simp; omega
theorem line0 {a : TApiAct} (h : a.Do = 3 ∨ a.Do = 4 ∨ a.Do = 6) : ∃ W, Line a W := by
  rcases h with h | h | h
  · refine ⟨[[102, 105, 110, 105, 115, 104]], ?_, ?_, by simp, by rw [join1]; simp⟩
    · unfold script_words; simp [h]; rfl
    · unfold ref31_Line ref31_word
      rw [join1, h]; rfl
  · refine ⟨[[97, 98, 111, 114, 116]], ?_, ?_, by simp, by rw [join1]; simp⟩
    · unfold script_words; simp [h]; rfl
    · unfold ref31_Line ref31_word
      rw [join1, h]; rfl
  · refine ⟨[[114, 101, 98, 111, 111, 116]], ?_, ?_, by simp, by rw [join1]; simp⟩
    · unfold script_words; simp [h]; rfl
    · unfold ref31_Line ref31_word
      rw [join1, h]; rfl
/-! calls -/
theorem nums_loop (a : TApiAct) (x : List UInt8) (hn : ∀ n ∈ script_numbers a.Call, inR n) (hl : (script_numbers a.Call).length ≤ 3) : loopO (fun s => script_words_l1 a s.1 s.2) ([x], 0) = some ([x] ++ (script_numbers a.Call).map Lib.itoa) := by
  have := loop_fold (script_numbers a.Call) (fun s => script_words_l1 a s.1 s.2) (fun b n => b ++ [Lib.itoa n]) id (fun b r => b.length + r.length ≤ 10 ∧ ∀ n ∈ r, inR n) ?_ ?_ (script_numbers a.Call).length 0 [x] (by omega) (by omega) ⟨by simp; omega, by simpa using hn⟩
  · rw [this, List.drop_zero]
    have : ∀ (l : List Int) (b : List (List UInt8)), l.foldl (fun b n => b ++ [Lib.itoa n]) b = b ++ l.map Lib.itoa := by
      intro l
      induction l with
      | nil => intro b; simp
      | cons n l ih => intro b; rw [List.foldl_cons, ih, List.map_cons, List.append_assoc]; rfl
    rw [this]
    rfl
  · intro b t n hx ⟨hI, hA⟩
    have hlt := (List.getElem?_eq_some_iff.1 hx).1
    have e : n = (script_numbers a.Call)[t] := (List.getElem?_eq_some_iff.1 hx).2.symm
    rw [List.drop_eq_getElem_cons hlt, ← e] at hI hA
    rw [List.length_cons] at hI
    refine ⟨?_, by rw [List.length_append, List.length_cons, List.length_nil]; omega, fun y hy => hA y (by simp [hy])⟩
    show script_words_l1 a b t = _
    unfold script_words_l1
    rw [decide_eq_true (by omega), cond_true, hx, Option.bind_some, chkI (hA n (by simp)), Option.bind_some, app_ok (by rw [List.length_cons, List.length_nil]; omega)]
    rfl
  · intro b _
    show script_words_l1 a b (script_numbers a.Call).length = _
    unfold script_words_l1
    rw [decide_eq_false (by omega)]
    rfl
def callTail (a : TApiAct) : List (List UInt8) := (if ref31_named a.Call.Do then [Qt a.Call.Name] else []) ++ (if a.Call.Do = 8 ∧ a.Call.On = true then [[111, 110]] else [])
theorem callW_ok {a : TApiAct} {x : List UInt8} (h : a.Do = 7) (hx : idx script_callWords a.Call.Do = some x) (hn : ∀ n ∈ script_numbers a.Call, inR n) (hl : (script_numbers a.Call).length ≤ 3) (hs : Small a) : script_words a = some ([x] ++ (script_numbers a.Call).map Lib.itoa ++ callTail a) := by
  have hnm := hs.n
  unfold script_words callTail
  rw [show (a.Do != 7) = false from by simp [h], cond_false, hx, Option.bind_some, nums_loop a x hn hl, Option.bind_some, show script_named a.Call.Do = ref31_named a.Call.Do from rfl, Quote_ok _ (by omega)]
  have hlen : ([x] ++ (script_numbers a.Call).map Lib.itoa).length ≤ 4 := by simp; omega
  by_cases h8 : a.Call.Do = 8
  · have e8 : (a.Call.Do == 8) = true := by simp [h8]
    have en : ref31_named a.Call.Do = true := by rw [h8]; rfl
    rw [e8, en]
    simp only [cond_true, Option.bind_some]
    rw [app_ok (by rw [List.length_cons, List.length_nil]; omega), Option.bind_some]
    cases ho : a.Call.On
    · simp
    · rw [cond_true, app_ok (by rw [List.length_append, List.length_cons, List.length_nil]; rw [List.length_cons, List.length_nil]; omega)]
      simp [h8]
  · rw [nb h8]
    cases ref31_named a.Call.Do
    · simp [h8]
    · simp only [cond_true, cond_false, Option.bind_some]
      rw [app_ok (by rw [List.length_cons, List.length_nil]; omega)]
      simp [h8]
theorem callL_ok {a : TApiAct} {x : List UInt8} (h : a.Do = 7) (hx : idx script_callWords a.Call.Do = some x) (hxl : x.length ≤ 8) (hn : ∀ n ∈ script_numbers a.Call, inR n) (hs : Small a) : ref31_Line a = some (Lib.join ([x] ++ (script_numbers a.Call).map Lib.itoa ++ callTail a) [32] ++ [10]) ∧ (Lib.join ([x] ++ (script_numbers a.Call).map Lib.itoa ++ callTail a) [32]).length ≤ 9200 := by
  have hnm := hs.n
  have hq := Qt_len a.Call.Name
  have hI : inR a.Call.Ino := hn _ (by unfold script_numbers; cases a.Call.Do == 3 <;> cases a.Call.Do == 5 <;> simp)
  have hil := itoa_len hI
  have e3 : ref31_three a.Call.Do = three a.Call.Do := by
    unfold ref31_three three
    cases a.Call.Do == 3 <;> rfl
  have en : (script_numbers a.Call).map Lib.itoa = if three a.Call.Do then [Lib.itoa a.Call.Ino, Lib.itoa a.Call.A, Lib.itoa a.Call.B] else [Lib.itoa a.Call.Ino] := by
    unfold script_numbers three
    cases a.Call.Do == 3 <;> cases a.Call.Do == 5 <;> rfl
  have hAB : three a.Call.Do = true → inR a.Call.A ∧ inR a.Call.B := by
    intro ht
    unfold three at ht
    unfold script_numbers at hn
    cases h3 : a.Call.Do == 3
    · rw [h3, Bool.false_or] at ht
      rw [h3, ht] at hn
      exact ⟨hn _ (by simp), hn _ (by simp)⟩
    · rw [h3] at hn
      exact ⟨hn _ (by simp), hn _ (by simp)⟩
  unfold ref31_Line ref31_word
  rw [show (a.Do == 7) = true from by simp [h], cond_true]
  rw [show idx [([] : List UInt8), ([108, 111, 111, 107, 117, 112] : List UInt8), ([115, 116, 97, 116] : List UInt8), ([114, 101, 97, 100, 100, 105, 114] : List UInt8), ([114, 101, 97, 100, 108, 105, 110, 107] : List UInt8), ([114, 101, 97, 100] : List UInt8), ([110, 97, 109, 101, 115] : List UInt8), ([97, 116, 116, 114] : List UInt8), ([119, 97, 108, 107] : List UInt8)] a.Call.Do = some x from hx]
  rw [nb (show a.Do ≠ 1 by omega), nb (show a.Do ≠ 2 by omega), nb (show a.Do ≠ 5 by omega)]
  simp only [Option.bind_some, cond_true, cond_false]
  rw [cat_ok (by simp; omega), Option.bind_some, Digits10 hI, Option.bind_some, cat_ok (by simp; omega), Option.bind_some, e3, en]
  have tail : ∀ s : List UInt8, s.length ≤ 80 → (Option.bind
      (cond (ref31_named a.Call.Do)
      (Option.bind (cat s ([32] : List UInt8)) fun s_17 =>
      Option.bind (ref27_Quote a.Call.Name) fun quote =>
      Option.bind (cat s_17 quote) fun s_18 =>
      cond (a.Call.Do == 8)
      (cond a.Call.On
      (Option.bind (cat s_18 ([32, 111, 110] : List UInt8)) fun s_19 =>
      some s_19)
      (some s_18))
      (some s_18))
      (cond (a.Call.Do == 8)
      (cond a.Call.On
      (Option.bind (cat s ([32, 111, 110] : List UInt8)) fun s_20 =>
      some s_20)
      (some s))
      (some s))) fun s_5 => Option.bind (cat s_5 ([10] : List UInt8)) fun s_21 => some s_21) = some (s ++ Lib.joinTail [32] (callTail a) ++ [10]) ∧ (Lib.joinTail [32] (callTail a)).length ≤ 9010 := by
    intro s hsl
    unfold callTail
    rw [refQuote_ok _ (by omega)]
    by_cases h8 : a.Call.Do = 8
    · have e8 : (a.Call.Do == 8) = true := by simp [h8]
      have en : ref31_named a.Call.Do = true := by rw [h8]; rfl
      rw [e8, en]
      simp only [cond_true, Option.bind_some]
      rw [cat_ok (by simp; omega), Option.bind_some, cat_ok (by simp; omega), Option.bind_some]
      cases ho : a.Call.On
      · rw [cond_false, Option.bind_some, cat_ok (by simp; omega)]
        simp [Lib.joinTail, h8]
        omega
      · rw [cond_true, cat_ok (by simp; omega), Option.bind_some, Option.bind_some, cat_ok (by simp; omega)]
        simp [Lib.joinTail, h8]
        omega
    · rw [nb h8]
      cases ref31_named a.Call.Do
      · simp only [cond_false, Option.bind_some]
        rw [cat_ok (by simp; omega)]
        simp [Lib.joinTail, h8]
      · simp only [cond_true, cond_false, Option.bind_some]
        rw [cat_ok (by simp; omega), Option.bind_some, cat_ok (by simp; omega), Option.bind_some, Option.bind_some, cat_ok (by simp; omega)]
        simp [Lib.joinTail, h8]
        omega
  cases ht : three a.Call.Do
  · simp only [cond_false, Option.bind_some, Bool.false_eq_true, if_false]
    obtain ⟨t1, t2⟩ := tail (x ++ [32] ++ Lib.itoa a.Call.Ino) (by simp; omega)
    refine ⟨t1.trans ?_, ?_⟩
    · simp only [List.cons_append, List.nil_append, Lib.join_cons]
      simp [Lib.joinTail]
    · simp only [List.cons_append, List.nil_append, Lib.join_cons]
      simp [Lib.joinTail] at t2 ⊢
      omega
  · obtain ⟨hA, hB⟩ := hAB ht
    have hal := itoa_len hA
    have hbl := itoa_len hB
    simp only [cond_true, if_true]
    rw [cat_ok (by simp; omega), Option.bind_some, Digits10 hA, Option.bind_some, cat_ok (by simp; omega), Option.bind_some, cat_ok (by simp; omega), Option.bind_some, Digits10 hB, Option.bind_some, cat_ok (by simp; omega), Option.bind_some, Option.bind_some]
    obtain ⟨t1, t2⟩ := tail (x ++ [32] ++ Lib.itoa a.Call.Ino ++ [32] ++ Lib.itoa a.Call.A ++ [32] ++ Lib.itoa a.Call.B) (by simp; omega)
    refine ⟨t1.trans ?_, ?_⟩
    · simp only [List.cons_append, List.nil_append, Lib.join_cons]
      simp [Lib.joinTail]
    · simp only [List.cons_append, List.nil_append, Lib.join_cons]
      simp [Lib.joinTail] at t2 ⊢
      omega
theorem nums_in {a : TApiAct} (hr : inR a.Call.Ino ∧ (three a.Call.Do = true → inR a.Call.A ∧ inR a.Call.B)) : (∀ n ∈ script_numbers a.Call, inR n) ∧ (script_numbers a.Call).length ≤ 3 := by
  obtain ⟨h1, h2⟩ := hr
  unfold three at h2
  unfold script_numbers
  cases h3 : a.Call.Do == 3
  · cases h5 : a.Call.Do == 5
    · simp [h1]
    · obtain ⟨g1, g2⟩ := h2 (by rw [h5]; simp)
      simp [h1, g1, g2]
  · obtain ⟨g1, g2⟩ := h2 (by rw [h3]; simp)
    simp [h1, g1, g2]
theorem line7x {a : TApiAct} {x : List UInt8} (h : a.Do = 7) (hx : idx script_callWords a.Call.Do = some x) (hxl : x.length ≤ 8) (hr : inR a.Call.Ino ∧ (three a.Call.Do = true → inR a.Call.A ∧ inR a.Call.B)) (hs : Small a) : Line a ([x] ++ (script_numbers a.Call).map Lib.itoa ++ callTail a) := by
  obtain ⟨h1, h2⟩ := nums_in hr
  obtain ⟨h3, h4⟩ := callL_ok h hx hxl h1 hs
  refine ⟨callW_ok h hx h1 h2 hs, h3, ?_, h4⟩
  have : (callTail a).length ≤ 2 := by unfold callTail; rw [List.length_append]; split <;> split <;> simp
  simp only [List.length_append, List.length_cons, List.length_nil, List.length_map]
  omega
theorem line7 {a : TApiAct} (h : a.Do = 7) (hc : 1 ≤ a.Call.Do ∧ a.Call.Do ≤ 8) (hr : inR a.Call.Ino ∧ (three a.Call.Do = true → inR a.Call.A ∧ inR a.Call.B)) (hs : Small a) : ∃ W, Line a W := by
  have key : ∃ x : List UInt8, idx script_callWords a.Call.Do = some x ∧ x.length ≤ 8 := by
    rcases call_cases a.Call.Do with c | c | c | c | c | c | c | c | c | c
    all_goals first | omega | (rw [c]; exact ⟨_, rfl, by decide⟩)
  obtain ⟨x, hx, hxl⟩ := key
  exact ⟨_, line7x h hx hxl hr hs⟩
theorem line_any {a : TApiAct} (hc : chkS a = 0) (hs : Small a) : ∃ W, Line a W := by
  obtain ⟨hg, hr⟩ := good_of hc
  unfold rangesB at hr
  rcases do_cases a.Do with h | h | h | h | h | h | h | h
  · rw [if_pos h] at hr
    exact line1 h (of_decide_eq_true hr)
  · exact line2 h hs
  · exact line0 (.inl h)
  · exact line0 (.inr (.inl h))
  · rw [if_neg (by omega), if_pos h] at hr
    exact ⟨_, line5 h (of_decide_eq_true hr) hs⟩
  · exact line0 (.inr (.inr h))
  · rw [if_neg (by omega), if_neg (by omega), if_pos h] at hr
    simp only [Bool.and_eq_true, Bool.or_eq_true, decide_eq_true_eq] at hr
    refine line7 h (hg.2.2 h) ⟨hr.1, fun ht => ?_⟩ hs
    rcases hr.2 with e | e
    · rw [ht] at e; cases e
    · exact e
  · have := hg.1
    have := hg.2.1
    omega
open Classical in
/-- An act's line. -/
noncomputable def lineS (a : TApiAct) : List UInt8 := if h : ∃ W, Line a W then Lib.join (Classical.choose h) [32] ++ [10] else []
theorem lineS_of {a : TApiAct} {W : List (List UInt8)} (h : Line a W) : lineS a = Lib.join W [32] ++ [10] := by
  have hx : ∃ W, Line a W := ⟨W, h⟩
  unfold lineS
  rw [dif_pos hx]
  have h1 := (Classical.choose_spec hx).r
  rw [h.r] at h1
  exact (Option.some.inj h1).symm
theorem lineS_len (a : TApiAct) : (lineS a).length ≤ 9201 := by
  unfold lineS
  split
  · rename_i h
    have := (Classical.choose_spec h).l
    rw [List.length_append]; simp; omega
  · simp
/-! scripts -/
theorem plain_small {a : TApiAct} (hs : Small a) : Small (plainS a) := by
  unfold plainS
  split
  · exact ⟨by simp, by simp [noCrash], by simp [noCall]⟩
  · split
    · exact ⟨hs.b, by simp [noCrash], by simp [noCall]⟩
    · split
      · exact ⟨by simp, hs.t, by simp [noCall]⟩
      · split
        · exact ⟨by simp, by simp [noCrash], by simp [noCall]⟩
        · split
          · refine ⟨by simp, by simp [noCrash], ?_⟩
            unfold callS
            dsimp only
            split
            · exact hs.n
            · simp
          · exact hs
def textS (l : List TApiAct) : Option Int := l.findSome? fun a => if chkS a != 0 then some (chkS a) else none
theorem Print_ok (l : List TApiAct) (hl : l.length ≤ 60) (hs : ∀ a ∈ l, Small a) : ∃ r, script_Print l = some r ∧ ref31_Print l = some r ∧ (textS l = none → r = (l.flatMap lineS, 0)) := by
  have p1 := loop_any l (fun s => script_Print_l1 l s) (fun a => if chkS a != 0 then some (([] : List UInt8), chkS a) else none) (fun t x hx => by
    have hlt := (List.getElem?_eq_some_iff.1 hx).1
    show script_Print_l1 l t = _
    unfold script_Print_l1
    rw [decide_eq_true (by omega), cond_true, hx, Option.bind_some, Check_ok, Option.bind_some]
    cases chkS x != 0 <;> rfl) (by
    show script_Print_l1 l l.length = _
    unfold script_Print_l1
    rw [decide_eq_false (by omega)]
    rfl)
  have p2 := loop_any l (fun s => ref31_Print_l1 l s) (fun a => if chkS a != 0 then some (([] : List UInt8), chkS a) else none) (fun t x hx => by
    have hlt := (List.getElem?_eq_some_iff.1 hx).1
    show ref31_Print_l1 l t = _
    unfold ref31_Print_l1
    rw [decide_eq_true (by omega), cond_true, hx, Option.bind_some, refCheck_ok, Option.bind_some]
    cases chkS x != 0 <;> rfl) (by
    show ref31_Print_l1 l l.length = _
    unfold ref31_Print_l1
    rw [decide_eq_false (by omega)]
    rfl)
  unfold script_Print ref31_Print
  rw [decide_eq_false (by omega), cond_false, cond_false, p1, p2]
  cases hf : l.findSome? (fun a => if chkS a != 0 then some (([] : List UInt8), chkS a) else none) with
  | some v =>
    refine ⟨v, rfl, rfl, fun ht => ?_⟩
    exfalso
    obtain ⟨a, ha, h1⟩ := List.exists_of_findSome?_eq_some hf
    have h2 := List.findSome?_eq_none_iff.1 ht a ha
    cases hc : chkS a != 0
    · rw [hc] at h1; cases h1
    · rw [hc] at h2; cases h2
  | none =>
    have hz : ∀ a ∈ l, chkS a = 0 := fun a ha => by
      have := List.findSome?_eq_none_iff.1 hf a ha
      by_cases hc : chkS a = 0
      · exact hc
      · rw [show (chkS a != 0) = true from by simpa using hc] at this; cases this
    rw [bnd_inl, bnd_inl]
    have I : ∀ (b : List UInt8) (t : Nat) (x : TApiAct), l[t]? = some x → (b.length + 9201 * (l.drop t).length ≤ 600000 ∧ ∀ a ∈ l.drop t, Small a ∧ chkS a = 0) → x ∈ l.drop t ∧ (b ++ lineS x).length + 9201 * (l.drop (t + 1)).length ≤ 600000 ∧ (∀ a ∈ l.drop (t + 1), Small a ∧ chkS a = 0) ∧ Small x ∧ chkS x = 0 := by
      intro b t x hx ⟨h1, h2⟩
      have hlt := (List.getElem?_eq_some_iff.1 hx).1
      have e : x = l[t] := (List.getElem?_eq_some_iff.1 hx).2.symm
      rw [List.drop_eq_getElem_cons hlt, ← e] at h1 h2 ⊢
      rw [List.length_cons] at h1
      have := lineS_len x
      exact ⟨by simp, by rw [List.length_append]; omega, fun a ha => h2 a (by simp [ha]), h2 x (by simp)⟩
    have f1 := loop_fold l (fun s => script_Print_l2 l s.1 s.2) (fun b a => b ++ lineS a) (fun b => (Sum.inl b : Sum (List UInt8) ((List UInt8) × Int))) (fun b r => b.length + 9201 * r.length ≤ 600000 ∧ ∀ a ∈ r, Small a ∧ chkS a = 0) (fun b t x hx hI => by
      have hlt := (List.getElem?_eq_some_iff.1 hx).1
      obtain ⟨i1, i2, i3, i4, i5⟩ := I b t x hx hI
      refine ⟨?_, i2, i3⟩
      obtain ⟨W, hW⟩ := line_any i5 i4
      have hlen := hW.l
      have hn := hW.n
      have hls := lineS_of hW
      have hps := plain_small i4
      have q1 := hps.b
      have q2 := hps.t
      have q3 := hps.n
      rw [hls] at i2 ⊢
      rw [List.length_append, List.length_append] at i2
      have hb : b.length + (Lib.join W [32]).length + 1 ≤ 600000 := by simp at i2; omega
      show script_Print_l2 l b t = _
      unfold script_Print_l2
      rw [decide_eq_true (show (t : Int) < (l.length : Int) by omega), cond_true, hx, Option.bind_some, Plain_ok i4, Option.bind_some]
      rw [decide_eq_false (by split <;> split <;> omega), cond_false, hW.w, Option.bind_some, chk_d (by omega), Option.bind_some, app_ok (by omega), Option.bind_some, app_ok (by rw [List.length_append, List.length_cons, List.length_nil]; omega), Option.bind_some, List.append_assoc, decide_eq_false (by rw [List.length_append, List.length_append, List.length_cons, List.length_nil]; omega)]
      rfl) (fun b _ => by
      show script_Print_l2 l b l.length = _
      unfold script_Print_l2
      rw [decide_eq_false (by omega)]
      rfl) l.length 0 [] (by omega) (by omega) ⟨by simp; omega, by simpa using fun a ha => ⟨hs a ha, hz a ha⟩⟩
    have f2 := loop_fold l (fun s => ref31_Print_l2 l s.1 s.2) (fun b a => b ++ lineS a) (fun b => (Sum.inl b : Sum (List UInt8) ((List UInt8) × Int))) (fun b r => b.length + 9201 * r.length ≤ 600000 ∧ ∀ a ∈ r, Small a ∧ chkS a = 0) (fun b t x hx hI => by
      have hlt := (List.getElem?_eq_some_iff.1 hx).1
      obtain ⟨i1, i2, i3, i4, i5⟩ := I b t x hx hI
      refine ⟨?_, i2, i3⟩
      obtain ⟨W, hW⟩ := line_any i5 i4
      have hls := lineS_of hW
      have h9 := lineS_len x
      have hb : b.length + (lineS x).length ≤ 600000 := by rw [List.length_append] at i2; omega
      show ref31_Print_l2 l b t = _
      unfold ref31_Print_l2
      rw [decide_eq_true (show (t : Int) < (l.length : Int) by omega), cond_true, hx, Option.bind_some, hW.r, Option.bind_some, ← hls, app_ok (by omega), Option.bind_some, decide_eq_false (by rw [List.length_append]; omega)]
      rfl) (fun b _ => by
      show ref31_Print_l2 l b l.length = _
      unfold ref31_Print_l2
      rw [decide_eq_false (by omega)]
      rfl) l.length 0 [] (by omega) (by omega) ⟨by simp; omega, by simpa using fun a ha => ⟨hs a ha, hz a ha⟩⟩
    rw [f1, f2, List.drop_zero, fold_flat, List.nil_append]
    exact ⟨_, rfl, rfl, fun _ => rfl⟩
/-! the page's example -/
theorem live31 : law31_live = some true := by
  obtain ⟨r, h1, h2, h3⟩ := Print_ok [({ Do := 5, Len := 0, Sum := (0 : UInt64), Bytes := [], Crash := ({ After := 3, Torn := [(1 : UInt8), (255 : UInt8)] } : TApiCrash), Call := ({ Do := 0, Ino := 0, A := 0, B := 0, Name := ([] : List UInt8), On := false } : TApiCall) } : TApiAct), ({ Do := 7, Len := 0, Sum := (0 : UInt64), Bytes := [], Crash := ({ After := 0, Torn := [] } : TApiCrash), Call := ({ Do := 5, Ino := 1, A := 0, B := 9, Name := ([] : List UInt8), On := false } : TApiCall) } : TApiAct)] (by decide) (by
    intro a ha
    simp only [List.mem_cons, List.mem_nil_iff, or_false] at ha
    rcases ha with rfl | rfl <;> exact ⟨by decide, by decide, by decide⟩)
  have d3 : Lib.itoa 3 = [51] := by unfold Lib.itoa Lib.decDigits; rfl
  have d1 : Lib.itoa 1 = [49] := by unfold Lib.itoa Lib.decDigits; rfl
  have d0 : Lib.itoa 0 = [48] := by unfold Lib.itoa Lib.decDigits; rfl
  have d9 : Lib.itoa 9 = [57] := by unfold Lib.itoa Lib.decDigits; rfl
  have hr := h3 (by decide)
  unfold law31_live
  rw [h1, Option.bind_some, hr]
  have l1 := lineS_of (line5 (a := ({ Do := 5, Len := 0, Sum := (0 : UInt64), Bytes := [], Crash := ({ After := 3, Torn := [(1 : UInt8), (255 : UInt8)] } : TApiCrash), Call := ({ Do := 0, Ino := 0, A := 0, B := 0, Name := ([] : List UInt8), On := false } : TApiCall) } : TApiAct)) rfl (by decide) ⟨by decide, by decide, by decide⟩)
  have l2 := lineS_of (line7x (a := ({ Do := 7, Len := 0, Sum := (0 : UInt64), Bytes := [], Crash := ({ After := 0, Torn := [] } : TApiCrash), Call := ({ Do := 5, Ino := 1, A := 0, B := 9, Name := ([] : List UInt8), On := false } : TApiCall) } : TApiAct)) (x := [114, 101, 97, 100]) rfl rfl (by decide) (by decide) ⟨by decide, by decide, by decide⟩)
  rw [List.flatMap_cons, List.flatMap_cons, List.flatMap_nil, l1, l2]
  dsimp only
  rw [show script_numbers { Do := 5, Ino := 1, A := 0, B := 9, Name := ([] : List UInt8), On := false } = [1, 0, 9] from rfl, show callTail ({ Do := 7, Len := 0, Sum := (0 : UInt64), Bytes := [], Crash := ({ After := 0, Torn := [] } : TApiCrash), Call := ({ Do := 5, Ino := 1, A := 0, B := 9, Name := ([] : List UInt8), On := false } : TApiCall) } : TApiAct) = [] from by decide]
  simp only [List.map_cons, List.map_nil, d1, d0, d9, d3]
  decide
theorem ScriptPlains_pure (a : TApiAct) (_ : rApiAct.wf a) : law31_ScriptPlains a = some true := by
  unfold law31_ScriptPlains
  rcases Much_any [a] with h | ⟨h, _, hs⟩
  · rw [h, Option.bind_some, cond_true, live31]; rfl
  · have hs := hs a (by simp)
    rw [h, Option.bind_some, cond_false, Plain_ok hs, Option.bind_some, Check_ok, refCheck_ok, refPlain_ok]
    simp only [Option.bind_some]
    unfold law31_num
    rw [show (chkS a == chkS a) = true from by simp, cond_true, Same_one, live31]
    rfl
theorem ScriptPrints_pure (l : List TApiAct) (_ : (rSl rApiAct).wf l) : law31_ScriptPrints l = some true := by
  unfold law31_ScriptPrints
  rcases Much_any l with h | ⟨h, hl, hs⟩
  · rw [h, Option.bind_some, cond_true, live31]; rfl
  · obtain ⟨r, h1, h2, _⟩ := Print_ok l hl hs
    rw [h, Option.bind_some, cond_false, h1, Option.bind_some, h2, Option.bind_some]
    unfold law31_num
    rw [show (r.1 == r.1) = true from by simp, cond_true, show (r.2 == r.2) = true from by simp, cond_true, live31]
    rfl
end Go.Proofs.YtgoedcjjckdlpaaDoor.F
