/- Acts in plain words: what counts of them, which may be printed. -/
import Derived.Test.YtgoedcjjckdlpaaDoorLSSWord
set_option linter.unusedVariables false
set_option linter.unusedSimpArgs false
namespace Go.Proofs.YtgoedcjjckdlpaaDoor.F
open Go Go.RowKit Go.Proofs.YtgoedcjjckdlpaaDoor.K

structure Small (a : TApiAct) : Prop where
  b : a.Bytes.length ≤ 3000
  t : a.Crash.Torn.length ≤ 3000
  n : a.Call.Name.length ≤ 3000
theorem Much_any (l : List TApiAct) : ref31_Much l = some true ∨ ref31_Much l = some false ∧ l.length ≤ 60 ∧ ∀ a ∈ l, Small a := by
  unfold ref31_Much
  by_cases hl : l.length ≤ 60
  · rw [decide_eq_false (by omega), cond_false]
    have := loop_any l (fun s => ref31_Much_l1 l s) (fun x => if (decide (x.Bytes.length > 3000) || (decide (x.Crash.Torn.length > 3000) || decide (x.Call.Name.length > 3000))) then some true else none) ?_ ?_
    · rw [this, find_if]
      cases h : l.any (fun x => decide (x.Bytes.length > 3000) || (decide (x.Crash.Torn.length > 3000) || decide (x.Call.Name.length > 3000)))
      · refine .inr ⟨rfl, hl, fun a ha => ?_⟩
        have := List.any_eq_false.1 h a ha
        simp only [Bool.or_eq_true, decide_eq_true_eq, not_or] at this
        exact ⟨by omega, by omega, by omega⟩
      · exact .inl rfl
    · intro t x hx
      have hlt := (List.getElem?_eq_some_iff.1 hx).1
      show ref31_Much_l1 l t = _
      unfold ref31_Much_l1
      rw [decide_eq_true (by omega), cond_true, hx, Option.bind_some]
      rw [show decide ((x.Bytes.length : Int) > 3000) = decide (x.Bytes.length > 3000) from by rw [Bool.eq_iff_iff]; simp; omega, show decide ((x.Crash.Torn.length : Int) > 3000) = decide (x.Crash.Torn.length > 3000) from by rw [Bool.eq_iff_iff]; simp; omega, show decide ((x.Call.Name.length : Int) > 3000) = decide (x.Call.Name.length > 3000) from by rw [Bool.eq_iff_iff]; simp; omega]
      cases decide (x.Bytes.length > 3000) <;> cases decide (x.Crash.Torn.length > 3000) <;> cases decide (x.Call.Name.length > 3000) <;> rfl
    · show ref31_Much_l1 l l.length = _
      unfold ref31_Much_l1
      rw [decide_eq_false (by omega)]
      rfl
  · left; rw [decide_eq_true (by omega)]; rfl
/-! what counts -/
def three (c : Int) : Bool := c == 3 || c == 5
def noCall : TApiCall := { Do := 0, Ino := 0, A := 0, B := 0, Name := [], On := false }
def noCrash : TApiCrash := { After := 0, Torn := [] }
def callS (c : TApiCall) : TApiCall := { Do := c.Do, Ino := c.Ino, A := if three c.Do then c.A else 0, B := if three c.Do then c.B else 0, Name := if ref31_named c.Do then c.Name else [], On := if c.Do = 8 then c.On else false }
def plainS (a : TApiAct) : TApiAct :=
  if a.Do = 1 then { Do := a.Do, Len := a.Len, Sum := a.Sum, Bytes := [], Crash := noCrash, Call := noCall }
  else if a.Do = 2 then { Do := a.Do, Len := 0, Sum := 0, Bytes := a.Bytes, Crash := noCrash, Call := noCall }
  else if a.Do = 5 then { Do := a.Do, Len := 0, Sum := 0, Bytes := [], Crash := { After := a.Crash.After, Torn := a.Crash.Torn }, Call := noCall }
  else if a.Do = 3 ∨ a.Do = 4 ∨ a.Do = 6 then { Do := a.Do, Len := 0, Sum := 0, Bytes := [], Crash := noCrash, Call := noCall }
  else if a.Do = 7 ∧ 1 ≤ a.Call.Do ∧ a.Call.Do ≤ 8 then { Do := a.Do, Len := 0, Sum := 0, Bytes := [], Crash := noCrash, Call := callS a.Call }
  else a
theorem do_cases (n : Int) : n = 1 ∨ n = 2 ∨ n = 3 ∨ n = 4 ∨ n = 5 ∨ n = 6 ∨ n = 7 ∨ (n ≠ 1 ∧ n ≠ 2 ∧ n ≠ 3 ∧ n ≠ 4 ∧ n ≠ 5 ∧ n ≠ 6 ∧ n ≠ 7) := by omega
theorem call_cases (n : Int) : n = 1 ∨ n = 2 ∨ n = 3 ∨ n = 4 ∨ n = 5 ∨ n = 6 ∨ n = 7 ∨ n = 8 ∨ n < 1 ∨ n > 8 := by omega
theorem nb {x y : Int} (h : x ≠ y) : (x == y) = false := by simpa using h
theorem refPlain_ok (a : TApiAct) : ref31_Plain a = some (plainS a) := by
  unfold ref31_Plain plainS
  rcases do_cases a.Do with h | h | h | h | h | h | h | h
  · simp [h, bnd_inl, bnd_inr, noCall, noCrash]
  · simp [h, bnd_inl, bnd_inr, noCall, noCrash]
  · simp [h, bnd_inl, bnd_inr, noCall, noCrash]
  · simp [h, bnd_inl, bnd_inr, noCall, noCrash]
  · simp [h, bnd_inl, bnd_inr, noCall, noCrash]
  · simp [h, bnd_inl, bnd_inr, noCall, noCrash]
  · rcases call_cases a.Call.Do with c | c | c | c | c | c | c | c | c | c
    all_goals first | (simp [h, c, bnd_inl, bnd_inr, noCall, noCrash, callS, three, ref31_three, ref31_named, lt_eq]; done) | skip
    · rw [if_neg (by omega), if_neg (by omega), if_neg (by omega), if_neg (by omega), if_neg (by omega)]
      simp [h, c, bnd_inr]
    · have c' : ¬ a.Call.Do < 1 := by omega
      rw [if_neg (by omega), if_neg (by omega), if_neg (by omega), if_neg (by omega), if_neg (by omega)]
      simp [h, c, c', bnd_inr]
  · obtain ⟨h1, h2, h3, h4, h5, h6, h7⟩ := h
    rw [if_neg (by omega), if_neg (by omega), if_neg (by omega), if_neg (by omega), if_neg (by omega), nb h1, nb h2, nb h3, nb h4, nb h5, nb h6, nb h7]
    rfl
theorem whole_ok {a : TApiAct} (hs : Small a) : script_whole a = some a := by
  have h1 := hs.b
  have h2 := hs.t
  unfold script_whole
  rw [chk_d (by omega), Option.bind_some, chk_d (by omega), Option.bind_some]
theorem Plain_ok {a : TApiAct} (hs : Small a) : script_Plain a = some (plainS a) := by
  have hb : chk (decide (a.Bytes.length ≤ 137438953472)) = some () := chk_d (by have := hs.b; omega)
  have ht : chk (decide (a.Crash.Torn.length ≤ 137438953472)) = some () := chk_d (by have := hs.t; omega)
  have hw := whole_ok hs
  unfold script_Plain plainS
  rw [hb, ht, hw]
  rcases do_cases a.Do with h | h | h | h | h | h | h | h
  · simp [h, bnd_inl, bnd_inr, noCall, noCrash]
  · simp [h, bnd_inl, bnd_inr, noCall, noCrash]
  · simp [h, bnd_inl, bnd_inr, noCall, noCrash]
  · simp [h, bnd_inl, bnd_inr, noCall, noCrash]
  · simp [h, bnd_inl, bnd_inr, noCall, noCrash]
  · simp [h, bnd_inl, bnd_inr, noCall, noCrash]
  · rcases call_cases a.Call.Do with c | c | c | c | c | c | c | c | c | c
    all_goals first | (simp [h, c, bnd_inl, bnd_inr, noCall, noCrash, callS, three, ref31_three, ref31_named, script_named, script_numbers, lt_eq]; done) | skip
    · rw [if_neg (by omega), if_neg (by omega), if_neg (by omega), if_neg (by omega), if_neg (by omega)]
      simp [h, c, bnd_inr]
    · have c' : ¬ a.Call.Do < 1 := by omega
      rw [if_neg (by omega), if_neg (by omega), if_neg (by omega), if_neg (by omega), if_neg (by omega)]
      simp [h, c, c', bnd_inr]
  · obtain ⟨h1, h2, h3, h4, h5, h6, h7⟩ := h
    rw [if_neg (by omega), if_neg (by omega), if_neg (by omega), if_neg (by omega), if_neg (by omega), nb h1, nb h2, nb h3, nb h4, nb h5, nb h6, nb h7]
    rfl
/-! which may be printed -/
def inR (n : Int) : Prop := 0 ≤ n ∧ n ≤ 1099511627776
instance (n : Int) : Decidable (inR n) := by unfold inR; infer_instance
theorem rin_eq (n : Int) : ref31_in n = decide (inR n) := by
  unfold ref31_in inR
  by_cases h : 0 ≤ n
  · rw [decide_eq_true (show n ≥ 0 from h), cond_true]; simp [h]
  · rw [decide_eq_false (show ¬ n ≥ 0 from h), cond_false]; simp [h]
theorem inR0 : inR 0 := by unfold inR; omega
theorem Check_loop (l : List Int) : loopO (fun s => script_Check_l1 l s) 0 = some (if l.all (fun n => decide (inR n)) then .inl () else .inr 1) := by
  have := loop_any l (fun s => script_Check_l1 l s) (fun x => if !decide (inR x) then some 1 else none) ?_ ?_
  · rw [this, find_if]
    have : l.any (fun x => !decide (inR x)) = !l.all (fun n => decide (inR n)) := by rw [List.not_all_eq_any_not]
    rw [this]
    cases l.all (fun n => decide (inR n)) <;> rfl
  · intro t x hx
    have hlt := (List.getElem?_eq_some_iff.1 hx).1
    show script_Check_l1 l t = _
    unfold script_Check_l1
    rw [decide_eq_true (by omega), cond_true, hx, Option.bind_some]
    have e : decide (inR x) = (!decide (x < 0) && !decide (x > 1099511627776)) := by
      rw [Bool.eq_iff_iff, decide_eq_true_eq]
      unfold inR
      simp
    rw [e]
    cases decide (x < 0) <;> cases decide (x > 1099511627776) <;> rfl
  · show script_Check_l1 l l.length = _
    unfold script_Check_l1
    rw [decide_eq_false (by omega)]
    rfl
def good (a : TApiAct) : Prop := 1 ≤ a.Do ∧ a.Do ≤ 7 ∧ (a.Do = 7 → 1 ≤ a.Call.Do ∧ a.Call.Do ≤ 8)
instance (a : TApiAct) : Decidable (good a) := by unfold good; infer_instance
def rangesB (a : TApiAct) : Bool :=
  if a.Do = 1 then decide (inR a.Len) else if a.Do = 5 then decide (inR a.Crash.After) else if a.Do = 7 then decide (inR a.Call.Ino) && (!three a.Call.Do || (decide (inR a.Call.A) && decide (inR a.Call.B))) else true
def chkS (a : TApiAct) : Int := if good a then (if rangesB a then 0 else 1) else 8
theorem Check_ok (a : TApiAct) : script_Check a = some (chkS a) := by
  unfold script_Check chkS rangesB
  rcases do_cases a.Do with h | h | h | h | h | h | h | h
  · rw [if_pos (show good a from ⟨by omega, by omega, by omega⟩)]
    simp only [h, beq_self_eq_true, cond_true, bnd_inl, Check_loop, if_pos, List.all_cons, List.all_nil, Bool.and_true]
    cases decide (inR a.Len) <;> rfl
  · rw [if_pos (show good a from ⟨by omega, by omega, by omega⟩)]
    simp [h, bnd_inl, Check_loop]
  · rw [if_pos (show good a from ⟨by omega, by omega, by omega⟩)]
    simp [h, bnd_inl, Check_loop]
  · rw [if_pos (show good a from ⟨by omega, by omega, by omega⟩)]
    simp [h, bnd_inl, Check_loop]
  · rw [if_pos (show good a from ⟨by omega, by omega, by omega⟩)]
    simp [h, bnd_inl, Check_loop]
    by_cases hr : inR a.Crash.After <;> simp [hr, bnd_inl, bnd_inr]
  · rw [if_pos (show good a from ⟨by omega, by omega, by omega⟩)]
    simp [h, bnd_inl, Check_loop]
  · by_cases c1 : a.Call.Do < 1
    · rw [if_neg (show ¬ good a from fun g => by have := g.2.2 h; omega)]
      simp [h, c1, bnd_inr]
    · by_cases c2 : a.Call.Do > 8
      · rw [if_neg (show ¬ good a from fun g => by have := g.2.2 h; omega)]
        simp [h, c1, c2, bnd_inr]
      · rw [if_pos (show good a from ⟨by omega, by omega, fun _ => by omega⟩)]
        have hn : (script_numbers a.Call).all (fun n => decide (inR n)) = (decide (inR a.Call.Ino) && (!three a.Call.Do || (decide (inR a.Call.A) && decide (inR a.Call.B)))) := by
          unfold script_numbers three
          cases h3 : a.Call.Do == 3 <;> cases h5 : a.Call.Do == 5 <;> simp
        rw [nb (show a.Do ≠ 1 by omega), nb (show a.Do ≠ 5 by omega), nb (show a.Do ≠ 2 by omega), nb (show a.Do ≠ 3 by omega), nb (show a.Do ≠ 4 by omega), nb (show a.Do ≠ 6 by omega), show (a.Do == 7) = true from by simp [h], decide_eq_false c1, decide_eq_false c2]
        simp only [cond_true, cond_false, bnd_inl]
        rw [Check_loop, hn, if_neg (show ¬ a.Do = 1 by omega), if_neg (show ¬ a.Do = 5 by omega), if_pos h]
        cases decide (inR a.Call.Ino) && (!three a.Call.Do || (decide (inR a.Call.A) && decide (inR a.Call.B))) <;> rfl
  · rw [if_neg (show ¬ good a from fun g => by have := g.1; have := g.2.1; omega)]
    obtain ⟨h1, h2, h3, h4, h5, h6, h7⟩ := h
    rw [nb h1, nb h2, nb h3, nb h4, nb h5, nb h6, nb h7]
    rfl
theorem refCheck_ok (a : TApiAct) : ref31_Check a = some (chkS a) := by
  unfold ref31_Check chkS
  rw [refPlain_ok]
  simp only [Option.bind_some, rin_eq]
  rcases do_cases a.Do with h | h | h | h | h | h | h | h
  · rw [if_pos (show good a from ⟨by omega, by omega, by omega⟩)]
    simp [h, plainS, rangesB, noCall, noCrash, inR0]
    by_cases hr : inR a.Len <;> simp [hr]
  · rw [if_pos (show good a from ⟨by omega, by omega, by omega⟩)]
    simp [h, plainS, rangesB, noCall, noCrash, inR0]
  · rw [if_pos (show good a from ⟨by omega, by omega, by omega⟩)]
    simp [h, plainS, rangesB, noCall, noCrash, inR0]
  · rw [if_pos (show good a from ⟨by omega, by omega, by omega⟩)]
    simp [h, plainS, rangesB, noCall, noCrash, inR0]
  · rw [if_pos (show good a from ⟨by omega, by omega, by omega⟩)]
    simp [h, plainS, rangesB, noCall, noCrash, inR0]
    by_cases hr : inR a.Crash.After <;> simp [hr]
  · rw [if_pos (show good a from ⟨by omega, by omega, by omega⟩)]
    simp [h, plainS, rangesB, noCall, noCrash, inR0]
  · by_cases c1 : a.Call.Do < 1
    · rw [if_neg (show ¬ good a from fun g => by have := g.2.2 h; omega)]
      simp [h, c1]
    · by_cases c2 : a.Call.Do > 8
      · rw [if_neg (show ¬ good a from fun g => by have := g.2.2 h; omega)]
        simp [h, c1, c2]
      · rw [if_pos (show good a from ⟨by omega, by omega, fun _ => by omega⟩)]
        have e : plainS a = { Do := a.Do, Len := 0, Sum := 0, Bytes := [], Crash := noCrash, Call := callS a.Call } := by
          unfold plainS
          rw [if_neg (by omega), if_neg (by omega), if_neg (by omega), if_neg (by omega), if_pos (by omega)]
        rw [e]
        simp [h, c1, c2, rangesB, noCrash, inR0, callS]
        cases three a.Call.Do <;> simp [inR0] <;> by_cases hr : inR a.Call.Ino <;> simp [hr] <;> by_cases hr2 : inR a.Call.A <;> simp [hr2] <;> by_cases hr3 : inR a.Call.B <;> simp [hr3]
  · rw [if_neg (show ¬ good a from fun g => by have := g.1; have := g.2.1; omega)]
    by_cases c1 : a.Do < 1
    · simp [c1]
    · have c2 : a.Do > 7 := by omega
      simp [c1, c2]
theorem Same_one (x : TApiAct) : ref31_Same [x] [x] false = some true := by
  unfold ref31_Same
  rw [show ((([x] : List TApiAct).length : Int) != (([x] : List TApiAct).length : Int)) = false from by simp, cond_false]
  have : loopO (fun s => ref31_Same_l1 [x] [x] s.1 s.2) (false, 0) = some (.inl ()) := by
    refine (loop_next (s' := (false, 1)) ?_).trans (loop_end ?_)
    · show ref31_Same_l1 [x] [x] false 0 = _
      unfold ref31_Same_l1
      simp
    · show ref31_Same_l1 [x] [x] false 1 = _
      unfold ref31_Same_l1
      simp
  rw [this]
  rfl
end Go.Proofs.YtgoedcjjckdlpaaDoor.F
