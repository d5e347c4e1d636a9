/- Tables in plain words: sets of attributes, the document's side. -/
import Derived.Test.YtgoedcjjckdlpaaLTTab4
set_option linter.unusedVariables false
set_option linter.unusedSimpArgs false
namespace Go.Proofs.Ytgoedcjjckdlpaa.F
open Go Go.RowKit Go.Proofs.Ytgoedcjjckdlpaa.K

theorem zero_loop2 (x : TApiAttr) : loopO (fun s => ref17_RightAttrs_l2 x s) 0 = some (if x.Name.contains 0 then .inr (.inr (.inr false)) else .inl ()) := by
  have := loop_any x.Name (fun s => ref17_RightAttrs_l2 x s) (fun c => if c == 0 then some (.inr (.inr false)) else none) ?_ ?_
  · rw [this, find_if]
    have : x.Name.any (fun c => c == 0) = x.Name.contains 0 := by
      rw [Bool.eq_iff_iff, List.any_eq_true, List.contains_iff_mem]
      constructor
      · rintro ⟨c, h1, h2⟩; rw [beq_iff_eq] at h2; rw [← h2]; exact h1
      · intro h; exact ⟨0, h, rfl⟩
    rw [this]
    cases x.Name.contains 0 <;> rfl
  · intro t c hx
    have hlt := (List.getElem?_eq_some_iff.1 hx).1
    show ref17_RightAttrs_l2 x t = _
    unfold ref17_RightAttrs_l2
    rw [decide_eq_true (by omega), cond_true, idx_ok hx, Option.bind_some]
    have : ((c.toNat : Int) == 0) = (c == 0) := by
      rw [Bool.eq_iff_iff, beq_iff_eq, beq_iff_eq]
      constructor
      · intro h; exact UInt8.toNat.inj (by show c.toNat = 0; omega)
      · intro h; rw [h]; rfl
    rw [this]
    cases c == 0 <;> rfl
  · show ref17_RightAttrs_l2 x x.Name.length = _
    unfold ref17_RightAttrs_l2
    rw [decide_eq_false (by omega)]
    rfl
theorem zero_loop3 (x : TApiAttr) : loopO (fun s => ref17_RightAttrs_l3 x s) 0 = some (if x.Name.contains 0 then .inr (.inr (.inr false)) else .inl ()) := zero_loop2 x
def lastN (l : List TApiAttr) : Nat → List UInt8
  | 0 => []
  | t + 1 => ((l[t]?).map (·.Name)).getD []
theorem leB_nil {a : List UInt8} (h : 1 ≤ a.length) : leB a [] = false := by
  cases a with
  | nil => simp at h
  | cons x a => rfl
theorem refRight_loop (l : List TApiAttr) : ∀ k t, l.length - t = k → t ≤ l.length → loopO (fun s => ref17_RightAttrs_l1 l s) t = some (if rightA (lastN l t) (l.drop t) then .inl () else .inr false) := by
  intro k
  induction k with
  | zero =>
    intro t h1 h2
    have : t = l.length := by omega
    subst this
    rw [List.drop_length]
    refine loop_end ?_
    show ref17_RightAttrs_l1 l l.length = _
    unfold ref17_RightAttrs_l1
    rw [decide_eq_false (by omega)]
    rfl
  | succ k ih =>
    intro t h1 h2
    have hlt : t < l.length := by omega
    obtain ⟨a, ha⟩ : ∃ a, a = l[t] := ⟨_, rfl⟩
    have hx := List.getElem?_eq_getElem hlt
    rw [← ha] at hx
    have hd : l.drop t = a :: l.drop (t + 1) := by rw [ha]; exact List.drop_eq_getElem_cons hlt
    rw [hd, rightA]
    obtain ⟨last, hlast⟩ : ∃ last, last = lastN l t := ⟨_, rfl⟩
    rw [← hlast]
    have hnext : lastN l (t + 1) = a.Name := by show ((l[t]?).map (·.Name)).getD [] = _; rw [hx]; rfl
    obtain ⟨c, hc⟩ : ∃ c, c = (decide (1 ≤ a.Name.length) && (decide (a.Name.length ≤ 255) && (!a.Name.contains 0 && (!leB a.Name last && decide (a.Value.length ≤ 4096))))) := ⟨_, rfl⟩
    have hb : ref17_RightAttrs_l1 l t = if c then some (.inl (t + 1)) else some (.inr (.inr false)) := by
      unfold ref17_RightAttrs_l1
      rw [decide_eq_true (by omega), cond_true, hx, Option.bind_some, zero_loop2, zero_loop3]
      by_cases c1 : 1 ≤ a.Name.length
      · by_cases c2 : a.Name.length ≤ 255
        · by_cases c3 : a.Value.length ≤ 4096
          · rw [decide_eq_false (by omega), cond_false, decide_eq_false (by omega), cond_false, decide_eq_false (by omega), cond_false]
            have hc' : c = (!a.Name.contains 0 && !leB a.Name last) := by rw [hc, decide_eq_true c1, decide_eq_true c2, decide_eq_true c3]; simp
            rw [hc']
            cases t with
            | zero =>
              rw [decide_eq_false (by omega), cond_false]
              have : leB a.Name last = false := by rw [hlast]; exact leB_nil c1
              rw [this]
              cases a.Name.contains 0 <;> rfl
            | succ s =>
              have hp : ∃ y, idx l (((s + 1 : Nat) : Int) - 1) = some y ∧ y.Name = last := by
                have hs : s < l.length := by omega
                refine ⟨l[s], ?_, ?_⟩
                · rw [show ((s + 1 : Nat) : Int) - 1 = (s : Int) by omega]
                  exact idx_ok (List.getElem?_eq_getElem hs)
                · rw [hlast]; show _ = ((l[s]?).map (·.Name)).getD []; rw [List.getElem?_eq_getElem hs]; rfl
              obtain ⟨y, g1, g2⟩ := hp
              rw [decide_eq_true (by omega), cond_true, g1, Option.bind_some, g2]
              cases leB a.Name last <;> cases a.Name.contains 0 <;> rfl
          · have hc' : c = false := by rw [hc, decide_eq_false c3]; simp
            rw [hc', decide_eq_false (by omega), cond_false, decide_eq_false (by omega), cond_false, decide_eq_true (by omega), cond_true]
            rfl
        · have hc' : c = false := by rw [hc, decide_eq_false c2]; simp
          rw [hc', decide_eq_false (by omega), cond_false, decide_eq_true (by omega), cond_true]
          rfl
      · have hc' : c = false := by rw [hc, decide_eq_false c1]; rfl
        rw [hc', decide_eq_true (by omega), cond_true]
        rfl
    have hr : (decide (1 ≤ a.Name.length) && (decide (a.Name.length ≤ 255) && (!a.Name.contains 0 && (!leB a.Name last && (decide (a.Value.length ≤ 4096) && rightA a.Name (l.drop (t + 1))))))) = (c && rightA a.Name (l.drop (t + 1))) := by
      rw [hc]; simp only [Bool.and_assoc]
    rw [hr]
    cases hcc : c
    · rw [hcc] at hb
      rw [loop_end hb]
      rfl
    · rw [hcc] at hb
      rw [loop_next (s' := t + 1) hb, ih (t + 1) (sub1 h1) hlt, hnext, Bool.true_and]
theorem RightAttrs_ok (l : List TApiAttr) : ref17_RightAttrs l = some (setB l) := by
  unfold ref17_RightAttrs setB
  by_cases h1 : 1 ≤ l.length
  · by_cases h2 : l.length ≤ 64
    · have := refRight_loop l l.length 0 (by omega) (by omega)
      rw [List.drop_zero, show lastN l 0 = [] from rfl] at this
      rw [decide_eq_false (by omega), cond_false, decide_eq_false (by omega), cond_false, this, decide_eq_true h1, decide_eq_true h2]
      cases rightA [] l <;> rfl
    · rw [decide_eq_false (by omega), cond_false, decide_eq_true (by omega), cond_true, decide_eq_false h2]
      simp
  · rw [decide_eq_true (by omega), cond_true, decide_eq_false h1]
    simp
theorem AttrBytes_ok (l : List TApiAttr) (hl : l.length ≤ 64) (h : ∀ a ∈ l, a.Name.length ≤ 255 ∧ a.Value.length ≤ 4096) : ref17_AttrBytes l = some (enc 2 l.length ++ attrsB l) := by
  have := loop_fold l (fun s => ref17_AttrBytes_l1 l s.1 s.2) (fun b x => b ++ attrB x) id (fun b r => b.length + 5000 * r.length ≤ 100000000 ∧ ∀ x ∈ r, x.Name.length ≤ 255 ∧ x.Value.length ≤ 4096) ?_ ?_ l.length 0 (enc 2 l.length) (by omega) (by omega) ⟨by rw [enc_length]; simp; omega, by simpa using h⟩
  · unfold ref17_AttrBytes
    have e := refstoreI (x := (l.length : Int)) 2 (by omega) (by omega)
    rw [Int.toNat_natCast] at e
    rw [show (2 : Int) = ((2 : Nat) : Int) from rfl, e, Option.bind_some, this, List.drop_zero, foldB]
    rfl
  · intro b t x hx ⟨hI, hA⟩
    have hlt := (List.getElem?_eq_some_iff.1 hx).1
    have e : x = l[t] := (List.getElem?_eq_some_iff.1 hx).2.symm
    rw [List.drop_eq_getElem_cons hlt, ← e] at hI hA
    rw [List.length_cons] at hI
    obtain ⟨n1, n2⟩ := hA x (by simp)
    have hal := attrB_len x
    refine ⟨?_, by rw [List.length_append]; omega, fun y hy => hA y (by simp [hy])⟩
    have e := refstoreI (x := (x.Value.length : Int)) 2 (by omega) (by omega)
    rw [Int.toNat_natCast] at e
    have e1 : [UInt8.ofInt (x.Name.length : Int)] = enc 1 x.Name.length := by
      unfold enc enc
      congr 1
      refine UInt8.toNat.inj ?_
      simp [UInt8.ofInt]
      omega
    unfold ref17_AttrBytes_l1 attrB
    dsimp only
    rw [decide_eq_true (by omega), cond_true, hx, Option.bind_some, e1, app_ok (by rw [enc_length]; omega), Option.bind_some, app_ok (by simp only [List.length_append, enc_length]; omega), Option.bind_some, show (2 : Int) = ((2 : Nat) : Int) from rfl, e, Option.bind_some, app_ok (by simp only [List.length_append, enc_length]; omega), Option.bind_some, app_ok (by simp only [List.length_append, enc_length]; omega)]
    simp only [List.append_assoc, Option.bind_some]
  · intro b _
    unfold ref17_AttrBytes_l1
    dsimp only
    rw [decide_eq_false (by omega)]
    rfl
theorem SameAttrs_eq (a b : List TApiAttr) : ref11_SameAttrs a b = some (decide (a = b)) := by
  unfold ref11_SameAttrs
  by_cases hl : a.length = b.length
  · rw [show ((a.length : Int) != (b.length : Int)) = false from by simp [hl], cond_false]
    have key : ∀ k t, a.length - t = k → t ≤ a.length → loopO (fun s => ref11_SameAttrs_l1 a b s) t = some (if a.drop t = b.drop t then .inl () else .inr false) := by
      intro k
      induction k with
      | zero =>
        intro t h1 h2
        rw [List.drop_eq_nil_of_le (by omega), List.drop_eq_nil_of_le (by omega), if_pos rfl]
        refine loop_end ?_
        unfold ref11_SameAttrs_l1
        rw [decide_eq_false (by omega)]
        rfl
      | succ k ih =>
        intro t h1 h2
        have hta : t < a.length := by omega
        have htb : t < b.length := by omega
        have hq : ((a[t].Name == b[t].Name) && (a[t].Value == b[t].Value)) = decide (a[t] = b[t]) := by
          rw [Bool.eq_iff_iff]
          simp only [Bool.and_eq_true, beq_iff_eq, decide_eq_true_eq]
          constructor
          · rintro ⟨g1, g2⟩
            cases ha : a[t] with
            | mk x y =>
              cases hb : b[t] with
              | mk x' y' =>
                rw [ha, hb] at g1 g2
                dsimp only at g1 g2
                rw [g1, g2]
          · intro h; rw [h]; exact ⟨rfl, rfl⟩
        have e : ref11_SameAttrs_l1 a b t = cond (decide (a[t] = b[t])) (some (.inl (t + 1))) (some (.inr (.inr false))) := by
          unfold ref11_SameAttrs_l1
          rw [decide_eq_true (by omega), cond_true, List.getElem?_eq_getElem hta, Option.bind_some, List.getElem?_eq_getElem htb, Option.bind_some, ← hq]
          unfold bne
          cases a[t].Name == b[t].Name <;> cases a[t].Value == b[t].Value <;> rfl
        rw [List.drop_eq_getElem_cons hta, List.drop_eq_getElem_cons htb]
        by_cases hx : a[t] = b[t]
        · rw [decide_eq_true hx] at e
          rw [loop_next e, ih (t + 1) (sub1 h1) hta, hx]
          by_cases hd : a.drop (t + 1) = b.drop (t + 1)
          · rw [if_pos hd, if_pos (by rw [hd])]
          · rw [if_neg hd, if_neg (fun e => hd (List.cons.inj e).2)]
        · rw [decide_eq_false hx] at e
          rw [loop_end e, if_neg (fun e => hx (List.cons.inj e).1)]
    have := key a.length 0 (by omega) (by omega)
    rw [this, List.drop_zero, List.drop_zero]
    by_cases h : a = b
    · simp [h, bnd]
    · simp [h, bnd]
  · rw [bne_d _ _ (by omega), cond_true, decide_eq_false (fun h => hl (by rw [h]))]
end Go.Proofs.Ytgoedcjjckdlpaa.F
