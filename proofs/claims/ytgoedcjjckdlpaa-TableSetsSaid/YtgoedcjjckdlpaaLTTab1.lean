/- Tables in plain words: numbers each once, in order. -/
import Derived.Test.YtgoedcjjckdlpaaLTP
import Derived.Test.YtgoedcjjckdlpaaW
set_option linter.unusedVariables false
set_option linter.unusedSimpArgs false
namespace Go.Proofs.Ytgoedcjjckdlpaa.F
open Go Go.RowKit Go.Proofs.Ytgoedcjjckdlpaa.K

theorem bne_d {α : Type} [BEq α] [LawfulBEq α] (a b : α) (h : a ≠ b) : (a != b) = true := by simpa using h
theorem SameInts_eq (a b : List Int) : ref17_SameInts a b = some (a == b) := by
  unfold ref17_SameInts
  by_cases hl : a.length = b.length
  · rw [show ((a.length : Int) != (b.length : Int)) = false from by simp [hl], cond_false]
    have key : ∀ k t, a.length - t = k → t ≤ a.length → loopO (fun s => ref17_SameInts_l1 a b s) t = some (if a.drop t = b.drop t then .inl () else .inr false) := by
      intro k
      induction k with
      | zero =>
        intro t h1 h2
        rw [List.drop_eq_nil_of_le (by omega), List.drop_eq_nil_of_le (by omega), if_pos rfl]
        refine loop_end ?_
        unfold ref17_SameInts_l1
        rw [decide_eq_false (by omega)]
        rfl
      | succ k ih =>
        intro t h1 h2
        have hta : t < a.length := by omega
        have htb : t < b.length := by omega
        have e : ref17_SameInts_l1 a b t = cond (a[t] != b[t]) (some (.inr (.inr false))) (some (.inl (t + 1))) := by
          unfold ref17_SameInts_l1
          rw [decide_eq_true (by omega), cond_true, List.getElem?_eq_getElem hta, Option.bind_some, List.getElem?_eq_getElem htb, Option.bind_some]
        rw [List.drop_eq_getElem_cons hta, List.drop_eq_getElem_cons htb]
        by_cases hx : a[t] = b[t]
        · rw [show (a[t] != b[t]) = false from by simp [hx]] at e
          rw [loop_next e, ih (t + 1) (by omega) (by omega), hx]
          by_cases hd : a.drop (t + 1) = b.drop (t + 1)
          · rw [if_pos hd, if_pos (by rw [hd])]
          · rw [if_neg hd, if_neg (fun e => hd (List.cons.inj e).2)]
        · rw [bne_d _ _ hx] at e
          rw [loop_end e, if_neg (fun e => hx (List.cons.inj e).1)]
    have := key a.length 0 (by omega) (by omega)
    rw [this, List.drop_zero, List.drop_zero]
    by_cases h : a = b
    · simp [h, bnd]
    · simp [h, bnd]
  · rw [bne_d _ _ (by omega), cond_true]
    congr 1
    symm
    simp only [beq_eq_false_iff_ne]
    intro h
    exact hl (by rw [h])

/-! maps -/
theorem mget_mput (k : Int) (v : Int) (x : Int) : ∀ l : List (Int × Int), mget (mput l k v) x = if x = k then some v else mget l x
  | [] => by
    unfold mget mput
    by_cases h : x = k
    · simp [h, List.find?]
    · simp [List.find?, h, show (x == k) = false from by simpa using h]
  | y :: l => by
    have ih := mget_mput k v x l
    unfold mput
    by_cases hk : k = y.1
    · rw [show (k == y.1) = true from by simp [hk], if_pos rfl]
      unfold mget
      by_cases h : x = k
      · simp [h, List.find?]
      · simp only [List.find?_cons, if_neg h]
        rw [show (x == k) = false from by simpa using h, show (x == y.1) = false from by rw [← hk]; simpa using h]
    · rw [show (k == y.1) = false from by simpa using hk, if_neg (by decide)]
      unfold mget at ih ⊢
      simp only [List.find?_cons]
      by_cases h : x = y.1
      · rw [show (x == y.1) = true from by simp [h], if_neg (fun e => hk (by rw [← e, h]))]
      · rw [show (x == y.1) = false from by simpa using h]
        exact ih
/-- Each once, in order. -/
structure Once (l r : List Int) : Prop where
  up : r.Pairwise (· < ·)
  mem : ∀ x, x ∈ r ↔ x ∈ l
theorem up_ext : ∀ {r s : List Int}, r.Pairwise (· < ·) → s.Pairwise (· < ·) → (∀ x, x ∈ r ↔ x ∈ s) → r = s
  | [], [], _, _, _ => rfl
  | [], y :: s, _, _, h => absurd ((h y).2 (by simp)) (by simp)
  | x :: r, [], _, _, h => absurd ((h x).1 (by simp)) (by simp)
  | x :: r, y :: s, h1, h2, h => by
    obtain ⟨a1, a2⟩ := List.pairwise_cons.1 h1
    obtain ⟨b1, b2⟩ := List.pairwise_cons.1 h2
    have e : x = y := by
      have hx := (h x).1 (by simp)
      have hy := (h y).2 (by simp)
      rcases List.mem_cons.1 hx with e | hx
      · exact e
      · rcases List.mem_cons.1 hy with e | hy
        · exact e.symm
        · have := a1 y hy; have := b1 x hx; omega
    subst e
    rw [up_ext a2 b2 (fun z => ?_)]
    have := h z
    simp only [List.mem_cons] at this
    constructor
    · intro hz
      rcases this.1 (.inr hz) with e | hz'
      · have := a1 z hz; omega
      · exact hz'
    · intro hz
      rcases this.2 (.inr hz) with e | hz'
      · have := b1 z hz; omega
      · exact hz'
theorem Once.eq {l r s : List Int} (h1 : Once l r) (h2 : Once l s) : r = s := up_ext h1.up h2.up (fun x => (h1.mem x).trans (h2.mem x).symm)
theorem sort_up {l : List Int} (h : l.Nodup) : (sortI l).Pairwise (· < ·) := by
  have h1 : (sortI l).Pairwise (fun a b => decide (a ≤ b) = true) := List.pairwise_mergeSort (by intro a b c; simp only [decide_eq_true_eq]; omega) (by intro a b; simp only [Bool.or_eq_true, decide_eq_true_eq]; omega) l
  have h2 : (sortI l).Nodup := (List.mergeSort_perm l _).nodup_iff.2 h
  exact (h1.and h2).imp (fun {a b} h => by have := of_decide_eq_true h.1; have := h.2; omega)
theorem Ids_loop (l : List Int) (hl : l.length ≤ 100000) : ∀ k t (seen : List (Int × Int)) (out : List Int), l.length - t = k → t ≤ l.length → (∀ x, (mget seen x).getD 0 = ((l.take t).count x : Int)) → out.Nodup → (∀ x, x ∈ out ↔ x ∈ l.take t) → out.length ≤ t →
    ∃ r, loopO (fun s => table_Ids_l1 l s.1 s.2.1 s.2.2) (seen, out, t) = some r ∧ r.Nodup ∧ (∀ x, x ∈ r ↔ x ∈ l) ∧ r.length ≤ l.length := by
  intro k
  induction k with
  | zero =>
    intro t seen out h1 h2 h3 h4 h5 h6
    have : t = l.length := by omega
    subst this
    rw [List.take_length] at h5
    refine ⟨out, loop_end ?_, h4, h5, h6⟩
    show table_Ids_l1 l seen out l.length = _
    unfold table_Ids_l1
    rw [decide_eq_false (by omega)]
    rfl
  | succ k ih =>
    intro t seen out h1 h2 h3 h4 h5 h6
    have hlt : t < l.length := by omega
    obtain ⟨x, hx⟩ : ∃ x, x = l[t] := ⟨_, rfl⟩
    have hg := List.getElem?_eq_getElem hlt
    rw [← hx] at hg
    have htk : l.take (t + 1) = l.take t ++ [x] := by rw [hx]; exact (List.take_append_getElem hlt).symm
    have hc : (l.take t).count x ≤ t := by have := List.count_le_length (a := x) (l := l.take t); rw [List.length_take] at this; omega
    have e : table_Ids_l1 l seen out t = cond ((((l.take t).count x : Int) + 1) == 1) (Option.bind (app out [x]) fun b => some (.inl (mput seen x (((l.take t).count x : Int) + 1), b, t + 1))) (some (.inl (mput seen x (((l.take t).count x : Int) + 1), out, t + 1))) := by
      unfold table_Ids_l1
      rw [decide_eq_true (by omega), cond_true, hg, Option.bind_some, h3 x, wI (by omega), mget_mput, if_pos rfl]
      rfl
    have h3' : ∀ y, (mget (mput seen x (((l.take t).count x : Int) + 1)) y).getD 0 = ((l.take (t + 1)).count y : Int) := by
      intro y
      rw [mget_mput, htk, List.count_append, List.count_singleton]
      by_cases hy : y = x
      · subst hy; simp
      · rw [if_neg hy, h3 y, show (x == y) = false from by simpa using fun e => hy e.symm]
        simp
    by_cases hz : x ∈ l.take t
    · have : 0 < (l.take t).count x := List.count_pos_iff.2 hz
      rw [show ((((l.take t).count x : Int) + 1) == 1) = false from by simp; omega, cond_false] at e
      obtain ⟨r, g1, g2⟩ := ih (t + 1) _ out (by omega) (by omega) h3' h4 (fun y => by
        rw [htk, List.mem_append, List.mem_singleton, h5 y]
        exact ⟨.inl, fun h => h.elim id (fun e => by rw [e]; exact hz)⟩) (by omega)
      exact ⟨r, (loop_next (s' := (_, out, t + 1)) e).trans g1, g2⟩
    · have : (l.take t).count x = 0 := List.count_eq_zero.2 hz
      rw [this] at e h3'
      rw [show ((((0 : Nat) : Int) + 1) == 1) = true from rfl, cond_true, app_ok (by simp; omega), Option.bind_some] at e
      obtain ⟨r, g1, g2⟩ := ih (t + 1) _ (out ++ [x]) (by omega) (by omega) h3' (by
        rw [List.nodup_append]
        refine ⟨h4, by simp, ?_⟩
        intro a ha b hb e
        rw [List.mem_singleton] at hb
        exact hz ((h5 _).1 (by rw [← hb, ← e]; exact ha))) (fun y => by rw [htk, List.mem_append, List.mem_append, h5 y]) (by simp; omega)
      exact ⟨r, (loop_next (s' := (_, out ++ [x], t + 1)) e).trans g1, g2⟩
theorem Ids_ok (l : List Int) (hl : l.length ≤ 100000) : ∃ r, table_Ids l = some r ∧ Once l r := by
  obtain ⟨r, h1, h2, h3, h4⟩ := Ids_loop l hl l.length 0 [] [] (by omega) (by omega) (by intro x; simp [mget]) (by simp) (by simp) (by simp)
  refine ⟨sortI r, ?_, sort_up h2, fun x => ?_⟩
  · unfold table_Ids
    rw [h1, Option.bind_some, chk_d (by omega)]
    rfl
  · rw [← h3 x]
    exact (List.mergeSort_perm r _).mem_iff

/-! the document's -/
def cand (out : List Int) (x : Int) : Prop := ∀ y ∈ out, y < x
theorem last_cand {out : List Int} (h : out.Pairwise (· < ·)) (hn : out ≠ []) (x : Int) : cand out x ↔ out.getLast hn < x := by
  constructor
  · intro hc; exact hc _ (List.getLast_mem hn)
  · intro hx y hy
    have e := List.dropLast_concat_getLast hn
    rw [← e] at hy h
    rcases List.mem_append.1 hy with hy | hy
    · have := (List.pairwise_append.1 h).2.2 y hy (out.getLast hn) (by simp)
      omega
    · rw [List.mem_singleton] at hy; omega
/-- The least so far. -/
structure Best (l out : List Int) (i : Nat) (b : Int) : Prop where
  lo : -1 ≤ b
  hi : b < i
  none_ : b = -1 → ∀ y ∈ l.take i, ¬ cand out y
  some_ : 0 ≤ b → ∃ x, l[b.toNat]? = some x ∧ cand out x ∧ ∀ y ∈ l.take i, cand out y → x ≤ y
theorem best_loop (l out : List Int) (hl : l.length ≤ 100000) (hu : out.Pairwise (· < ·)) : ∀ k i (b : Int), l.length - i = k → i ≤ l.length → Best l out i b → ∃ b', loopO (fun s => ref17_Ids_l2 l out s.1 s.2) (b, i) = some b' ∧ Best l out l.length b' := by
  intro k
  induction k with
  | zero =>
    intro i b h1 h2 h3
    have : i = l.length := by omega
    subst this
    refine ⟨b, loop_end ?_, h3⟩
    show ref17_Ids_l2 l out b l.length = _
    unfold ref17_Ids_l2
    rw [decide_eq_false (by omega)]
    rfl
  | succ k ih =>
    intro i b h1 h2 h3
    have hlt : i < l.length := by omega
    obtain ⟨x, hx⟩ : ∃ x, x = l[i] := ⟨_, rfl⟩
    have hg := List.getElem?_eq_getElem hlt
    rw [← hx] at hg
    have htk : l.take (i + 1) = l.take i ++ [x] := by rw [hx]; exact (List.take_append_getElem hlt).symm
    -- the round
    have go : ∀ b', ref17_Ids_l2 l out b i = some (.inl (b', i + 1)) → Best l out (i + 1) b' → ∃ b', loopO (fun s => ref17_Ids_l2 l out s.1 s.2) (b, i) = some b' ∧ Best l out l.length b' := fun b' e hb => by
      obtain ⟨c, g1, g2⟩ := ih (i + 1) b' (by omega) (by omega) hb
      exact ⟨c, (loop_next (s' := (b', i + 1)) e).trans g1, g2⟩
    have take_ : cand out x → (b < 0 ∨ ∃ z, l[b.toNat]? = some z ∧ 0 ≤ b ∧ x < z) → Best l out (i + 1) (i : Int) := fun hc hz => by
      refine ⟨by omega, by omega, by omega, fun _ => ⟨x, by rw [Int.toNat_natCast]; exact hg, hc, ?_⟩⟩
      intro y hy hcy
      rw [htk, List.mem_append, List.mem_singleton] at hy
      rcases hy with hy | rfl
      · rcases hz with hz | ⟨z, e, h0, hz⟩
        · exact absurd hcy (h3.none_ (by have := h3.lo; omega) y hy)
        · obtain ⟨z', e', _, hm⟩ := h3.some_ h0
          rw [e] at e'
          cases e'
          have := hm y hy hcy
          omega
      · omega
    have keep : (¬ cand out x ∨ ∃ z, l[b.toNat]? = some z ∧ 0 ≤ b ∧ z ≤ x) → Best l out (i + 1) b := fun hz => by
      refine ⟨h3.lo, by have := h3.hi; omega, ?_, ?_⟩
      · intro e y hy
        rw [htk, List.mem_append, List.mem_singleton] at hy
        rcases hy with hy | rfl
        · exact h3.none_ e y hy
        · rcases hz with hz | ⟨z, _, h0, _⟩
          · exact hz
          · omega
      · intro h0
        obtain ⟨z', e', hc', hm⟩ := h3.some_ h0
        refine ⟨z', e', hc', ?_⟩
        intro y hy hcy
        rw [htk, List.mem_append, List.mem_singleton] at hy
        rcases hy with hy | rfl
        · exact hm y hy hcy
        · rcases hz with hz | ⟨z, e, _, hz⟩
          · exact absurd hcy hz
          · rw [e] at e'; cases e'; exact hz
    have hbx : 0 ≤ b → ∃ z, l[b.toNat]? = some z ∧ idx l b = some z := fun h0 => by
      obtain ⟨z, e, _⟩ := h3.some_ h0
      exact ⟨z, e, by unfold idx; rw [if_pos h0]; exact e⟩
    by_cases ho : out = []
    · have hc : cand out x := fun y hy => by rw [ho] at hy; simp at hy
      by_cases hb : b < 0
      · refine go (i : Int) ?_ (take_ hc (.inl hb))
        unfold ref17_Ids_l2
        rw [decide_eq_true (by omega), cond_true, show ((out.length : Int) == 0) = true from by simp [ho], cond_true, decide_eq_true hb]
        rfl
      · obtain ⟨z, e1, e2⟩ := hbx (by omega)
        have hbody : ref17_Ids_l2 l out b i = cond (decide (x < z)) (some (.inl ((i : Int), i + 1))) (some (.inl (b, i + 1))) := by
          unfold ref17_Ids_l2
          rw [decide_eq_true (by omega), cond_true, show ((out.length : Int) == 0) = true from by simp [ho], cond_true, decide_eq_false hb, cond_false, hg, Option.bind_some, e2, Option.bind_some]
        by_cases hxz : x < z
        · rw [decide_eq_true hxz] at hbody
          exact go _ hbody (take_ hc (.inr ⟨z, e1, by omega, hxz⟩))
        · rw [decide_eq_false hxz] at hbody
          exact go _ hbody (keep (.inr ⟨z, e1, by omega, by omega⟩))
    · have hlen : 0 < out.length := List.length_pos_iff.2 ho
      have hlast : idx out ((out.length : Int) - 1) = some (out.getLast ho) := by
        rw [show (out.length : Int) - 1 = ((out.length - 1 : Nat) : Int) by omega]
        refine idx_ok ?_
        rw [← List.getLast?_eq_getElem?, List.getLast?_eq_some_getLast ho]
      have hbody : ref17_Ids_l2 l out b i = cond (decide (x > out.getLast ho)) (cond (decide (b < 0)) (some (.inl ((i : Int), i + 1))) (Option.bind (idx l b) fun x_4 => cond (decide (x < x_4)) (some (.inl ((i : Int), i + 1))) (some (.inl (b, i + 1))))) (some (.inl (b, i + 1))) := by
        unfold ref17_Ids_l2
        rw [decide_eq_true (by omega), cond_true, show ((out.length : Int) == 0) = false from by simpa using ho, cond_false, hg, Option.bind_some, hlast, Option.bind_some]
      have hcl := last_cand hu ho x
      by_cases hc : cand out x
      · rw [decide_eq_true (hcl.1 hc), cond_true] at hbody
        by_cases hb : b < 0
        · rw [decide_eq_true hb] at hbody
          exact go _ hbody (take_ hc (.inl hb))
        · obtain ⟨z, e1, e2⟩ := hbx (by omega)
          rw [decide_eq_false hb, cond_false, e2, Option.bind_some] at hbody
          by_cases hxz : x < z
          · rw [decide_eq_true hxz] at hbody
            exact go _ hbody (take_ hc (.inr ⟨z, e1, by omega, hxz⟩))
          · rw [decide_eq_false hxz] at hbody
            exact go _ hbody (keep (.inr ⟨z, e1, by omega, by omega⟩))
      · rw [decide_eq_false (fun h => hc (hcl.2 h)), cond_false] at hbody
        exact go _ hbody (keep (.inl hc))
theorem refIds_ok (l : List Int) (hl : l.length ≤ 100000) : ∃ r, ref17_Ids l = some r ∧ Once l r := by
  have key : ∀ n (out : List Int), out.Pairwise (· < ·) → (∀ x ∈ out, x ∈ l) → (∀ x ∈ l, x ∉ out → cand out x) → l.countP (fun x => decide (x ∉ out)) ≤ n → out.length + l.countP (fun x => decide (x ∉ out)) ≤ 100000 →
      ∃ r, loopO (fun s => ref17_Ids_l1 l s) out = some r ∧ Once l r := by
    intro n
    induction n with
    | zero =>
      intro out h1 h2 h3 h4 h5
      obtain ⟨b, g1, g2⟩ := best_loop l out hl h1 l.length 0 (-1) (by omega) (by omega) ⟨by omega, by omega, by simp, by omega⟩
      have hall : ∀ x ∈ l, x ∈ out := by
        intro x hx
        refine Decidable.byContradiction fun hn => ?_
        have := (List.countP_pos_iff (p := fun x => decide (x ∉ out))).2 ⟨x, hx, by simpa using hn⟩
        omega
      have hb : b < 0 := by
        refine Decidable.byContradiction fun hn => ?_
        obtain ⟨x, e, hc, _⟩ := g2.some_ (by omega)
        have hm := hall x (List.mem_of_getElem? e)
        have := hc x hm
        omega
      refine ⟨out, loop_end ?_, h1, fun x => ⟨h2 x, hall x⟩⟩
      unfold ref17_Ids_l1
      rw [g1, Option.bind_some, decide_eq_true hb]
      rfl
    | succ n ih =>
      intro out h1 h2 h3 h4 h5
      obtain ⟨b, g1, g2⟩ := best_loop l out hl h1 l.length 0 (-1) (by omega) (by omega) ⟨by omega, by omega, by simp, by omega⟩
      by_cases hb : b < 0
      · have hn := g2.none_ (by have := g2.lo; omega)
        rw [List.take_length] at hn
        refine ⟨out, loop_end ?_, h1, fun x => ⟨h2 x, fun hx => Decidable.byContradiction fun hno => hn x hx (h3 x hx hno)⟩⟩
        unfold ref17_Ids_l1
        rw [g1, Option.bind_some, decide_eq_true hb]
        rfl
      · obtain ⟨x, e, hc, hm⟩ := g2.some_ (by omega)
        rw [List.take_length] at hm
        have hxl := List.mem_of_getElem? e
        have hxo : x ∉ out := fun hx => by have := hc x hx; omega
        have hidx : idx l b = some x := by unfold idx; rw [if_pos (by omega)]; exact e
        have hpos : l.countP (fun y => decide (y ∉ out ++ [x])) < l.countP (fun y => decide (y ∉ out)) := by
          have e1 : l.countP (fun y => decide (y ∉ out)) = l.countP (fun y => decide (y ∉ out ++ [x])) + l.countP (fun y => decide (y = x)) := by
            clear hm g2 g1 e hidx hxl h3 h2 h4 h5 ih hl
            induction l with
            | nil => rfl
            | cons y l ihl =>
              rw [List.countP_cons, List.countP_cons, List.countP_cons, ihl]
              by_cases hy : y = x
              · subst hy; simp [hxo]; omega
              · by_cases hyo : y ∈ out <;> simp [hy, hyo] <;> omega
          have e2 : 0 < l.countP (fun y => decide (y = x)) := List.countP_pos_iff.2 ⟨x, hxl, by simp⟩
          omega
        obtain ⟨r, k1, k2⟩ := ih (out ++ [x]) (by
            rw [List.pairwise_append]
            exact ⟨h1, by simp, fun a ha b hb => by rw [List.mem_singleton] at hb; subst hb; exact hc a ha⟩)
          (fun y hy => by
            rcases List.mem_append.1 hy with hy | hy
            · exact h2 y hy
            · rw [List.mem_singleton] at hy; subst hy; exact hxl)
          (fun y hy hno => by
            have hyo : y ∉ out := fun h => hno (List.mem_append.2 (.inl h))
            have hyx : y ≠ x := fun h => hno (List.mem_append.2 (.inr (by rw [h]; simp)))
            have hcy := h3 y hy hyo
            have := hm y hy hcy
            intro z hz
            rcases List.mem_append.1 hz with hz | hz
            · exact hcy z hz
            · rw [List.mem_singleton] at hz; omega) (by omega) (by rw [List.length_append, List.length_singleton]; omega)
        refine ⟨r, (loop_next (s' := out ++ [x]) ?_).trans k1, k2⟩
        unfold ref17_Ids_l1
        rw [g1, Option.bind_some, decide_eq_false hb, cond_false, hidx, Option.bind_some, app_ok (by simp; omega)]
        rfl
  have hcount := List.countP_le_length (p := fun x => decide (x ∉ ([] : List Int))) (l := l)
  exact key l.length [] (by simp) (by simp) (fun x _ _ y hy => by simp at hy) hcount (by simp; omega)
/-! a place -/
theorem Index_ok (l : List Int) (v : Int) : slices_Index l v = some (match l.findIdx? (fun x => v == x) with | some i => (i : Int) | none => -1) := by
  have := loop_find l (fun s => slices_Index_l1 l v s) (fun t x => if v == x then some (t : Int) else none) ?_ ?_ l.length 0 (by omega) (by omega)
  · unfold slices_Index
    rw [this, List.drop_zero]
    have key : ∀ (l : List Int) (t : Nat), (l.zipIdx t).findSome? (fun y => if v == y.1 then some (y.2 : Int) else none) = (l.findIdx? (fun x => v == x)).map fun i => ((t + i : Nat) : Int) := by
      intro l
      induction l with
      | nil => intro t; rfl
      | cons x l ih =>
        intro t
        rw [List.zipIdx_cons, List.findSome?_cons, List.findIdx?_cons]
        cases h : (v == x)
        · simp only [Bool.false_eq_true, if_false]
          rw [ih]
          cases l.findIdx? (fun x => v == x) with
          | none => rfl
          | some i => simp; omega
        · simp
    rw [key]
    cases l.findIdx? (fun x => v == x) with
    | none => rfl
    | some i => simp [bnd]
  · intro t x hx
    have hlt := (List.getElem?_eq_some_iff.1 hx).1
    unfold slices_Index_l1
    rw [decide_eq_true (by omega), cond_true, hx, Option.bind_some]
    cases v == x <;> rfl
  · unfold slices_Index_l1
    rw [decide_eq_false (by omega)]
    rfl
end Go.Proofs.Ytgoedcjjckdlpaa.F
