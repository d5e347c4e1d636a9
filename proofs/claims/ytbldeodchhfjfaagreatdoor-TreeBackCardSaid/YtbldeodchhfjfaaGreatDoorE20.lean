/- E, part 20: the library's sort of structs, by the shelf's contract. -/
import Derived.Test.YtbldeodchhfjfaaGreatDoorE17
import Derived.Test.YtbldeodchhfjfaaGreatDoorE19
import Derived.Shelf.SlSortCmp.NoneTotal
set_option linter.unusedVariables false
set_option linter.unusedSimpArgs false
set_option linter.unusedSectionVars false
namespace Go.Proofs.YtbldeodchhfjfaaGreatDoor.K.E
open Go Go.RowKit Go.Sort

/-- Draws and new blocks: nothing else. -/
theorem ex_grow {w w' : World} (h : Go.Proofs.YtbldeodchhfjfaaGreatDoor.K.Ex w w') : ∃ q os, w' = grow (w.drewN q) os := by
  refine ⟨w'.drawn - w.drawn, w'.heap.extract w.heap.size w'.heap.size, ?_⟩
  obtain ⟨h1, h2, h3, h4, h5, h6⟩ := h
  have hh : w'.heap = w.heap ++ w'.heap.extract w.heap.size w'.heap.size := by
    apply Array.ext_getElem?
    intro k
    by_cases hk : k < w.heap.size
    · rw [h5 k hk (fun e => e), Array.getElem?_append, if_pos hk]
    · rw [Array.getElem?_append, if_neg hk, Array.getElem?_extract]
      by_cases hk2 : k < w'.heap.size
      · rw [if_pos (by omega), show w.heap.size + (k - w.heap.size) = k by omega]
      · rw [if_neg (by omega), Array.getElem?_eq_none (by omega)]
  cases w
  cases w'
  simp only [grow, World.drewN] at *
  subst h1 h2 h3
  rw [← hh]
  congr 1
  omega
section
variable {α : Type} [Inhabited α] {enc : α → List Value} {k : Nat}
/-- A row's cells, one after the other. -/
theorem flat_get (hk : ∀ x, (enc x).length = k) (h0 : 0 < k) : ∀ (l : List α) (t : Nat), t < l.length * k → (l.map enc).flatten[t]? = some ((enc (l[t / k]!))[t % k]!)
  | [], t, h => by simp at h
  | x :: l, t, h => by
    rw [List.map_cons, List.flatten_cons]
    by_cases ht : t < k
    · rw [List.getElem?_append_left (by rw [hk]; exact ht), Nat.div_eq_of_lt ht, Nat.mod_eq_of_lt ht]
      simp [List.getElem?_eq_getElem (show t < (enc x).length by rw [hk]; exact ht), List.getElem!_eq_getElem?_getD]
    · have h1 : t / k = (t - k) / k + 1 := by
        rw [Nat.div_eq_sub_div h0 (by omega)]
      have h2 : t % k = (t - k) % k := by rw [Nat.mod_eq_sub_mod (by omega)]
      rw [List.getElem?_append_right (by rw [hk]; omega), hk, flat_get hk h0 l (t - k) (by rw [List.length_cons, Nat.add_mul] at h; omega), h1, h2]
      simp
theorem flatK_list (hk : ∀ x, (enc x).length = k) (h0 : 0 < k) (d : Array α) : (Go.Sort.flatK enc k d).toList = (d.toList.map enc).flatten := by
  have hl : (d.toList.map enc).flatten.length = d.size * k := by
    rw [List.length_flatten, List.map_map]
    have : (d.toList.map (List.length ∘ enc)) = List.replicate d.size k := by
      rw [List.eq_replicate_iff]
      refine ⟨by simp, fun b hb => ?_⟩
      obtain ⟨x, _, rfl⟩ := List.mem_map.1 hb
      exact hk x
    rw [this]
    simp
  apply List.ext_getElem?
  intro t
  by_cases ht : t < d.size * k
  · rw [flat_get hk h0 _ _ (by simpa using ht)]
    simp only [Go.Sort.flatK, Array.toList_map, Array.toList_range, List.getElem?_map, List.getElem?_range ht, Option.map_some]
    have e : d[t / k]! = d.toList[t / k]! := by
      rw [List.getElem!_eq_getElem?_getD, Array.getElem?_toList, Array.getElem!_eq_getD, Array.getD_eq_getD_getElem?]
    rw [e]
  · rw [List.getElem?_eq_none (by simp [Go.Sort.flatK]; omega), List.getElem?_eq_none (by omega)]
end
theorem take_putCells (cur : Array Value) (vs : Array Value) (h : vs.size ≤ cur.size) : (putCells id 0 vs cur).toList.take vs.size = vs.toList := by
  apply List.ext_getElem?
  intro j
  by_cases hj : j < vs.size
  · rw [List.getElem?_take_of_lt hj, Array.getElem?_toList]
    simp [putCells, hj, show j < cur.size by omega]
  · rw [List.getElem?_take_eq_none (by omega), List.getElem?_eq_none (by simp; omega)]
/-- What is asked of the function that compares. -/
def CmpOk (P : Program) (tb : Tab) (g n : Nat) (cmp : tb.T n → tb.T n → Option Int) : Prop := ∀ (x y : tb.T n) (v : Int), cmp x y = some v → ∀ (m : Mem) (w : World) (cs ds : List Value), Has m w → Glob tb m → (tb.rep n).im m cs x → (tb.rep n).im m ds y →
  Calls P g #[.agg cs.toArray, .agg ds.toArray] w fun e w' => e = .returned (.int .i64 v) ∧ Go.Proofs.YtbldeodchhfjfaaGreatDoor.K.Ex w w'
/-- An element's cells, and what they stand for. -/
abbrev Elt (tb : Tab) (m : Mem) (n : Nat) (l : List (tb.T n)) := { p : List Value × tb.T n // (tb.rep n).im m p.1 p.2 ∧ p.2 ∈ l }
theorem elts {tb : Tab} {m : Mem} {n : Nat} {l : List (tb.T n)} : ∀ {xs : List Value} {l' : List (tb.T n)}, Rows (tb.rep n) m xs l' → (∀ x ∈ l', x ∈ l) → ∃ ds : List (Elt tb m n l), (ds.map (·.1.1)).flatten = xs ∧ ds.map (·.1.2) = l'
  | xs, [], h, _ => ⟨[], by rw [show xs = [] from h]; rfl, rfl⟩
  | xs, x :: l', ⟨cs, ys, h1, h2, h3⟩, hl => by
    obtain ⟨ds, e1, e2⟩ := elts h3 (fun y hy => hl y (List.mem_cons_of_mem _ hy))
    exact ⟨⟨(cs, x), h2, hl x (List.mem_cons_self ..)⟩ :: ds, by rw [List.map_cons, List.flatten_cons, e1, h1], by rw [List.map_cons, e2]⟩
theorem rows_elts {tb : Tab} {m : Mem} {n : Nat} {l : List (tb.T n)} : ∀ ds : List (Elt tb m n l), Rows (tb.rep n) m (ds.map (·.1.1)).flatten (ds.map (·.1.2))
  | [] => rfl
  | d :: ds => ⟨d.1.1, (ds.map (·.1.1)).flatten, by rw [List.map_cons, List.flatten_cons], d.2.1, rows_elts ds⟩
theorem heap_world {α : Type} [Inhabited α] (enc : α → List Value) (k : Nat) (w : World) (g n : Nat) (d : Array α) (os : Array Obj) {j : Nat} (hj : j < w.heap.size) (hne : j ≠ g) : (sortWorldK enc k w g 0 n d os).heap[j]? = w.heap[j]? := by
  unfold sortWorldK putRowK
  rw [heap_grow_old _ _ (by simpa [putRow, mapBlock, Sort.ahead] using hj)]
  simp [putRow, mapBlock, Sort.ahead, Array.getElem?_modify, hne.symm]
theorem sort_ok {P : Program} {tb : Tab} (T : TabOk tb) {ρ : Go.Shelf.Ren} (L : Go.Proofs.SlLaysF0.n6 P ρ) {f g n t : Nat} (hf : ρ.f 6 = f) (aE : ∀ w, (isAgg (ρ.t 24)).run P w = .ok true w) (zE : ∀ w, (Go.sizeOf (ρ.t 24)).run P w = .ok (tb.rep n).sz w) (h0 : 0 < (tb.rep n).sz)
    (hcall : ∀ args w, (callFunc f args).run P w = .ok (.enter f args) w) (eg : ∀ args w, (callFunc g args).run P w = .ok (.enter g args) w) {cmp : tb.T n → tb.T n → Option Int} {S : List (tb.T n) → Option (List (tb.T n))} (hS : ∀ l l', S l = some l' → SortSpec cmp l l')
    (hc : CmpOk P tb g n cmp) :
    ConOk P tb ⟨f, sh [.row n t, .fn g 0 .nil], sh [.row n t], 0, [], [0], fun x => S x.1⟩ := by
  subst hf
  intro st x y hy η m w F vals hr hlen has gl hs hd
  obtain ⟨l, u⟩ := x
  have hr : RL tb η m [.row 0, .fn g [] []] vals := hr
  have hlen : η.length = 1 := hlen
  have hs : Sep m w (its tb η [(0, st, .row n t l)]) F := hs
  have hy : S l = some y := hy
  have spec := hS l y hy
  obtain ⟨v0, r0, rfl, ⟨e0, _⟩, hr1⟩ := hr
  obtain ⟨v1, rfl, xs1, ys1, rfl, hx1, hy1⟩ := hr1.one
  have hx1 : xs1 = [] := hx1
  have hy1 : ys1 = [] := hy1
  subst hx1 hy1
  obtain ⟨F1, F2, ⟨A, c, e1, ⟨xs, h1, hown⟩, hF⟩, h2, h3, h4⟩ := hs
  rw [e0] at e1
  cases e1
  have hη : η = [.slice A l.length c] := by
    match η, hlen, e0 with
    | [u], _, e => simp at e; rw [e]
  have fin : ∀ {w' : World} {xs' : List Value}, Kp F w w' → Rows (tb.rep n) m xs' y → y.length = l.length → w'.ownsRow 0 t (tb.rep n).sz (.slice A l.length c) l.length xs' →
      ∃ (η2 : List Value) (m' : Mem) (rv bv : List Value), Value.tuple #[] = packV rv ∧ rv.length = 0 ∧ RL tb (η ++ η2) m' (up tb st (sh [.row n t]) y η.length).1 (rv ++ bv) ∧ (η ++ η2).length = (up tb st (sh [.row n t]) y η.length).2.2 ∧
      St w F m m' (bkV [.slice A l.length c, .func (.func g) #[] #[]] [] bv ++ its tb (η ++ η2) (up tb st (sh [.row n t]) y η.length).2.1) w' ∧ bv.drop 0 = [0].map (fun j => ([.slice A l.length c, .func (.func g) #[] #[]] : List Value)[j]?.getD undef) := by
    intro w' xs' hkp hrows hlen' hown'
    subst hη
    refine ⟨[.slice A l.length c], m, [], [.slice A l.length c], rfl, rfl, ?_, rfl, ?_, rfl⟩
    · exact RL.mk1 (a := .row 1) ⟨rfl, rfl⟩
    · have hmem : Has m w' := has.kp hkp hd
      refine ⟨hkp, Sub.refl _, hmem, fun _ _ e => .inl e, F1, ⟨F1, fun _ => False, ⟨A, c, by rw [hlen']; rfl, ⟨xs', hrows, by rw [hlen']; exact hown'⟩, fun k => by rw [hlen']; exact hF k⟩, fun _ e => e, fun _ _ e => e, fun k => ⟨.inl, fun e => e.elim id False.elim⟩⟩, fun k e => hd k ((h4 k).2 (.inl e)), fun k e => .inl ((h4 k).2 (.inl e))⟩
  refine .inl ⟨hcall _ _, ?_⟩
  cases hl : l with
  | nil =>
    subst hl
    have hyn : y = [] := (spec.uniq [] (List.Perm.refl _) (by simp)).symm
    subst hyn
    refine (Go.Proofs.AnyF.slices_SortFunc_none { L with } A c _ w).mono ?_
    rintro e w' ⟨rfl, rfl⟩
    exact ⟨_, rfl, fin (Kp.refl _ _) h1 rfl hown⟩
  | cons a0 l0 =>
    have hlpos : 0 < l.length := by rw [hl]; simp
    rw [← hl]
    obtain ⟨g0, cur, hA, hb, hg, hcs, htk, hnc, hcm⟩ := own_blk hown hlpos
    subst hA
    obtain ⟨ds, d1, d2⟩ := elts (l := l) h1 (fun x hx => hx)
    have hdl : ds.length = l.length := by have := congrArg List.length d2; simpa using this
    let dflt : Elt tb m n l := ds[0]'(by omega)
    letI : Inhabited (Elt tb m n l) := ⟨dflt⟩
    let enc : Elt tb m n l → List Value := fun p => p.1.1
    let cf : Elt tb m n l → Elt tb m n l → Int := fun p q => (cmp p.1.2 q.1.2).getD 0
    have hk : ∀ x, (enc x).length = (tb.rep n).sz := fun x => (tb.rep n).len x.2.1
    have h1c : ∀ x, ∀ v ∈ enc x, v.oneCell' = true := fun x v hv => (tb.rep n).one x.2.1 v hv
    have hcf : ∀ p q : Elt tb m n l, cmp p.1.2 q.1.2 = some (cf p q) := fun p q => by
      obtain ⟨v, hv⟩ := Option.isSome_iff_exists.1 (spec.all _ p.2.2 _ q.2.2)
      show cmp p.1.2 q.1.2 = some ((cmp p.1.2 q.1.2).getD 0)
      rw [hv]; rfl
    have hlt : ∀ p q : Elt tb m n l, Go.Proofs.ltOf cf p q = ltC cmp p.1.2 q.1.2 := fun p q => by
      unfold Go.Proofs.ltOf ltC
      rw [hcf p q]
    have hO : SWO (Go.Proofs.ltOf cf) := ⟨fun x => by rw [hlt]; exact spec.irr _ x.2.2, fun x y z a b => by rw [hlt] at *; exact spec.tr _ x.2.2 _ y.2.2 _ z.2.2 a b, fun x y z a b => by rw [hlt] at *; exact spec.ntr _ x.2.2 _ y.2.2 _ z.2.2 a b⟩
    have hds : ds.toArray.size = l.length := by simpa using hdl
    have hflat : (Go.Sort.flatK enc (tb.rep n).sz ds.toArray).toList = xs := by rw [flatK_list hk h0]; exact d1
    have hxl : xs.length = l.length * (tb.rep n).sz := h1.len
    have hblk : g0 < w.heap.size := blk_lt hg
    have hH : HoldsK enc (tb.rep n).sz w g0 0 ds.toArray := by
      intro j hj
      have hj' : j < xs.length := by rw [← hflat]; simpa using hj
      refine ⟨?_, by simp [World.frozen?, hg]⟩
      simp only [World.cell?, hg, Nat.zero_add, Option.isSome_none, Bool.false_eq_true, if_false]
      have h5 : (cur.toList.take (l.length * (tb.rep n).sz))[j]? = xs[j]? := by rw [htk]
      rw [List.getElem?_take_of_lt (by omega), Array.getElem?_toList] at h5
      rw [h5, ← hflat, Array.getElem?_toList]
      simp only [id_eq]
      rw [getElem!_pos _ j hj, Array.getElem?_eq_getElem hj]
    have hF0 : ∀ k, F k ↔ k = g0 := fun k => by
      rw [h4 k, hF k]
      exact ⟨fun e => e.elim (fun e => by cases e; rfl) (fun e => (h2 k e).elim), fun e => .inl (by rw [e]; rfl)⟩
    have hm0 : m g0 = none := hd g0 ((hF0 g0).2 rfl)
    have hcmp : Go.Proofs.CmpLays P g #[] enc (tb.rep n).sz cf g0 0 ds.toArray.size w := by
      intro mm os dk hdk x y
      have hasW : Has m (sortWorldK enc (tb.rep n).sz w g0 0 mm dk os) := fun j o e => by
        rw [heap_world _ _ _ _ _ _ _ (has.lt e) (fun e2 => by rw [e2, hm0] at e; cases e)]
        exact has j o e
      refine (hc x.1.2 y.1.2 (cf x y) (hcf x y) m _ x.1.1 y.1.1 hasW gl x.2.1 y.2.1).mono ?_
      rintro e w' ⟨rfl, hex⟩
      exact ⟨rfl, ex_grow hex⟩
    have key := Go.Proofs.AnyQ.slices_SortFunc L (tb.rep n).sz aE zE enc hk h1c cf hO g #[] g0 0 c ds.toArray w eg hcmp hH hblk (by rw [hds]; exact spec.len)
    rw [hds] at key
    refine key.mono ?_
    rintro e w' ⟨rfl, d', nn, os, hperm, hsort, rfl⟩
    obtain ⟨p1, p2, p3⟩ := hperm
    have hds' : d'.size = l.length := by rw [p1, hds]
    have e5 : d'.extract 0 l.length = d' := by
      rw [← hds']; exact Array.extract_size
    have e6 : ds.toArray.extract 0 l.length = ds.toArray := by
      rw [← hds]; exact Array.extract_size
    rw [e5, e6] at p3
    have hy2 : d'.toList.map (·.1.2) = y := by
      refine spec.uniq _ ?_ ?_
      · have := p3.map (fun p : Elt tb m n l => p.1.2)
        rw [show (ds.toArray.toList.map fun p : Elt tb m n l => p.1.2) = l from d2] at this
        exact this
      · rw [List.pairwise_map, List.pairwise_iff_getElem]
        intro i j hi hj hij
        have := hsort i j (Nat.zero_le _) hij (by rw [← hds']; simpa using hj)
        rw [hlt, getElem!_pos d' j (by simpa using hj), getElem!_pos d' i (by simpa using hi)] at this
        simpa using this
    have hyl : y.length = l.length := by rw [← hy2, List.length_map, Array.length_toList, hds']
    have hheap : (sortWorldK enc (tb.rep n).sz w g0 0 nn d' os).heap[g0]? = some (.cells (putCells id 0 (Go.Sort.flatK enc (tb.rep n).sz d') cur) t (0, 0)) := by
      unfold sortWorldK putRowK
      rw [heap_grow_old _ _ (by simpa [putRow, mapBlock, Sort.ahead] using hblk)]
      simp [putRow, mapBlock, Sort.ahead, Array.getElem?_modify, hg, onCells]
    have hfs : (Go.Sort.flatK enc (tb.rep n).sz d').size = l.length * (tb.rep n).sz := by rw [size_flatK, hds']
    have hle : l.length * (tb.rep n).sz ≤ cur.size := by rw [hcs]; exact Nat.mul_le_mul_right _ hnc
    have hkp : Kp F w (sortWorldK enc (tb.rep n).sz w g0 0 nn d' os) := by
      refine ⟨rfl, rfl, rfl, ?_, fun k hk hn => heap_world _ _ _ _ _ _ _ hk (fun e => hn ((hF0 k).2 e)), ?_⟩
      · simp [sortWorldK, putRowK, putRow, mapBlock, Sort.ahead, grow]
      · show w.drawn ≤ w.drawn + nn; exact Nat.le_add_right _ _
    refine ⟨_, rfl, fin hkp (xs' := (d'.toList.map enc).flatten) ?_ hyl ?_⟩
    · rw [← hy2]; exact rows_elts d'.toList
    · refine ⟨by rw [← flatK_list hk h0, Array.length_toList, hfs], .inr ⟨g0, c, _, rfl, hb, hheap, hnc, hcm, ?_, ?_⟩⟩
      · simp [putCells, hcs]
      · rw [← hfs, take_putCells _ _ (by rw [hfs]; exact hle), flatK_list hk h0]
end Go.Proofs.YtbldeodchhfjfaaGreatDoor.K.E
