/- Texts in one: M1 M2 M3 M4 M5 M6 M7. -/
import Derived.Test.YtkmhidggbnbaaaaGreatDoorBP0
import Derived.ChangeArms
import Derived.Deep.Slices
import Derived.OpenShut
import Derived.ChangeBears2
import Derived.Laws.StructEq
import Derived.ChangeKeysEq
set_option linter.unusedVariables false
set_option linter.unusedSimpArgs false
namespace Go.Proofs.YtkmhidggbnbaaaaGreatDoor.K
open Go Go.RowKit Go.ChangeShapes Go.WideShapes Go.ChangeAt
abbrev Mem := Nat → Option Obj
def Sub (m m' : Mem) : Prop := ∀ k o, m k = some o → m' k = some o
theorem Sub.refl (m : Mem) : Sub m m := fun _ _ h => h
theorem Sub.trans {a b c : Mem} (h : Sub a b) (h' : Sub b c) : Sub a c := fun k o e => h' k o (h k o e)
def Has (m : Mem) (w : World) : Prop := ∀ k o, m k = some o → w.heap[k]? = some o
def mc (m : Mem) (a : Addr) : Option Value := match m a.block with
  | some (.cells c _ _) => if a.spot.isSome then none else c[a.off]?
  | _ => none
theorem mc_some {m : Mem} {a : Addr} {v : Value} (hc : mc m a = some v) : ∃ c t f, m a.block = some (.cells c t f) ∧ (if a.spot.isSome then none else c[a.off]?) = some v := by
  unfold mc at hc
  split at hc
  · rename_i c t f hb; exact ⟨c, t, f, hb, hc⟩
  · cases hc
theorem Has.cell {m : Mem} {w : World} {a : Addr} {v : Value} (h : Has m w) (hc : mc m a = some v) : w.cell? a = some v := by
  obtain ⟨c, t, f, h1, h2⟩ := mc_some hc
  simp only [World.cell?, h _ _ h1]
  exact h2
theorem Sub.cell {m m' : Mem} {a : Addr} {v : Value} (h : Sub m m') (hc : mc m a = some v) : mc m' a = some v := by
  obtain ⟨c, t, f, h1, h2⟩ := mc_some hc
  simp only [mc, h _ _ h1]
  exact h2
theorem Has.lt {m : Mem} {w : World} {k : Nat} {o : Obj} (h : Has m w) (hk : m k = some o) : k < w.heap.size := blk_lt (h _ _ hk)
theorem Has.sub {m m' : Mem} {w : World} (h : Has m' w) (hs : Sub m m') : Has m w := fun k o e => h k o (hs k o e)
theorem Has.kp {S : Nat → Prop} {m : Mem} {w w' : World} (h : Has m w) (hk : Kp S w w') (hs : ∀ k, S k → m k = none) : Has m w' := fun k o e => by
  rw [hk.block k (h.lt e) (fun hS => by rw [hs k hS] at e; cases e)]
  exact h k o e
def memOf (w : World) : Mem := fun k => w.heap[k]?
theorem Has.of (w : World) : Has (memOf w) w := fun _ _ h => h
structure Rep (α : Type) where
  sz : Nat
  im : Mem → List Value → α → Prop
  wf : α → Prop
  mono : ∀ {m m' : Mem} {cs : List Value} {x : α}, Sub m m' → im m cs x → im m' cs x
  len : ∀ {m : Mem} {cs : List Value} {x : α}, im m cs x → cs.length = sz
  one : ∀ {m : Mem} {cs : List Value} {x : α}, im m cs x → ∀ u ∈ cs, u.oneCell' = true
def CsM (m : Mem) (A : Option Addr) (cs : List Value) : Prop := ∀ j u, cs[j]? = some u → ∃ ad, A = some ad ∧ mc m (ad.add j) = some u
theorem CsM.mono {m m' : Mem} {A : Option Addr} {cs : List Value} (h : CsM m A cs) (hs : Sub m m') : CsM m' A cs := fun j u hj =>
  let ⟨ad, h1, h2⟩ := h j u hj
  ⟨ad, h1, hs.cell h2⟩
theorem CsM.cs {m : Mem} {w : World} {A : Option Addr} {cs : List Value} (h : CsM m A cs) (hm : Has m w) : Cs 0 w.heap.size w A cs := fun j u hj => by
  obtain ⟨ad, h1, h2⟩ := h j u hj
  have := hm.cell h2
  refine ⟨ad, h1, Nat.zero_le _, ?_, this⟩
  have := World.block_lt_of_cell? w _ this
  rwa [add_block] at this
theorem CsM.nil (m : Mem) (A : Option Addr) : CsM m A [] := fun j u h => by simp at h
theorem CsM.take {m : Mem} {A : Option Addr} {cs : List Value} (h : CsM m A cs) (n : Nat) : CsM m A (cs.take n) := fun j u hj => h j u (by
  rw [List.getElem?_take] at hj
  split at hj
  · exact hj
  · cases hj)
theorem CsM.drop {m : Mem} {A : Option Addr} {cs : List Value} (h : CsM m A cs) (i : Nat) : CsM m (A.map (·.add i)) (cs.drop i) := fun j u hj => by
  rw [List.getElem?_drop] at hj
  obtain ⟨ad, e, hc⟩ := h _ u hj
  exact ⟨ad.add i, by rw [e]; rfl, by rw [add_add]; exact hc⟩
theorem CsM.cut {m : Mem} {A : Option Addr} {cs : List Value} {sz : Nat} (hc : CsM m A cs) (l cap : Nat) (hl : cs.length ≤ cap * sz) : CsM m (if cap = l then A else A.map (·.add (l * sz))) (cs.drop (l * sz)) := by
  by_cases e : cap = l
  · subst e
    rw [if_pos rfl, List.drop_eq_nil_of_le hl]
    exact CsM.nil _ _
  · rw [if_neg e]
    exact hc.drop _
def Rows {α : Type} (r : Rep α) (m : Mem) : List Value → List α → Prop
  | xs, [] => xs = []
  | xs, x :: l => ∃ cs ys, xs = cs ++ ys ∧ r.im m cs x ∧ Rows r m ys l
section
variable {α : Type} {r : Rep α} {m m' : Mem}
theorem Rows.mono (hs : Sub m m') : ∀ {l : List α} {xs : List Value}, Rows r m xs l → Rows r m' xs l
  | [], _, h => h
  | _ :: _, _, ⟨cs, ys, h1, h2, h3⟩ => ⟨cs, ys, h1, r.mono hs h2, h3.mono hs⟩
theorem Rows.len : ∀ {l : List α} {xs : List Value}, Rows r m xs l → xs.length = l.length * r.sz
  | [], xs, h => by rw [show xs = [] from h]; simp
  | x :: l, xs, ⟨cs, ys, h1, h2, h3⟩ => by rw [h1, List.length_append, r.len h2, h3.len, List.length_cons, Nat.add_mul]; omega
theorem Rows.one : ∀ {l : List α} {xs : List Value}, Rows r m xs l → ∀ u ∈ xs, u.oneCell' = true
  | [], xs, h => by rw [show xs = [] from h]; simp
  | x :: l, xs, ⟨cs, ys, h1, h2, h3⟩ => by
    intro u hu
    rw [h1, List.mem_append] at hu
    exact hu.elim (r.one h2 u) (h3.one u)
theorem Rows.app : ∀ {l l' : List α} {xs ys : List Value}, Rows r m xs l → Rows r m ys l' → Rows r m (xs ++ ys) (l ++ l')
  | [], l', xs, ys, h, h' => by rw [show xs = [] from h]; exact h'
  | x :: l, l', xs, ys, ⟨cs, zs, h1, h2, h3⟩, h' => ⟨cs, zs ++ ys, by rw [h1, List.append_assoc], h2, h3.app h'⟩
theorem Rows.nil : Rows r m [] ([] : List α) := rfl
theorem Rows.cons {cs ys : List Value} {x : α} {l : List α} (h : r.im m cs x) (h' : Rows r m ys l) : Rows r m (cs ++ ys) (x :: l) := ⟨cs, ys, rfl, h, h'⟩
theorem Rows.single {cs : List Value} {x : α} (h : r.im m cs x) : Rows r m cs [x] := ⟨cs, [], by simp, h, rfl⟩
theorem Rows.take : ∀ {l : List α} {xs : List Value} (n : Nat), Rows r m xs l → Rows r m (xs.take (n * r.sz)) (l.take n)
  | [], xs, n, h => by rw [show xs = [] from h]; simp; rfl
  | x :: l, xs, 0, h => by simp; rfl
  | x :: l, xs, n + 1, ⟨cs, ys, h1, h2, h3⟩ => by
    have hl := r.len h2
    refine ⟨cs, ys.take (n * r.sz), ?_, h2, h3.take n⟩
    rw [h1, List.take_append, List.take_of_length_le (by rw [hl, Nat.add_mul]; omega), hl, Nat.add_mul, show n * r.sz + 1 * r.sz - r.sz = n * r.sz by omega]
theorem Rows.drop : ∀ {l : List α} {xs : List Value} (n : Nat), Rows r m xs l → Rows r m (xs.drop (n * r.sz)) (l.drop n)
  | [], xs, n, h => by rw [show xs = [] from h]; simp; rfl
  | x :: l, xs, 0, h => by simpa using h
  | x :: l, xs, n + 1, ⟨cs, ys, h1, h2, h3⟩ => by
    have hl := r.len h2
    rw [h1, List.drop_append, List.drop_eq_nil_of_le (by rw [hl, Nat.add_mul]; omega), hl, Nat.add_mul, show n * r.sz + 1 * r.sz - r.sz = n * r.sz by omega, List.nil_append, List.drop_succ_cons]
    exact h3.drop n
theorem Rows.get : ∀ {l : List α} {xs : List Value} {i : Nat} {x : α}, Rows r m xs l → l[i]? = some x → ∃ cs, r.im m cs x ∧ ∀ j v, cs[j]? = some v → xs[i * r.sz + j]? = some v
  | [], _, i, x, _, h => by simp at h
  | y :: l, xs, 0, x, ⟨cs, ys, h1, h2, h3⟩, h => by
    simp at h
    subst h
    refine ⟨cs, h2, fun j v hv => ?_⟩
    rw [h1, List.getElem?_append_left (by have := (List.getElem?_eq_some_iff.1 hv).1; omega), Nat.zero_mul, Nat.zero_add]
    exact hv
  | y :: l, xs, i + 1, x, ⟨cs, ys, h1, h2, h3⟩, h => by
    obtain ⟨ds, h4, h5⟩ := h3.get (by simpa using h)
    refine ⟨ds, h4, fun j v hv => ?_⟩
    have hl := r.len h2
    rw [h1, List.getElem?_append_right (by rw [hl, Nat.add_mul]; omega), hl, Nat.add_mul, show i * r.sz + 1 * r.sz + j - r.sz = i * r.sz + j by omega]
    exact h5 j v hv
theorem Rows.set : ∀ {l : List α} {xs : List Value} {i : Nat} {x : α} {cs : List Value}, Rows r m xs l → i < l.length → r.im m cs x → Rows r m (xs.take (i * r.sz) ++ cs ++ xs.drop (i * r.sz + r.sz)) (l.set i x) := by
  intro l xs i x cs h hi hx
  have h1 := h.take i
  have h2 := h.drop (i + 1)
  have e : l.set i x = l.take i ++ [x] ++ l.drop (i + 1) := by rw [List.set_eq_take_append_cons_drop, if_pos hi]; simp
  rw [e, show i * r.sz + r.sz = (i + 1) * r.sz by rw [Nat.add_mul]; omega]
  exact (h1.app (Rows.single hx)).app h2
end
structure SlI {α : Type} (r : Rep α) (m : Mem) (A : Option Addr) (c : Nat) (l : List α) : Prop where
  le : l.length ≤ c
  max : c ≤ maxLen
  cs : ∃ xs, Rows r m xs l ∧ CsM m A xs
section
variable {α : Type} {r : Rep α} {m m' : Mem} {A : Option Addr} {c : Nat} {l : List α}
theorem SlI.mono (h : SlI r m A c l) (hs : Sub m m') : SlI r m' A c l :=
  let ⟨xs, h1, h2⟩ := h.cs
  ⟨h.le, h.max, xs, h1.mono hs, h2.mono hs⟩
theorem SlI.nil (r : Rep α) (m : Mem) : SlI r m none 0 ([] : List α) := ⟨Nat.le_refl _, by simp [maxLen], [], rfl, CsM.nil _ _⟩
theorem SlI.bound (h : SlI r m A c l) : l.length ≤ 9223372036854775807 := Nat.le_trans h.le h.max
theorem SlI.at_ (h : SlI r m A c l) {i : Nat} {x : α} (hx : l[i]? = some x) (h0 : 0 < r.sz) : ∃ ad cs, A = some ad ∧ r.im m cs x ∧ ∀ j v, cs[j]? = some v → mc m ((ad.add (i * r.sz)).add j) = some v := by
  obtain ⟨xs, h1, h2⟩ := h.cs
  obtain ⟨cs, h3, h4⟩ := h1.get hx
  have hl := r.len h3
  have h5 := h4 0 _ (List.getElem?_eq_getElem (by omega))
  obtain ⟨ad, rfl, _⟩ := h2 _ _ h5
  refine ⟨ad, cs, rfl, h3, fun j v hv => ?_⟩
  obtain ⟨ad', e, h6⟩ := h2 _ _ (h4 j v hv)
  cases e
  rw [add_add]
  exact h6
end
def rI64 : Rep Int where
  sz := 1
  im _ cs n := cs = [.int .i64 n]
  wf n := -9223372036854775808 ≤ n ∧ n ≤ 9223372036854775807
  mono _ h := h
  len h := by rw [h]; rfl
  one h := by rw [h]; intro u hu; simp only [List.mem_singleton] at hu; subst hu; rfl
def rU8 : Rep UInt8 where
  sz := 1
  im _ cs n := cs = [.int .u8 (n.toNat : Int)]
  wf _ := True
  mono _ h := h
  len h := by rw [h]; rfl
  one h := by rw [h]; intro u hu; simp only [List.mem_singleton] at hu; subst hu; rfl
def rBool : Rep Bool where
  sz := 1
  im _ cs n := cs = [.bool n]
  wf _ := True
  mono _ h := h
  len h := by rw [h]; rfl
  one h := by rw [h]; intro u hu; simp only [List.mem_singleton] at hu; subst hu; rfl
def rStr : Rep (List UInt8) where
  sz := 1
  im _ cs s := cs = [.string ⟨s.toArray⟩] ∧ s.length ≤ 9223372036854775807
  wf s := s.length ≤ 9223372036854775807
  mono _ h := h
  len h := by rw [h.1]; rfl
  one h := by rw [h.1]; intro u hu; simp only [List.mem_singleton] at hu; subst hu; rfl
def rSl {α : Type} (r : Rep α) : Rep (List α) where
  sz := 1
  im m cs l := ∃ A c, cs = [.slice A l.length c] ∧ SlI r m A c l
  wf l := l.length ≤ 9223372036854775807 ∧ ∀ x ∈ l, r.wf x
  mono hs := fun ⟨A, c, h1, h2⟩ => ⟨A, c, h1, h2.mono hs⟩
  len := fun ⟨A, c, h1, _⟩ => by rw [h1]; rfl
  one := fun ⟨A, c, h1, _⟩ => by rw [h1]; intro u hu; simp only [List.mem_singleton] at hu; subst hu; rfl
theorem Rows.u8 {m : Mem} : ∀ {l : List UInt8} {xs : List Value}, Rows rU8 m xs l ↔ xs = bs l
  | [], xs => Iff.rfl
  | b :: l, xs => by
    constructor
    · rintro ⟨cs, ys, h1, h2, h3⟩
      rw [h1, show cs = _ from h2, Rows.u8.1 h3]
      rfl
    · intro h
      exact ⟨_, bs l, by rw [h]; rfl, rfl, Rows.u8.2 rfl⟩
theorem SlI.bytes {m : Mem} {A : Option Addr} {c : Nat} {l : List UInt8} (h : SlI rU8 m A c l) : CsM m A (bs l) := by
  obtain ⟨xs, h1, h2⟩ := h.cs
  rwa [Rows.u8.1 h1] at h2
structure Item where
  P : Mem → World → (Nat → Prop) → Prop
  loc : ∀ {m : Mem} {w w' : World} {F : Nat → Prop}, P m w F → (∀ k, F k → w'.heap[k]? = w.heap[k]?) → P m w' F
  mono : ∀ {m m' : Mem} {w : World} {F : Nat → Prop}, Sub m m' → P m w F → P m' w F
  dom : ∀ {m : Mem} {w : World} {F : Nat → Prop}, P m w F → ∀ k, F k → k < w.heap.size
def blkI (g : Nat) (cs : List Value) (t : TypeId) : Item where
  P _ w F := w.heap[g]? = some (.cells cs.toArray t (0, 0)) ∧ ∀ k, F k ↔ k = g
  loc h hk := ⟨(hk g ((h.2 g).2 rfl)).trans h.1, h.2⟩
  mono _ h := h
  dom h k hk := by rw [(h.2 k).1 hk]; exact blk_lt h.1
theorem own_loc {w w' : World} {base n size : Nat} {e : TypeId} {v : Value} {xs : List Value} (h : w.ownsRow base e size v n xs) (hk : ∀ k, v.ownBlock = some k → w'.heap[k]? = w.heap[k]?) : w'.ownsRow base e size v n xs := by
  refine ⟨h.1, ?_⟩
  rcases h.2 with hn | ⟨g, cap, cur, rfl, hb, hg, r⟩
  · exact .inl hn
  · exact .inr ⟨g, cap, cur, rfl, hb, (hk g rfl).trans hg, r⟩
def rowI {α : Type} (r : Rep α) (t : TypeId) (A : Option Addr) (c : Nat) (l : List α) : Item where
  P m w F := (∃ xs, Rows r m xs l ∧ w.ownsRow 0 t r.sz (.slice A l.length c) l.length xs) ∧ ∀ k, F k ↔ (Value.slice A l.length c).ownBlock = some k
  loc := fun ⟨⟨xs, h1, h2⟩, h3⟩ hk => ⟨⟨xs, h1, own_loc h2 (fun k e => hk k ((h3 k).2 e))⟩, h3⟩
  mono hs := fun ⟨⟨xs, h1, h2⟩, h3⟩ => ⟨⟨xs, h1.mono hs, h2⟩, h3⟩
  dom := fun ⟨⟨xs, h1, h2⟩, h3⟩ k hk => own_lt h2 k ((h3 k).1 hk).symm
def objI (g : Nat) (o : Obj) : Item where
  P _ w F := w.heap[g]? = some o ∧ ∀ k, F k ↔ k = g
  loc h hk := ⟨(hk g ((h.2 g).2 rfl)).trans h.1, h.2⟩
  mono _ h := h
  dom h k hk := by rw [(h.2 k).1 hk]; exact blk_lt h.1
def Sep (m : Mem) (w : World) : List Item → (Nat → Prop) → Prop
  | [], F => ∀ k, ¬ F k
  | i :: r, F => ∃ F1 F2, i.P m w F1 ∧ Sep m w r F2 ∧ (∀ k, F1 k → F2 k → False) ∧ ∀ k, F k ↔ F1 k ∨ F2 k
section
variable {m m' : Mem} {w w' : World}
theorem Sep.loc : ∀ {σ : List Item} {F : Nat → Prop}, Sep m w σ F → (∀ k, F k → w'.heap[k]? = w.heap[k]?) → Sep m w' σ F
  | [], _, h, _ => h
  | i :: r, F, ⟨F1, F2, h1, h2, h3, h4⟩, hk => ⟨F1, F2, i.loc h1 (fun k e => hk k ((h4 k).2 (.inl e))), h2.loc (fun k e => hk k ((h4 k).2 (.inr e))), h3, h4⟩
theorem Sep.mono (hs : Sub m m') : ∀ {σ : List Item} {F : Nat → Prop}, Sep m w σ F → Sep m' w σ F
  | [], _, h => h
  | i :: r, F, ⟨F1, F2, h1, h2, h3, h4⟩ => ⟨F1, F2, i.mono hs h1, h2.mono hs, h3, h4⟩
theorem Sep.dom : ∀ {σ : List Item} {F : Nat → Prop}, Sep m w σ F → ∀ k, F k → k < w.heap.size
  | [], _, h, k, hk => (h k hk).elim
  | i :: r, F, ⟨F1, F2, h1, h2, h3, h4⟩, k, hk => ((h4 k).1 hk).elim (i.dom h1 k) (h2.dom k)
theorem Sep.app : ∀ {σ τ : List Item} {F : Nat → Prop}, Sep m w (σ ++ τ) F ↔ ∃ F1 F2, Sep m w σ F1 ∧ Sep m w τ F2 ∧ (∀ k, F1 k → F2 k → False) ∧ ∀ k, F k ↔ F1 k ∨ F2 k
  | [], τ, F => ⟨fun h => ⟨fun _ => False, F, fun _ e => e, h, fun _ e => e.elim, fun k => ⟨.inr, fun e => e.elim False.elim id⟩⟩, fun ⟨F1, F2, h1, h2, h3, h4⟩ => by
      have : F = F2 := funext fun k => propext ⟨fun e => ((h4 k).1 e).elim (fun e => (h1 k e).elim) id, fun e => (h4 k).2 (.inr e)⟩
      subst this
      exact h2⟩
  | i :: r, τ, F => by
    constructor
    · rintro ⟨F1, F2, h1, h2, h3, h4⟩
      obtain ⟨G1, G2, k1, k2, k3, k4⟩ := Sep.app.1 h2
      refine ⟨fun k => F1 k ∨ G1 k, G2, ⟨F1, G1, h1, k1, fun k a b => h3 k a ((k4 k).2 (.inl b)), fun k => Iff.rfl⟩, k2, ?_, ?_⟩
      · intro k a b
        exact a.elim (fun a => h3 k a ((k4 k).2 (.inr b))) (fun a => k3 k a b)
      · intro k
        rw [h4, k4, or_assoc]
    · rintro ⟨F1, G2, ⟨F3, G1, h1, k1, h3, h4⟩, k2, k3, k4⟩
      refine ⟨F3, fun k => G1 k ∨ G2 k, h1, Sep.app.2 ⟨G1, G2, k1, k2, fun k a b => k3 k ((h4 k).2 (.inr a)) b, fun k => Iff.rfl⟩, ?_, ?_⟩
      · intro k a b
        exact b.elim (h3 k a) (fun b => k3 k ((h4 k).2 (.inl a)) b)
      · intro k
        rw [k4, h4, or_assoc]
end
theorem split_at {σ : List Item} {n : Nat} {i : Item} (hn : σ[n]? = some i) : σ = σ.take n ++ i :: σ.drop (n + 1) := by
  have hl := (List.getElem?_eq_some_iff.1 hn).1
  have he := (List.getElem?_eq_some_iff.1 hn).2
  rw [← he, ← List.drop_eq_getElem_cons hl, List.take_append_drop]
theorem erase_at (σ : List Item) (n : Nat) : σ.eraseIdx n = σ.take n ++ σ.drop (n + 1) := List.eraseIdx_eq_take_drop_succ σ n
theorem Sep.mid {m : Mem} {w : World} {σ : List Item} {F : Nat → Prop} {n : Nat} {i : Item} (hn : σ[n]? = some i) :
    Sep m w σ F ↔ Sep m w (i :: σ.eraseIdx n) F := by
  conv => lhs; rw [split_at hn]
  rw [erase_at]
  constructor
  · intro h
    obtain ⟨F1, F2, h1, ⟨F3, F4, h2, h3, h4, h5⟩, h6, h7⟩ := Sep.app.1 h
    refine ⟨F3, fun k => F1 k ∨ F4 k, h2, Sep.app.2 ⟨F1, F4, h1, h3, fun k a b => h6 k a ((h5 k).2 (.inr b)), fun k => Iff.rfl⟩, ?_, ?_⟩
    · intro k a b
      exact b.elim (fun b => h6 k b ((h5 k).2 (.inl a))) (h4 k a)
    · intro k
      rw [h7, h5, or_left_comm]
  · rintro ⟨F3, F14, h2, h14, h6, h7⟩
    obtain ⟨F1, F4, h1, h3, h4, h5⟩ := Sep.app.1 h14
    refine Sep.app.2 ⟨F1, fun k => F3 k ∨ F4 k, h1, ⟨F3, F4, h2, h3, fun k a b => h6 k a ((h5 k).2 (.inr b)), fun k => Iff.rfl⟩, ?_, ?_⟩
    · intro k a b
      exact b.elim (fun b => h6 k b ((h5 k).2 (.inl a))) (h4 k a)
    · intro k
      rw [h7, h5, or_left_comm]
theorem set_erase {σ : List Item} {n : Nat} {i j : Item} (hn : σ[n]? = some i) : (σ.set n j)[n]? = some j ∧ (σ.set n j).eraseIdx n = σ.eraseIdx n := by
  have hl := (List.getElem?_eq_some_iff.1 hn).1
  refine ⟨by simp [hl], ?_⟩
  rw [erase_at, erase_at, List.take_set_of_le (Nat.le_refl _), List.drop_set_of_lt (by omega)]
structure St (w0 : World) (F0 : Nat → Prop) (m0 m : Mem) (σ : List Item) (w : World) : Prop where
  kp : Kp F0 w0 w
  sub : Sub m0 m
  has : Has m w
  new : ∀ k o, m k = some o → m0 k = some o ∨ F0 k ∨ w0.heap.size ≤ k
  sep : ∃ F, Sep m w σ F ∧ (∀ k, F k → m k = none) ∧ ∀ k, F k → F0 k ∨ w0.heap.size ≤ k
abbrev noF : Nat → Prop := fun _ => False
section
variable {w0 : World} {F0 : Nat → Prop} {m0 m : Mem} {σ τ : List Item} {w w1 : World}
theorem St.start {its : List Item} {F : Nat → Prop} (hm : Has m w) (hs : Sep m w its F) (hF : ∀ k, F k → m k = none) : St w F m m its w :=
  ⟨Kp.refl _ _, Sub.refl _, hm, fun _ _ h => .inl h, F, hs, hF, fun _ h => .inl h⟩
theorem St.start0 (hm : Has m w) : St w noF m m [] w := St.start hm (fun _ h => h) (fun _ h => h.elim)
theorem St.ex (H : St w0 F0 m0 m σ w) (hx : Ex w w1) : St w0 F0 m0 m σ w1 := by
  obtain ⟨F, h1, h2, h3⟩ := H.sep
  exact ⟨H.kp.ex hx, H.sub, H.has.kp hx (fun _ h => h.elim), H.new, F, h1.loc (fun k hk => hx.block k (h1.dom k hk) (fun e => e)), h2, h3⟩
theorem St.pull (H : St w0 F0 m0 m σ w) (n : Nat) {i : Item} (hn : σ[n]? = some i) : St w0 F0 m0 m (i :: σ.eraseIdx n) w := by
  obtain ⟨F, h1, h2⟩ := H.sep
  exact ⟨H.kp, H.sub, H.has, H.new, F, (Sep.mid hn).1 h1, h2⟩
theorem St.step0 {i : Item} (H : St w0 F0 m0 m (i :: σ) w) : ∃ F, i.P m w F ∧ (∀ k, F k → m k = none ∧ k < w.heap.size) ∧
    ∀ (m1 : Mem) (w1 : World) (τ : List Item) (G : Nat → Prop), Kp F w w1 → Sub m m1 → Has m1 w1 → (∀ k o, m1 k = some o → m k = some o ∨ F k ∨ w.heap.size ≤ k) → Sep m1 w1 τ G → (∀ k, G k → m1 k = none) → (∀ k, G k → F k ∨ w.heap.size ≤ k) → St w0 F0 m0 m1 (τ ++ σ) w1 := by
  obtain ⟨F, ⟨F1, F2, h1, h2, h3, h4⟩, h5, h6⟩ := H.sep
  refine ⟨F1, h1, fun k hk => ⟨h5 k ((h4 k).2 (.inl hk)), i.dom h1 k hk⟩, ?_⟩
  intro m1 w1 τ G hk hs hh hn hg hgm hgd
  have hsz := H.kp.size
  refine ⟨H.kp.step hk (fun k hF hlt => (h6 k ((h4 k).2 (.inl hF))).elim id (fun h => by omega)), H.sub.trans hs, hh, ?_, fun k => G k ∨ F2 k, ?_, ?_, ?_⟩
  · intro k o e
    rcases hn k o e with e | e | e
    · exact H.new k o e
    · exact .inr (h6 k ((h4 k).2 (.inl e)))
    · exact .inr (.inr (by omega))
  · have h2' : Sep m1 w1 σ F2 := (h2.mono hs).loc (fun k hF => hk.block k (h2.dom k hF) (fun e => h3 k e hF))
    refine Sep.app.2 ⟨G, F2, hg, h2', ?_, fun k => Iff.rfl⟩
    intro k a b
    rcases hgd k a with e | e
    · exact h3 k e b
    · have := h2.dom k b
      omega
  · rintro k (e | e)
    · exact hgm k e
    · cases hm1 : m1 k with
      | none => rfl
      | some o =>
        exfalso
        rcases hn k o hm1 with e1 | e1 | e1
        · have := h5 k ((h4 k).2 (.inr e))
          rw [this] at e1
          cases e1
        · exact h3 k e1 e
        · have := h2.dom k e
          omega
  · rintro k (e | e)
    · rcases hgd k e with e | e
      · exact h6 k ((h4 k).2 (.inl e))
      · exact .inr (by omega)
    · exact h6 k ((h4 k).2 (.inr e))
def emp : Item where
  P _ _ F := ∀ k, ¬ F k
  loc h _ := h
  mono _ h := h
  dom h k hk := (h k hk).elim
theorem St.emp (H : St w0 F0 m0 m σ w) : St w0 F0 m0 m (emp :: σ) w := by
  obtain ⟨F, h1, h2⟩ := H.sep
  exact ⟨H.kp, H.sub, H.has, H.new, F, ⟨fun _ => False, F, fun _ e => e, h1, fun _ e => e.elim, fun k => ⟨.inr, fun e => e.elim False.elim id⟩⟩, h2⟩
theorem Sep.one {i : Item} {m : Mem} {w : World} {F : Nat → Prop} (h : i.P m w F) : Sep m w [i] F := ⟨F, fun _ => False, h, fun _ e => e, fun _ _ e => e, fun k => ⟨.inl, fun e => e.elim id False.elim⟩⟩
theorem St.upd (H : St w0 F0 m0 m σ w) (n : Nat) {i : Item} (hn : σ[n]? = some i) : ∃ F, i.P m w F ∧ (∀ k, F k → m k = none ∧ k < w.heap.size) ∧
    ∀ (w1 : World) (j : Item) (G : Nat → Prop), Kp F w w1 → j.P m w1 G → (∀ k, G k → F k ∨ w.heap.size ≤ k) → St w0 F0 m0 m (σ.set n j) w1 := by
  obtain ⟨F, h1, h2, h3⟩ := (H.pull n hn).step0
  refine ⟨F, h1, h2, fun w1 j G hk hj hG => ?_⟩
  have hgm : ∀ k, G k → m k = none := fun k hk => (hG k hk).elim (fun e => (h2 k e).1) (fun e => by
    cases hm : m k with
    | none => rfl
    | some o => have := H.has.lt hm; omega)
  have hX := h3 m w1 [j] G hk (Sub.refl _) (H.has.kp hk (fun k e => (h2 k e).1)) (fun k o e => .inl e) (Sep.one hj) hgm hG
  obtain ⟨e1, e2⟩ := set_erase (j := j) hn
  obtain ⟨K, k1, k2⟩ := hX.sep
  exact ⟨hX.kp, hX.sub, hX.has, hX.new, K, (Sep.mid e1).2 (by rw [e2]; exact k1), k2⟩
theorem St.add (H : St w0 F0 m0 m σ w) {j : Item} {G : Nat → Prop} (hx : Ex w w1) (hj : j.P m w1 G) (hG : ∀ k, G k → w.heap.size ≤ k) : St w0 F0 m0 m (j :: σ) w1 := by
  obtain ⟨F, h1, h2, h3⟩ := H.emp.step0
  have hgm : ∀ k, G k → m k = none := fun k hk => by
    cases hm : m k with
    | none => rfl
    | some o => have := H.has.lt hm; have := hG k hk; omega
  exact h3 m w1 [j] G (hx.mono (fun _ _ e => e.elim)) (Sub.refl _) (H.has.kp hx (fun _ e => e.elim)) (fun k o e => .inl e) (Sep.one hj) hgm (fun k e => .inr (hG k e))
theorem St.drop0 {i : Item} (H : St w0 F0 m0 m (i :: σ) w) : St w0 F0 m0 m σ w := by
  obtain ⟨F, h1, h2, h3⟩ := H.step0
  exact h3 m w [] (fun _ => False) (Kp.refl _ _) (Sub.refl _) H.has (fun k o e => .inl e) (fun _ e => e) (fun _ e => e.elim) (fun _ e => e.elim)
theorem St.drop (H : St w0 F0 m0 m σ w) (n : Nat) {i : Item} (hn : σ[n]? = some i) : St w0 F0 m0 m (σ.eraseIdx n) w := (H.pull n hn).drop0
theorem St.dropAll : ∀ {σ : List Item}, St w0 F0 m0 m σ w → St w0 F0 m0 m [] w
  | [], H => H
  | _ :: _, H => H.drop0.dropAll
theorem St.scalar (H : St w0 noF m0 m σ w) : Ex w0 w := H.kp
open Classical in
theorem St.fix0 {i : Item} (H : St w0 F0 m0 m (i :: σ) w) : ∃ F m1, i.P m w F ∧ Sub m m1 ∧ (∀ k, F k → m1 k = w.heap[k]?) ∧ St w0 F0 m0 m1 σ w := by
  obtain ⟨F, h1, h2, h3⟩ := H.step0
  have hs : Sub m (fun k => if F k then w.heap[k]? else m k) := fun k o e => by
    show (if F k then w.heap[k]? else m k) = some o
    by_cases h : F k
    · rw [(h2 k h).1] at e; cases e
    · rw [if_neg h]; exact e
  refine ⟨F, fun k => if F k then w.heap[k]? else m k, h1, hs, fun k hk => if_pos hk, ?_⟩
  refine h3 _ w [] (fun _ => False) (Kp.refl _ _) hs ?_ ?_ (fun _ e => e) (fun _ e => e.elim) (fun _ e => e.elim)
  · intro k o e
    have e : (if F k then w.heap[k]? else m k) = some o := e
    split at e
    · exact e
    · exact H.has k o e
  · intro k o e
    have e : (if F k then w.heap[k]? else m k) = some o := e
    split at e
    · exact .inr (.inl (by assumption))
    · exact .inl e
theorem mc_blk {m : Mem} {g : Nat} {cs : List Value} {t : TypeId} {f : Nat × Nat} (h : m g = some (.cells cs.toArray t f)) {i : Nat} {v : Value} (hv : cs[i]? = some v) : mc m ⟨g, i, none⟩ = some v := by
  simp [mc, h, hv]
theorem St.fixR (H : St w0 F0 m0 m σ w) {α : Type} {r : Rep α} (n : Nat) {A : Option Addr} {c : Nat} {l : List α} {t : TypeId} (hn : σ[n]? = some (rowI r t A c l)) : ∃ m1, Sub m m1 ∧ SlI r m1 A c l ∧ St w0 F0 m0 m1 (σ.eraseIdx n) w := by
  obtain ⟨F, m1, ⟨⟨xs, h1, ho⟩, hF⟩, h2, h3, h4⟩ := (H.pull n hn).fix0
  have hc := own_cap ho
  refine ⟨m1, h2, ⟨hc.1, hc.2, xs, h1.mono h2, ?_⟩, h4⟩
  intro j u hj
  obtain ⟨ad, e, _, _, hcell⟩ := Cs.of_own ho j u hj
  refine ⟨ad, e, ?_⟩
  subst e
  rcases ho.2 with ⟨hv, h0⟩ | ⟨g, cap, cur, hv, hb, hg, _⟩
  · cases hv
  · cases hv
    have := h3 g ((hF g).2 rfl)
    rw [hg] at this
    have hcell : w.cell? ((⟨g, 0, none⟩ : Addr).add j) = some u := hcell
    rw [Addr.add_lit] at hcell ⊢
    simp only [World.cell?, hg] at hcell
    simp only [mc, this]
    exact hcell
theorem St.keep (H : St w0 F0 m0 m (σ ++ τ) w) : St w0 F0 m0 m σ w := by
  obtain ⟨F, h1, h2, h3⟩ := H.sep
  obtain ⟨F1, F2, h4, h5, h6, h7⟩ := Sep.app.1 h1
  exact ⟨H.kp, H.sub, H.has, H.new, F1, h4, fun k hk => h2 k ((h7 k).2 (.inl hk)), fun k hk => h3 k ((h7 k).2 (.inl hk))⟩
theorem St.takeN (n : Nat) (H : St w0 F0 m0 m σ w) : St w0 F0 m0 m (σ.take n) w := St.keep (τ := σ.drop n) (by rw [List.take_append_drop]; exact H)
theorem St.call (its : List Item) (H : St w0 F0 m0 m (its ++ σ) w) : ∃ F, Sep m w its F ∧ (∀ k, F k → m k = none) ∧
    ∀ (m1 : Mem) (τ : List Item) (w1 : World), St w F m m1 τ w1 → St w0 F0 m0 m1 (τ ++ σ) w1 := by
  obtain ⟨F, h0, h5, h6⟩ := H.sep
  obtain ⟨F1, F2, h1, h2, h3, h4⟩ := Sep.app.1 h0
  refine ⟨F1, h1, fun k hk => h5 k ((h4 k).2 (.inl hk)), fun m1 τ w1 hS => ?_⟩
  let big : Item := { P := fun m w F => Sep m w its F, loc := fun h hk => Sep.loc h hk, mono := fun hs h => Sep.mono hs h, dom := fun h => Sep.dom h }
  have HB : St w0 F0 m0 m (big :: σ) w := ⟨H.kp, H.sub, H.has, H.new, F, ⟨F1, F2, h1, h2, h3, h4⟩, h5, h6⟩
  have hsz := H.kp.size
  obtain ⟨G, g1, g2, g3⟩ := hS.sep
  refine ⟨H.kp.step hS.kp (fun k hF hlt => (h6 k ((h4 k).2 (.inl hF))).elim id (fun h => by omega)), H.sub.trans hS.sub, hS.has, ?_, fun k => G k ∨ F2 k, ?_, ?_, ?_⟩
  · intro k o e
    rcases hS.new k o e with e | e | e
    · exact H.new k o e
    · exact .inr (h6 k ((h4 k).2 (.inl e)))
    · exact .inr (.inr (by omega))
  · have h2' : Sep m1 w1 σ F2 := (h2.mono hS.sub).loc (fun k hF => hS.kp.block k (h2.dom k hF) (fun e => h3 k e hF))
    refine Sep.app.2 ⟨G, F2, g1, h2', ?_, fun k => Iff.rfl⟩
    intro k a b
    rcases g3 k a with e | e
    · exact h3 k e b
    · have := h2.dom k b
      omega
  · rintro k (e | e)
    · exact g2 k e
    · cases hm1 : m1 k with
      | none => rfl
      | some o =>
        exfalso
        rcases hS.new k o hm1 with e1 | e1 | e1
        · have := h5 k ((h4 k).2 (.inr e))
          rw [this] at e1
          cases e1
        · exact h3 k e1 e
        · have := h2.dom k e
          omega
  · rintro k (e | e)
    · rcases g3 k e with e | e
      · exact h6 k ((h4 k).2 (.inl e))
      · exact .inr (by omega)
    · exact h6 k ((h4 k).2 (.inr e))
theorem St.call0 (H : St w0 F0 m0 m σ w) {m1 : Mem} {τ : List Item} (hS : St w noF m m1 τ w1) : St w0 F0 m0 m1 (τ ++ σ) w1 := by
  obtain ⟨F, h1, h2, h3⟩ := St.call (σ := σ) (its := []) H
  have : F = noF := funext fun k => propext ⟨fun e => h1 k e, fun e => e.elim⟩
  subst this
  exact h3 _ _ _ hS
theorem St.blk (H : St w0 F0 m0 m σ w) (n : Nat) {g : Nat} {cs : List Value} {t : TypeId} (hn : σ[n]? = some (blkI g cs t)) : w.heap[g]? = some (.cells cs.toArray t (0, 0)) := by
  obtain ⟨F, h1, _⟩ := H.upd n hn
  exact h1.1
theorem St.cellB (H : St w0 F0 m0 m σ w) (n : Nat) {g off : Nat} {cs : List Value} {t : TypeId} {v : Value} (hn : σ[n]? = some (blkI g cs t)) (hv : cs[off]? = some v) : w.cell? ⟨g, off, none⟩ = some v :=
  blk_cell (H.blk n hn) (by simpa using hv)
theorem St.rowAt (H : St w0 F0 m0 m σ w) {α : Type} {r : Rep α} (n : Nat) {A : Option Addr} {c : Nat} {l : List α} {t : TypeId} (hn : σ[n]? = some (rowI r t A c l)) {i : Nat} {x : α} (hx : l[i]? = some x) (h0 : 0 < r.sz) :
    ∃ ad cs, A = some ad ∧ r.im m cs x ∧ ∀ j v, cs[j]? = some v → w.cell? ((ad.add (i * r.sz)).add j) = some v := by
  obtain ⟨F, ⟨⟨xs, h1, ho⟩, hF⟩, _⟩ := H.upd n hn
  obtain ⟨cs, h3, h4⟩ := h1.get hx
  have hl := r.len h3
  obtain ⟨ad, rfl, _, _, _⟩ := Cs.of_own ho _ _ (h4 0 _ (List.getElem?_eq_getElem (by omega)))
  refine ⟨ad, cs, rfl, h3, fun j v hv => ?_⟩
  obtain ⟨ad', e, _, _, h6⟩ := Cs.of_own ho _ _ (h4 j v hv)
  cases e
  rw [add_add]
  exact h6
end
end Go.Proofs.YtkmhidggbnbaaaaGreatDoor.K
set_option linter.unusedVariables false
set_option linter.unusedSimpArgs false
set_option linter.unusedSectionVars false
namespace Go.Proofs.YtkmhidggbnbaaaaGreatDoor.K
open Go Go.RowKit Go.Op
def idx {α : Type} (l : List α) (i : Int) : Option α := if 0 ≤ i then l[i.toNat]? else none
def slc {α : Type} (l : List α) (a b : Int) : Option (List α) := if 0 ≤ a ∧ a ≤ b ∧ b ≤ l.length then some ((l.take b.toNat).drop a.toNat) else none
def app {α : Type} (l x : List α) : Option (List α) := if l.length + x.length ≤ 137438953472 then some (l ++ x) else none
def cat (l x : List UInt8) : Option (List UInt8) := if l.length + x.length ≤ 9223372036854775807 then some (l ++ x) else none
def upd {α : Type} (l : List α) (i : Int) (x : α) : Option (List α) := if 0 ≤ i ∧ i < l.length then some (l.set i.toNat x) else none
def mk {α : Type} (z : α) (n : Int) : Option (List α) := if 0 ≤ n ∧ n ≤ 137438953472 then some (List.replicate n.toNat z) else none
def chk (b : Bool) : Option Unit := cond b (some ()) none
def bnd {ρ σ : Type} (x : Option (Sum σ ρ)) (k : σ → Option ρ) : Option ρ := x.bind fun y => match y with
  | .inl s => k s
  | .inr r => some r
def shr8 (x : UInt8) (y : Int) : UInt8 := UInt8.ofNat (x.toNat / 2 ^ min y.toNat 8)
def shl8 (x : UInt8) (y : Int) : UInt8 := UInt8.ofInt ((x.toNat : Int) * 2 ^ min y.toNat 8)
def shr32 (x : UInt32) (y : Int) : UInt32 := UInt32.ofNat (x.toNat / 2 ^ min y.toNat 32)
def shl32 (x : UInt32) (y : Int) : UInt32 := UInt32.ofInt ((x.toNat : Int) * 2 ^ min y.toNat 32)
def shr64 (x : UInt64) (y : Int) : UInt64 := UInt64.ofNat (x.toNat / 2 ^ min y.toNat 64)
def shl64 (x : UInt64) (y : Int) : UInt64 := UInt64.ofInt ((x.toNat : Int) * 2 ^ min y.toNat 64)
def shrI (x y : Int) : Int := x / 2 ^ min y.toNat 64
def shlI (x y : Int) : Int := IntKind.i64.wrap (x * 2 ^ min y.toNat 64)
def iter {σ ρ : Type} (body : σ → Option (Sum σ ρ)) : Nat → σ → Option ρ
  | 0, _ => none
  | n + 1, s => match body s with
    | none => none
    | some (.inl s') => iter body n s'
    | some (.inr r) => some r
theorem iter_mono {σ ρ : Type} {body : σ → Option (Sum σ ρ)} : ∀ {n k : Nat} {s : σ} {r : ρ}, iter body n s = some r → iter body (n + k) s = some r
  | 0, k, s, r, h => by simp [iter] at h
  | n + 1, k, s, r, h => by
    rw [show n + 1 + k = (n + k) + 1 by omega]
    simp only [iter] at h ⊢
    cases hb : body s with
    | none => rw [hb] at h; exact h
    | some x =>
      rw [hb] at h
      cases x with
      | inl s' => exact iter_mono h
      | inr r' => exact h
open Classical in
noncomputable def loopO {σ ρ : Type} (body : σ → Option (Sum σ ρ)) (s : σ) : Option ρ :=
  if h : ∃ n r, iter body n s = some r then some (Classical.choose (Classical.choose_spec h)) else none
theorem loopO_iff {σ ρ : Type} {body : σ → Option (Sum σ ρ)} {s : σ} {r : ρ} : loopO body s = some r ↔ ∃ n, iter body n s = some r := by
  unfold loopO
  constructor
  · intro h
    split at h
    · rename_i hx
      have := Classical.choose_spec (Classical.choose_spec hx)
      cases h
      exact ⟨_, this⟩
    · cases h
  · rintro ⟨n, h⟩
    have hx : ∃ n r, iter body n s = some r := ⟨n, r, h⟩
    rw [dif_pos hx]
    have h2 := Classical.choose_spec (Classical.choose_spec hx)
    have h3 := iter_mono (k := Classical.choose hx) h
    have h4 := iter_mono (k := n) h2
    rw [Nat.add_comm, h4] at h3
    exact h3
theorem loopO_eq {σ ρ : Type} (body : σ → Option (Sum σ ρ)) (s : σ) : loopO body s = match body s with
    | none => none
    | some (.inl s') => loopO body s'
    | some (.inr r) => some r := by
  apply Option.ext
  intro r
  rw [loopO_iff]
  cases hb : body s with
  | none =>
    simp only [reduceCtorEq, iff_false, not_exists]
    intro n
    cases n <;> simp [iter, hb]
  | some x =>
    cases x with
    | inl s' =>
      simp only [loopO_iff]
      constructor
      · rintro ⟨n, h⟩
        cases n with
        | zero => simp [iter] at h
        | succ n => simp only [iter, hb] at h; exact ⟨n, h⟩
      · rintro ⟨n, h⟩
        exact ⟨n + 1, by simp only [iter, hb]; exact h⟩
    | inr r' =>
      constructor
      · rintro ⟨n, h⟩
        cases n with
        | zero => simp [iter] at h
        | succ n => simp only [iter, hb] at h; exact h
      · intro h
        exact ⟨1, by simp only [iter, hb]; exact h⟩
theorem bindE {α β : Type} {o : Option α} {f : α → Option β} {r : β} (h : o.bind f = some r) : ∃ x, o = some x ∧ f x = some r := by
  cases o with
  | none => cases h
  | some x => exact ⟨x, rfl, h⟩
theorem condT {β : Type} {b : Bool} {x y r : β} (h : cond b x y = r) : (b = true ∧ x = r) ∨ (b = false ∧ y = r) := by
  cases b
  · exact .inr ⟨rfl, h⟩
  · exact .inl ⟨rfl, h⟩
theorem chkE {β : Type} {b : Bool} {f : Unit → Option β} {r : β} (h : (chk b).bind f = some r) : b = true ∧ f () = some r := by
  cases b
  · cases h
  · exact ⟨rfl, h⟩
theorem bndE {ρ σ : Type} {x : Option (Sum σ ρ)} {k : σ → Option ρ} {r : ρ} (h : bnd x k = some r) : ∃ y, x = some y ∧ (∀ s, y = .inl s → k s = some r) ∧ ∀ z, y = .inr z → z = r := by
  obtain ⟨y, h1, h2⟩ := bindE h
  refine ⟨y, h1, ?_, ?_⟩
  · rintro s rfl; exact h2
  · rintro z rfl; exact Option.some.inj h2
theorem iterE {σ ρ : Type} {body : σ → Option (Sum σ ρ)} {n : Nat} {s : σ} {r : ρ} (h : iter body n s = some r) : ∃ n' q, n = n' + 1 ∧ body s = some q ∧ (∀ s', q = .inl s' → iter body n' s' = some r) ∧ ∀ z, q = .inr z → z = r := by
  cases n with
  | zero => cases h
  | succ n =>
    simp only [iter] at h
    cases hb : body s with
    | none => rw [hb] at h; cases h
    | some q =>
      rw [hb] at h
      refine ⟨n, q, rfl, rfl, ?_, ?_⟩
      · rintro s' rfl; exact h
      · rintro z rfl; exact Option.some.inj h
theorem idx_some {α : Type} {l : List α} {i : Int} {x : α} (h : idx l i = some x) : 0 ≤ i ∧ i < l.length ∧ l[i.toNat]? = some x := by
  unfold idx at h
  split at h
  · have := (List.getElem?_eq_some_iff.1 h).1
    exact ⟨by assumption, by omega, h⟩
  · cases h
theorem slc_some {α : Type} {l y : List α} {a b : Int} (h : slc l a b = some y) : (0 ≤ a ∧ a ≤ b ∧ b ≤ l.length) ∧ y = (l.take b.toNat).drop a.toNat ∧ (y.length : Int) = b - a := by
  unfold slc at h
  split at h
  · rename_i hc
    cases h
    refine ⟨hc, rfl, ?_⟩
    rw [List.length_drop, List.length_take]
    omega
  · cases h
theorem app_some {α : Type} {l x y : List α} (h : app l x = some y) : l.length + x.length ≤ 137438953472 ∧ y = l ++ x := by
  unfold app at h
  split at h
  · cases h; exact ⟨by assumption, rfl⟩
  · cases h
theorem cat_some {l x y : List UInt8} (h : cat l x = some y) : l.length + x.length ≤ 9223372036854775807 ∧ y = l ++ x := by
  unfold cat at h
  split at h
  · cases h; exact ⟨by assumption, rfl⟩
  · cases h
theorem seq_raw (l m : List UInt8) : (ByteArray.toList ⟨l.toArray⟩ == ByteArray.toList ⟨m.toArray⟩) = (l == m) := by rw [toList_data, toList_data]
theorem sne_raw (l m : List UInt8) : (!(ByteArray.toList ⟨l.toArray⟩ == ByteArray.toList ⟨m.toArray⟩)) = (l != m) := by rw [seq_raw]; rfl
theorem q8_wrap (e : Int) : IntKind.u8.wrap e = ((UInt8.ofInt e).toNat : Int) := by
  rw [wu8m]
  simp [UInt8.ofInt]
  omega
theorem q64_wrap (e : Int) : IntKind.u64.wrap e = ((UInt64.ofInt e).toNat : Int) := by
  rw [wu64m]
  simp [UInt64.ofInt]
  omega
theorem q32_wrap (e : Int) : IntKind.u32.wrap e = ((UInt32.ofInt e).toNat : Int) := by
  have : IntKind.u32.wrap e = e % 4294967296 := by simp [IntKind.wrap, IntKind.bits, IntKind.signed]
  rw [this]
  simp [UInt32.ofInt]
  omega
theorem q32_self (x : UInt32) : IntKind.u32.wrap (x.toNat : Int) = (x.toNat : Int) := by
  have : IntKind.u32.wrap (x.toNat : Int) = (x.toNat : Int) % 4294967296 := by simp [IntKind.wrap, IntKind.bits, IntKind.signed]
  rw [this]; have := x.toNat_lt; omega
theorem q8_self (x : UInt8) : IntKind.u8.wrap (x.toNat : Int) = (x.toNat : Int) := by rw [wu8m]; have := x.toNat_lt; omega
theorem q64_self (x : UInt64) : IntKind.u64.wrap (x.toNat : Int) = (x.toNat : Int) := by rw [wu64m]; have := x.toNat_lt; omega
theorem q64_u8 (x : UInt8) : IntKind.u64.wrap (x.toNat : Int) = (x.toUInt64.toNat : Int) := by rw [wu64m]; have := x.toNat_lt; simp; omega
theorem q32_u8 (x : UInt8) : IntKind.u32.wrap (x.toNat : Int) = (x.toUInt32.toNat : Int) := by
  have : IntKind.u32.wrap (x.toNat : Int) = (x.toNat : Int) % 4294967296 := by simp [IntKind.wrap, IntKind.bits, IntKind.signed]
  rw [this]; have := x.toNat_lt; simp; omega
theorem q8_u64 (x : UInt64) : IntKind.u8.wrap (x.toNat : Int) = (x.toUInt8.toNat : Int) := by rw [wu8m]; simp
theorem q64_add (x y : UInt64) (a b : Int) (ha : a = (x.toNat : Int)) (hb : b = (y.toNat : Int)) : IntKind.u64.wrap (a + b) = ((x + y).toNat : Int) := by subst ha hb; rw [wu64m]; simp
theorem q64_mul (x y : UInt64) (a b : Int) (ha : a = (x.toNat : Int)) (hb : b = (y.toNat : Int)) : IntKind.u64.wrap (a * b) = ((x * y).toNat : Int) := by subst ha hb; rw [wu64m]; simp
theorem q64_sub (x y : UInt64) (a b : Int) (ha : a = (x.toNat : Int)) (hb : b = (y.toNat : Int)) : IntKind.u64.wrap (a - b) = ((x - y).toNat : Int) := by
  subst ha hb; rw [wu64m, UInt64.toNat_sub]; have := x.toNat_lt; have := y.toNat_lt; omega
theorem q8_sub (x y : UInt8) (a b : Int) (ha : a = (x.toNat : Int)) (hb : b = (y.toNat : Int)) : IntKind.u8.wrap (a - b) = ((x - y).toNat : Int) := by
  subst ha hb; rw [wu8m, UInt8.toNat_sub]; have := x.toNat_lt; have := y.toNat_lt; omega
theorem q8_add (x y : UInt8) (a b : Int) (ha : a = (x.toNat : Int)) (hb : b = (y.toNat : Int)) : IntKind.u8.wrap (a + b) = ((x + y).toNat : Int) := by subst ha hb; rw [wu8m]; simp
theorem q64_quo (x y : UInt64) (a b : Int) (ha : a = (x.toNat : Int)) (hb : b = (y.toNat : Int)) : IntKind.u64.wrap (Int.tdiv a b) = ((x / y).toNat : Int) := by
  subst ha hb
  rw [wu64m, show Int.tdiv (x.toNat : Int) (y.toNat : Int) = ((x.toNat / y.toNat : Nat) : Int) from rfl, UInt64.toNat_div]
  have := x.toNat_lt
  have hd := Nat.div_le_self x.toNat y.toNat
  generalize x.toNat / y.toNat = q at hd ⊢
  omega
theorem q64_rem (x y : UInt64) (a b : Int) (ha : a = (x.toNat : Int)) (hb : b = (y.toNat : Int)) : Int.tmod a b = ((x % y).toNat : Int) := by
  subst ha hb
  rw [UInt64.toNat_mod]; rfl
theorem q8_quo (x y : UInt8) (a b : Int) (ha : a = (x.toNat : Int)) (hb : b = (y.toNat : Int)) : IntKind.u8.wrap (Int.tdiv a b) = ((x / y).toNat : Int) := by
  subst ha hb
  rw [wu8m, show Int.tdiv (x.toNat : Int) (y.toNat : Int) = ((x.toNat / y.toNat : Nat) : Int) from rfl, UInt8.toNat_div]
  have := x.toNat_lt
  have hd := Nat.div_le_self x.toNat y.toNat
  generalize x.toNat / y.toNat = q at hd ⊢
  omega
theorem q8_rem (x y : UInt8) (a b : Int) (ha : a = (x.toNat : Int)) (hb : b = (y.toNat : Int)) : Int.tmod a b = ((x % y).toNat : Int) := by
  subst ha hb
  rw [UInt8.toNat_mod]; rfl
theorem shr8_run {P : Program} {w : World} (x : UInt8) {yk : IntKind} (y : Int) (h : 0 ≤ y) : (vS (Op.shift .shr .u8 (x.toNat : Int) yk y)).run P w = .ok (.value (.int .u8 ((shr8 x y).toNat : Int))) w := by
  refine vS_run ?_
  have h1 : ¬ (y < 0) := by omega
  have h2 : (x.toNat : Int).fdiv (2 ^ min y.toNat (IntKind.bits .u8)) = (x.toNat : Int) / 2 ^ min y.toNat 8 := Int.fdiv_eq_ediv_of_nonneg _ (by have : (0 : Int) < 2 ^ min y.toNat 8 := Int.pow_pos (by decide); exact Int.le_of_lt this)
  have h3 : ((x.toNat / 2 ^ min y.toNat 8 : Nat) : Int) = ((shr8 x y).toNat : Int) := by
    unfold shr8
    have := x.toNat_lt
    have hd := Nat.div_le_self x.toNat (2 ^ min y.toNat 8)
    generalize x.toNat / 2 ^ min y.toNat 8 = q at hd ⊢
    simp only [UInt8.toNat_ofNat']
    omega
  simp only [Op.shift, h1, if_false, Sem.run_pure, h2]
  rw [← h3]
  simp
theorem shl8_run {P : Program} {w : World} (x : UInt8) {yk : IntKind} (y : Int) (h : 0 ≤ y) : (vS (Op.shift .shl .u8 (x.toNat : Int) yk y)).run P w = .ok (.value (.int .u8 ((shl8 x y).toNat : Int))) w := by
  refine vS_run ?_
  have h1 : ¬ (y < 0) := by omega
  simp only [Op.shift, h1, if_false, Sem.run_pure]
  rw [q8_wrap]
  rfl
theorem q8_and (x y : UInt8) (a b : Int) (ha : a = (x.toNat : Int)) (hb : b = (y.toNat : Int)) : Go.bits .and .u8 a b = ((x &&& y).toNat : Int) := by
  subst ha hb
  have hx : BitVec.ofInt (IntKind.bits .u8) (x.toNat : Int) = x.toBitVec := by apply BitVec.eq_of_toNat_eq; show (BitVec.ofInt 8 (x.toNat : Int)).toNat = _; rw [BitVec.ofInt_natCast]; simp; rfl
  have hy : BitVec.ofInt (IntKind.bits .u8) (y.toNat : Int) = y.toBitVec := by apply BitVec.eq_of_toNat_eq; show (BitVec.ofInt 8 (y.toNat : Int)).toNat = _; rw [BitVec.ofInt_natCast]; simp; rfl
  unfold Go.bits
  simp only [hx, hy]
  exact q8_self (x &&& y)
theorem q8_or (x y : UInt8) (a b : Int) (ha : a = (x.toNat : Int)) (hb : b = (y.toNat : Int)) : Go.bits .or .u8 a b = ((x ||| y).toNat : Int) := by
  subst ha hb
  have hx : BitVec.ofInt (IntKind.bits .u8) (x.toNat : Int) = x.toBitVec := by apply BitVec.eq_of_toNat_eq; show (BitVec.ofInt 8 (x.toNat : Int)).toNat = _; rw [BitVec.ofInt_natCast]; simp; rfl
  have hy : BitVec.ofInt (IntKind.bits .u8) (y.toNat : Int) = y.toBitVec := by apply BitVec.eq_of_toNat_eq; show (BitVec.ofInt 8 (y.toNat : Int)).toNat = _; rw [BitVec.ofInt_natCast]; simp; rfl
  unfold Go.bits
  simp only [hx, hy]
  exact q8_self (x ||| y)
theorem q8_xor (x y : UInt8) (a b : Int) (ha : a = (x.toNat : Int)) (hb : b = (y.toNat : Int)) : Go.bits .xor .u8 a b = ((x ^^^ y).toNat : Int) := by
  subst ha hb
  have hx : BitVec.ofInt (IntKind.bits .u8) (x.toNat : Int) = x.toBitVec := by apply BitVec.eq_of_toNat_eq; show (BitVec.ofInt 8 (x.toNat : Int)).toNat = _; rw [BitVec.ofInt_natCast]; simp; rfl
  have hy : BitVec.ofInt (IntKind.bits .u8) (y.toNat : Int) = y.toBitVec := by apply BitVec.eq_of_toNat_eq; show (BitVec.ofInt 8 (y.toNat : Int)).toNat = _; rw [BitVec.ofInt_natCast]; simp; rfl
  unfold Go.bits
  simp only [hx, hy]
  exact q8_self (x ^^^ y)
theorem shr32_run {P : Program} {w : World} (x : UInt32) {yk : IntKind} (y : Int) (h : 0 ≤ y) : (vS (Op.shift .shr .u32 (x.toNat : Int) yk y)).run P w = .ok (.value (.int .u32 ((shr32 x y).toNat : Int))) w := by
  refine vS_run ?_
  have h1 : ¬ (y < 0) := by omega
  have h2 : (x.toNat : Int).fdiv (2 ^ min y.toNat (IntKind.bits .u32)) = (x.toNat : Int) / 2 ^ min y.toNat 32 := Int.fdiv_eq_ediv_of_nonneg _ (by have : (0 : Int) < 2 ^ min y.toNat 32 := Int.pow_pos (by decide); exact Int.le_of_lt this)
  have h3 : ((x.toNat / 2 ^ min y.toNat 32 : Nat) : Int) = ((shr32 x y).toNat : Int) := by
    unfold shr32
    have := x.toNat_lt
    have hd := Nat.div_le_self x.toNat (2 ^ min y.toNat 32)
    generalize x.toNat / 2 ^ min y.toNat 32 = q at hd ⊢
    simp only [UInt32.toNat_ofNat']
    omega
  simp only [Op.shift, h1, if_false, Sem.run_pure, h2]
  rw [← h3]
  simp
theorem shl32_run {P : Program} {w : World} (x : UInt32) {yk : IntKind} (y : Int) (h : 0 ≤ y) : (vS (Op.shift .shl .u32 (x.toNat : Int) yk y)).run P w = .ok (.value (.int .u32 ((shl32 x y).toNat : Int))) w := by
  refine vS_run ?_
  have h1 : ¬ (y < 0) := by omega
  simp only [Op.shift, h1, if_false, Sem.run_pure]
  rw [q32_wrap]
  rfl
theorem q32_and (x y : UInt32) (a b : Int) (ha : a = (x.toNat : Int)) (hb : b = (y.toNat : Int)) : Go.bits .and .u32 a b = ((x &&& y).toNat : Int) := by
  subst ha hb
  have hx : BitVec.ofInt (IntKind.bits .u32) (x.toNat : Int) = x.toBitVec := by apply BitVec.eq_of_toNat_eq; show (BitVec.ofInt 32 (x.toNat : Int)).toNat = _; rw [BitVec.ofInt_natCast]; simp; rfl
  have hy : BitVec.ofInt (IntKind.bits .u32) (y.toNat : Int) = y.toBitVec := by apply BitVec.eq_of_toNat_eq; show (BitVec.ofInt 32 (y.toNat : Int)).toNat = _; rw [BitVec.ofInt_natCast]; simp; rfl
  unfold Go.bits
  simp only [hx, hy]
  exact q32_self (x &&& y)
theorem q32_or (x y : UInt32) (a b : Int) (ha : a = (x.toNat : Int)) (hb : b = (y.toNat : Int)) : Go.bits .or .u32 a b = ((x ||| y).toNat : Int) := by
  subst ha hb
  have hx : BitVec.ofInt (IntKind.bits .u32) (x.toNat : Int) = x.toBitVec := by apply BitVec.eq_of_toNat_eq; show (BitVec.ofInt 32 (x.toNat : Int)).toNat = _; rw [BitVec.ofInt_natCast]; simp; rfl
  have hy : BitVec.ofInt (IntKind.bits .u32) (y.toNat : Int) = y.toBitVec := by apply BitVec.eq_of_toNat_eq; show (BitVec.ofInt 32 (y.toNat : Int)).toNat = _; rw [BitVec.ofInt_natCast]; simp; rfl
  unfold Go.bits
  simp only [hx, hy]
  exact q32_self (x ||| y)
theorem q32_xor (x y : UInt32) (a b : Int) (ha : a = (x.toNat : Int)) (hb : b = (y.toNat : Int)) : Go.bits .xor .u32 a b = ((x ^^^ y).toNat : Int) := by
  subst ha hb
  have hx : BitVec.ofInt (IntKind.bits .u32) (x.toNat : Int) = x.toBitVec := by apply BitVec.eq_of_toNat_eq; show (BitVec.ofInt 32 (x.toNat : Int)).toNat = _; rw [BitVec.ofInt_natCast]; simp; rfl
  have hy : BitVec.ofInt (IntKind.bits .u32) (y.toNat : Int) = y.toBitVec := by apply BitVec.eq_of_toNat_eq; show (BitVec.ofInt 32 (y.toNat : Int)).toNat = _; rw [BitVec.ofInt_natCast]; simp; rfl
  unfold Go.bits
  simp only [hx, hy]
  exact q32_self (x ^^^ y)
theorem shr64_run {P : Program} {w : World} (x : UInt64) {yk : IntKind} (y : Int) (h : 0 ≤ y) : (vS (Op.shift .shr .u64 (x.toNat : Int) yk y)).run P w = .ok (.value (.int .u64 ((shr64 x y).toNat : Int))) w := by
  refine vS_run ?_
  have h1 : ¬ (y < 0) := by omega
  have h2 : (x.toNat : Int).fdiv (2 ^ min y.toNat (IntKind.bits .u64)) = (x.toNat : Int) / 2 ^ min y.toNat 64 := Int.fdiv_eq_ediv_of_nonneg _ (by have : (0 : Int) < 2 ^ min y.toNat 64 := Int.pow_pos (by decide); exact Int.le_of_lt this)
  have h3 : ((x.toNat / 2 ^ min y.toNat 64 : Nat) : Int) = ((shr64 x y).toNat : Int) := by
    unfold shr64
    have := x.toNat_lt
    have hd := Nat.div_le_self x.toNat (2 ^ min y.toNat 64)
    generalize x.toNat / 2 ^ min y.toNat 64 = q at hd ⊢
    simp only [UInt64.toNat_ofNat']
    omega
  simp only [Op.shift, h1, if_false, Sem.run_pure, h2]
  rw [← h3]
  simp
theorem shl64_run {P : Program} {w : World} (x : UInt64) {yk : IntKind} (y : Int) (h : 0 ≤ y) : (vS (Op.shift .shl .u64 (x.toNat : Int) yk y)).run P w = .ok (.value (.int .u64 ((shl64 x y).toNat : Int))) w := by
  refine vS_run ?_
  have h1 : ¬ (y < 0) := by omega
  simp only [Op.shift, h1, if_false, Sem.run_pure]
  rw [q64_wrap]
  rfl
theorem q64_and (x y : UInt64) (a b : Int) (ha : a = (x.toNat : Int)) (hb : b = (y.toNat : Int)) : Go.bits .and .u64 a b = ((x &&& y).toNat : Int) := by
  subst ha hb
  have hx : BitVec.ofInt (IntKind.bits .u64) (x.toNat : Int) = x.toBitVec := by apply BitVec.eq_of_toNat_eq; show (BitVec.ofInt 64 (x.toNat : Int)).toNat = _; rw [BitVec.ofInt_natCast]; simp; rfl
  have hy : BitVec.ofInt (IntKind.bits .u64) (y.toNat : Int) = y.toBitVec := by apply BitVec.eq_of_toNat_eq; show (BitVec.ofInt 64 (y.toNat : Int)).toNat = _; rw [BitVec.ofInt_natCast]; simp; rfl
  unfold Go.bits
  simp only [hx, hy]
  exact q64_self (x &&& y)
theorem q64_or (x y : UInt64) (a b : Int) (ha : a = (x.toNat : Int)) (hb : b = (y.toNat : Int)) : Go.bits .or .u64 a b = ((x ||| y).toNat : Int) := by
  subst ha hb
  have hx : BitVec.ofInt (IntKind.bits .u64) (x.toNat : Int) = x.toBitVec := by apply BitVec.eq_of_toNat_eq; show (BitVec.ofInt 64 (x.toNat : Int)).toNat = _; rw [BitVec.ofInt_natCast]; simp; rfl
  have hy : BitVec.ofInt (IntKind.bits .u64) (y.toNat : Int) = y.toBitVec := by apply BitVec.eq_of_toNat_eq; show (BitVec.ofInt 64 (y.toNat : Int)).toNat = _; rw [BitVec.ofInt_natCast]; simp; rfl
  unfold Go.bits
  simp only [hx, hy]
  exact q64_self (x ||| y)
theorem q64_xor (x y : UInt64) (a b : Int) (ha : a = (x.toNat : Int)) (hb : b = (y.toNat : Int)) : Go.bits .xor .u64 a b = ((x ^^^ y).toNat : Int) := by
  subst ha hb
  have hx : BitVec.ofInt (IntKind.bits .u64) (x.toNat : Int) = x.toBitVec := by apply BitVec.eq_of_toNat_eq; show (BitVec.ofInt 64 (x.toNat : Int)).toNat = _; rw [BitVec.ofInt_natCast]; simp; rfl
  have hy : BitVec.ofInt (IntKind.bits .u64) (y.toNat : Int) = y.toBitVec := by apply BitVec.eq_of_toNat_eq; show (BitVec.ofInt 64 (y.toNat : Int)).toNat = _; rw [BitVec.ofInt_natCast]; simp; rfl
  unfold Go.bits
  simp only [hx, hy]
  exact q64_self (x ^^^ y)
theorem shrI_run {P : Program} {w : World} (x : Int) {yk : IntKind} (y : Int) (h : 0 ≤ y) : (vS (Op.shift .shr .i64 x yk y)).run P w = .ok (.value (.int .i64 (shrI x y))) w := by
  refine vS_run ?_
  have h1 : ¬ (y < 0) := by omega
  have h2 : x.fdiv (2 ^ min y.toNat (IntKind.bits .i64)) = x / 2 ^ min y.toNat 64 := Int.fdiv_eq_ediv_of_nonneg _ (by have : (0 : Int) < 2 ^ min y.toNat 64 := Int.pow_pos (by decide); exact Int.le_of_lt this)
  simp only [Op.shift, h1, if_false, Sem.run_pure, h2]
  rfl
theorem shlI_run {P : Program} {w : World} (x : Int) {yk : IntKind} (y : Int) (h : 0 ≤ y) : (vS (Op.shift .shl .i64 x yk y)).run P w = .ok (.value (.int .i64 (shlI x y))) w := by
  refine vS_run ?_
  have h1 : ¬ (y < 0) := by omega
  simp only [Op.shift, h1, if_false, Sem.run_pure]
  rfl
section
variable {P : Program} {B : Code} {n : Cx} {p : List Nat} {i : Nat} {κ : Kn} {w : World} {Z : Kn → World → Prop} {w0 : World} {F0 : Nat → Prop} {m0 m : Mem} {σ : List Item}
theorem newS (d : Option Nat) (v : Nat → Value) (cs : List Value) (t : TypeId) (H : St w0 F0 m0 m σ w) (h : fetchRun P B n p i κ w = some (d, .ok (.value (v w.heap.size)) (w.alloc (.cells cs.toArray t (0, 0)))))
    (hk : ∀ g w1, St w0 F0 m0 m (blkI g cs t :: σ) w1 → Z (putk d (v g) κ) w1) : Step P B n p i κ w Z :=
  newR d v _ h fun g w1 hg hx hb hz => hk g w1 (H.add (j := blkI g cs t) (G := fun k => k = g) hx ⟨hb, fun _ => Iff.rfl⟩ (fun k e => by subst e; omega))
theorem stS (d : Option Nat) (t : TypeId) (n' g off : Nat) (v : Value) (cs : List Value) (e : TypeId) (H : St w0 F0 m0 m σ w) (hn : σ[n']? = some (blkI g cs e)) (ho : fetch B n p i κ = some (d, uS (Instr.storeAt t (.pointer (some ⟨g, off, none⟩)) v))) (ht : oneB P t = true) (hv : v.oneCell' = true) (hoff : off < cs.length)
    (hk : ∀ w1, St w0 F0 m0 m (σ.set n' (blkI g (cs.set off v) e)) w1 → Z (putk d undef κ) w1) : Step P B n p i κ w Z := by
  obtain ⟨F, h1, h2, h3⟩ := H.upd n' hn
  refine stR d t g off v cs.toArray e ho ht hv h1.1 (by simpa using hoff) ?_
  intro w1 hx hg hz
  refine hk w1 (h3 w1 (blkI g (cs.set off v) e) (fun k => k = g) (hx.mono (fun k _ e => (h1.2 k).2 e)) ⟨?_, fun _ => Iff.rfl⟩ (fun k e => .inl ((h1.2 k).2 e)))
  rw [hg]
  congr 2
  simp [Array.set!_eq_setIfInBounds]
theorem stAggS (d : Option Nat) (t : TypeId) (n' g off : Nat) (vs cs cs' : List Value) (e : TypeId) (H : St w0 F0 m0 m σ w) (hn : σ[n']? = some (blkI g cs e)) (ho : fetch B n p i κ = some (d, uS (Instr.storeAt t (.pointer (some ⟨g, off, none⟩)) (.agg vs.toArray)))) (ht : aggB P t vs.length = true) (hv : vs.all (·.oneCell') = true) (hoff : off + vs.length ≤ cs.length)
    (hc : cs.take off ++ vs ++ cs.drop (off + vs.length) = cs') (hk : ∀ w1, St w0 F0 m0 m (σ.set n' (blkI g cs' e)) w1 → Z (putk d undef κ) w1) : Step P B n p i κ w Z := by
  obtain ⟨F, h1, h2, h3⟩ := H.upd n' hn
  refine stAggR d t g off vs cs.toArray cs'.toArray e ho ht hv h1.1 (by simpa using hoff) (by simpa using congrArg List.toArray hc) ?_
  intro w1 hx hg hz
  exact hk w1 (h3 w1 (blkI g cs' e) (fun k => k = g) (hx.mono (fun k _ e => (h1.2 k).2 e)) ⟨hg, fun _ => Iff.rfl⟩ (fun k e => .inl ((h1.2 k).2 e)))
theorem St.nilR (H : St w0 F0 m0 m σ w) {α : Type} (r : Rep α) (t : TypeId) : St w0 F0 m0 m (rowI r t none 0 [] :: σ) w :=
  H.add (Kp.refl _ _) (G := fun _ => False) ⟨⟨[], rfl, World.ownsRow_nil _ _ _ _⟩, fun k => ⟨False.elim, fun e => by cases e⟩⟩ (fun _ e => e.elim)
theorem St.toRow (H : St w0 F0 m0 m σ w) {α : Type} {r : Rep α} {l : List α} (n' : Nat) {g : Nat} {cs : List Value} {t : TypeId} (hn : σ[n']? = some (blkI g cs t)) (hr : Rows r m cs l) (hl : l.length ≤ maxLen) : St w0 F0 m0 m (σ.set n' (rowI r t (some ⟨g, 0, none⟩) l.length l)) w := by
  obtain ⟨F, h1, h2, h3⟩ := H.upd n' hn
  refine h3 w _ (fun k => k = g) (Kp.refl _ _) ⟨⟨cs, hr, ?_⟩, fun k => ⟨fun e => by subst e; rfl, fun e => by cases e; rfl⟩⟩ (fun k e => .inl ((h1.2 k).2 e))
  have := own_of_blk (base := 0) (n := l.length) (sz := r.sz) h1.1 (Nat.zero_le _) hl (by simpa using hr.len)
  simpa using this
theorem appS (d : Option Nat) {α : Type} {r : Rep α} (t e by_ : Nat) (z : Value) (ty : TypeId) (n' : Nat) (A X : Option Addr) (c m' c' : Nat) (l x y : List α) (news : List Value) {lo hi : Nat} (H : St w0 F0 m0 m σ w) (hn : σ[n']? = some (rowI r e A c l)) (he : elB P t e r.sz by_ z) (hz : z.cells.size = r.sz) (hsz : 0 < r.sz)
    (ho : fetch B n p i κ = some (d, vS (Builtin.append_ #[t, t] ty #[.slice A l.length c, .slice X m' c']))) (hX : Cs lo hi w X news) (hr : Rows r m news x) (hm : x.length = m') (hy : app l x = some y) (hby : 0 < by_) (hby2 : by_ ≤ 1024)
    (hk : ∀ A' c1 w1, St w0 F0 m0 m (σ.set n' (rowI r e A' c1 y)) w1 → Z (putk d (.slice A' y.length c1) κ) w1) : Step P B n p i κ w Z := by
  obtain ⟨F, ⟨⟨xs, h1, ho1⟩, hF⟩, h2, h3⟩ := H.upd n' hn
  obtain ⟨hb, rfl⟩ := app_some hy
  subst hm
  refine appR d t e r.sz by_ z ty 0 A X l.length c x.length c' xs news he hz hsz ho ho1 hX hr.len hr.one ?_ hby (Nat.zero_le _) ?_
  · exact Nat.le_trans (Nat.mul_le_mul hb hby2) (by decide)
  · intro A' c1 w1 hown hkp hblk hc1 hz1
    rw [← List.length_append] at hown hblk ⊢
    refine hk A' c1 w1 (h3 w1 (rowI r e A' c1 (l ++ x)) (fun k => (Value.slice A' (l ++ x).length c1).ownBlock = some k) (hkp.mono (fun k _ e => (hF k).2 e.symm)) ⟨⟨xs ++ news, h1.app hr, hown⟩, fun _ => Iff.rfl⟩ ?_)
    intro k hk
    rcases hblk with e | e
    · exact .inl ((hF k).2 (e ▸ hk))
    · rw [e] at hk
      cases hk
      exact .inr (Nat.le_refl _)
theorem run_appstr (w : World) (base : Nat) (t u ty e : TypeId) (i : TypeInfo) (ht : P.underlying t = some (.slice e)) (hu : P.underlying u = some .string) (hi : P.info? e = some i) (hz : i.zero = some (.int .u8 0))
    (hsize : i.size = 1) (hby : i.bytes = 1) (v : Value) (n : Nat) (xs : List Value) (hown : w.ownsRow base e 1 v n xs) (s : ByteArray) (h63 : n + s.size ≤ maxLen) (hbytes : n + s.size ≤ 140737488355328) (hbase : base ≤ w.heap.size) :
    ∃ v' w', (Builtin.append_ #[t, u] ty #[v, .string s]).run P w = .ok v' w' ∧ w'.ownsRow base e 1 v' (n + s.size) (xs ++ Lib.strCells s) ∧ w.grownBy w' v.ownBlock ∧ (v'.ownBlock = v.ownBlock ∨ v'.ownBlock = some w.heap.size) := by
  obtain ⟨v', w', hr, h1, h2, h3⟩ := Lib.run_append_own_string (P := P) w base t u ty e i ht hu hi hz hsize hby v n xs hown s h63 hbytes hbase
  refine ⟨v', w', hr, h1, h2, ?_⟩
  have hsmall : n + s.size ≤ 9223372036854775807 := by simp only [maxLen] at h63; omega
  have hxl : xs.length = n := by simpa using hown.1
  rcases hown.2 with ⟨rfl, rfl⟩ | ⟨g, cap, cur, rfl, hbg, hg, hnc, hcm, hcs, htake⟩
  · by_cases hm : s.size = 0
    · rw [h3.2 ⟨rfl, hm⟩]; exact .inl rfl
    · have hr2 := run_append_nil_string (P := P) w t u ty e i (.int .u8 0) ht hu hi hz s (by omega) (by omega) (by rw [hby]; omega)
      rw [hr2] at hr
      cases hr
      exact .inr rfl
  · by_cases hroom : n + s.size ≤ cap
    · have hr2 := Lib.run_append_room_string (P := P) w t u ty e i ht hu hi hsize g n cap cur hg s hroom (by simp at hcs; omega)
      rw [hr2] at hr
      cases hr
      exact .inl rfl
    · have hfit : Builtin.nextslicecap (n + s.size) cap * i.bytes ≤ 281474976710656 := by
        rw [hby, Nat.mul_one]
        exact Nat.le_trans (nextslicecap_le (by omega)) (by omega)
      have hr2 := Lib.run_append_grow_string (P := P) w t u ty e i (.int .u8 0) ht hu hi hz ⟨g, 0, none⟩ n cap xs (by rw [hxl, hsize, Nat.mul_one]) (by
        intro j x hj
        rw [Addr.add_lit, Nat.zero_add]
        refine blk_cell hg ?_
        rw [← htake, List.getElem?_take] at hj
        split at hj
        · simpa using hj
        · cases hj) s (by omega) (by omega) hfit
      rw [hr2] at hr
      cases hr
      exact .inr rfl
theorem appstrS (d : Option Nat) (t u e : TypeId) (ty : TypeId) (n' : Nat) (A : Option Addr) (c : Nat) (l x y : List UInt8) (H : St w0 F0 m0 m σ w) (hn : σ[n']? = some (rowI rU8 e A c l)) (he : elB P t e 1 1 (.int .u8 0)) (hu : P.underlying u = some .string)
    (ho : fetch B n p i κ = some (d, vS (Builtin.append_ #[t, u] ty #[.slice A l.length c, .string ⟨x.toArray⟩]))) (hy : app l x = some y)
    (hk : ∀ A' c1 w1, St w0 F0 m0 m (σ.set n' (rowI rU8 e A' c1 y)) w1 → Z (putk d (.slice A' y.length c1) κ) w1) : Step P B n p i κ w Z := by
  obtain ⟨F, ⟨⟨xs, h1, ho1⟩, hF⟩, h2, h3⟩ := H.upd n' hn
  obtain ⟨hb, rfl⟩ := app_some hy
  obtain ⟨ht, hinf⟩ := he
  obtain ⟨i0, hi, hzz⟩ := Option.map_eq_some_iff.1 hinf
  simp only [Prod.mk.injEq] at hzz
  obtain ⟨hz0, hz1, hz2⟩ := hzz
  obtain ⟨v', w', hr, h4, h5, h6⟩ := run_appstr (P := P) w 0 t u ty e i0 ht hu hi hz0 hz1 hz2 _ l.length xs ho1 ⟨x.toArray⟩ (by show l.length + x.length ≤ _; simp only [maxLen]; omega) (by show l.length + x.length ≤ _; omega) (Nat.zero_le _)
  obtain ⟨A', c1, rfl, h7, _⟩ := own_shape h4
  have hs : (⟨x.toArray⟩ : ByteArray).size = x.length := rfl
  rw [hs, ← List.length_append] at h4 h6 hr
  refine runR ho (vS_run hr) (hk A' c1 w' (h3 w' (rowI rU8 e A' c1 (l ++ x)) (fun k => (Value.slice A' (l ++ x).length c1).ownBlock = some k) ((Kp.of_gb h5 (run_drawn _ _ hr)).mono (fun k _ e => (hF k).2 e.symm)) ⟨⟨xs ++ bs x, h1.app (Rows.u8.2 rfl), h4⟩, fun _ => Iff.rfl⟩ ?_))
  intro k hk
  rcases h6 with e | e
  · exact .inl ((hF k).2 (e ▸ hk))
  · rw [e] at hk
    cases hk
    exact .inr (Nat.le_refl _)
theorem St.rowCs' (H : St w0 F0 m0 m σ w) {α : Type} {r : Rep α} (n' : Nat) {A : Option Addr} {c : Nat} {l : List α} {t : TypeId} (hn : σ[n']? = some (rowI r t A c l)) : ∃ xs, Rows r m xs l ∧ Cs 0 w.heap.size w A xs := by
  obtain ⟨F, ⟨⟨xs, h1, ho⟩, hF⟩, _⟩ := H.upd n' hn
  exact ⟨xs, h1, Cs.of_own ho⟩
theorem s2bS (d : Option Nat) (src dst e : TypeId) (l : List UInt8) {u : TypeDesc} (H : St w0 F0 m0 m σ w) (hs : P.underlying src = some u) (hd : P.underlying dst = some (.slice e)) (he : P.underlying e = some (.int .u8))
    (ho : fetch B n p i κ = some (d, vS (convert src dst (.string ⟨l.toArray⟩)))) (hk : ∀ A' c' m1 w1, Sub m m1 → SlI rU8 m1 A' c' l → St w0 F0 m0 m1 σ w1 → Z (putk d (.slice A' l.length c') κ) w1) (hlen : l.length ≤ 9223372036854775807) : Step P B n p i κ w Z := by
  have hx : Ex w (Lib.bytesWorld w e ⟨l.toArray⟩) := ⟨rfl, rfl, rfl, by rw [Lib.bytesWorld_size]; omega, fun k hk _ => Lib.bytesWorld_at_old w e _ k hk, bytesWorld_drawn w e _⟩
  have hnew := Lib.bytesWorld_at_new w e ⟨l.toArray⟩
  have H1 := H.add (j := objI w.heap.size _) (G := fun k => k = w.heap.size) hx ⟨hnew, fun _ => Iff.rfl⟩ (fun k e => by subst e; exact Nat.le_refl _)
  obtain ⟨F, m1, h1, h2, h3, h4⟩ := H1.fix0
  refine runR ho (vS_run (Lib.run_convert_string_bytes w src dst e ⟨l.toArray⟩ hs hd he)) (hk _ _ m1 _ h2 ⟨grownCap_ge w (⟨l.toArray⟩ : ByteArray).size 0 e, grownCap_le_maxLen w (⟨l.toArray⟩ : ByteArray).size 0 e hlen, bs l, Rows.u8.2 rfl, ?_⟩ h4)
  intro j v hj
  have hlt : j < l.length := by
    have := (List.getElem?_eq_some_iff.1 hj).1
    rwa [bs_length] at this
  refine ⟨_, rfl, ?_⟩
  have hb := (h3 w.heap.size ((h1.2 _).2 rfl)).trans h1.1
  have hc := Lib.bytesWorld_cell w e ⟨l.toArray⟩ j hlt
  simp only [World.cell?, hnew] at hc
  rw [Addr.add_lit, Nat.zero_add]
  simp only [mc, hb]
  rw [bs_get _ _ hlt] at hj
  rw [← hj]
  exact hc
theorem slc_le {α : Type} {l y : List α} {a b : Int} (h : slc l a b = some y) : y.length ≤ l.length := by
  obtain ⟨⟨h1, h2, h3⟩, hy1, hy2⟩ := slc_some h
  omega
theorem str_idx_run (t : TypeId) (l : List UInt8) (ik : IntKind) (ix : Int) (b : UInt8) (ht : P.underlying t = some .string) (hb : idx l ix = some b) : (vS (Instr.index t (.string ⟨l.toArray⟩) (.int ik ix))).run P w = .ok (.value (.int .u8 (b.toNat : Int))) w := by
  obtain ⟨h0, h1, h2⟩ := idx_some hb
  have := str_run (P := P) (w := w) t l ik ix ix.toNat ht h0 h1 rfl
  rw [List.getD_eq_getElem?_getD, h2] at this
  exact this
theorem cat_runY (t : TypeId) {l x y : List UInt8} (hy : cat l x = some y) {w : World} : (vS (Op.stringOp .add ⟨l.toArray⟩ ⟨x.toArray⟩)).run P w = .ok (.value (.string ⟨y.toArray⟩)) w := by
  obtain ⟨h1, rfl⟩ := cat_some hy
  exact cat_run t l x h1
theorem str_slice_run (t : TypeId) (l y : List UInt8) (lo hi : Option Value) (a b : Int) (ht : P.underlying t = some .string)
    (hl : (lo = none ∧ a = 0) ∨ ∃ ik, lo = some (.int ik a)) (hh : (hi = none ∧ b = l.length) ∨ ∃ ik, hi = some (.int ik b)) (hy : slc l a b = some y) :
    (vS (Instr.sliceAt t (.string ⟨l.toArray⟩) lo hi none)).run P w = .ok (.value (.string ⟨y.toArray⟩)) w := by
  obtain ⟨⟨h1, h2, h3⟩, hy1, hy2⟩ := slc_some hy
  refine vS_run ?_
  have hs : (⟨l.toArray⟩ : ByteArray).size = l.length := rfl
  have hb : ∀ (ik : IntKind) (x : Int) (m : Nat) (c : BoundsCode), 0 ≤ x → x ≤ m → (Instr.sliceBound (.int ik x) m c).run P w = .ok x.toNat w := by
    intro ik x m c h0 hx
    simp only [Instr.sliceBound, asIntOf, Sem.run_bind, Sem.run_pure, Result.andThen_ok, h0, hx, and_self, if_true]
  have hbs : (Instr.sliceBounds false l.length l.length lo hi none).run P w = .ok (a.toNat, b.toNat, l.length) w := by
    have e2 : (((b.toNat : Nat)) : Int) = b := by omega
    have hb1 : ∀ ik c, (Instr.sliceBound (.int ik a) b.toNat c).run P w = .ok a.toNat w := fun ik c => hb ik a _ c h1 (by omega)
    have hb2 : ∀ ik c, (Instr.sliceBound (.int ik b) l.length c).run P w = .ok b.toNat w := fun ik c => hb ik b _ c (by omega) h3
    have hb3 : ∀ ik c, b = l.length → (Instr.sliceBound (.int ik a) l.length c).run P w = .ok a.toNat w := fun ik c e => hb ik a _ c h1 (by omega)
    rcases hl with ⟨rfl, rfl⟩ | ⟨ik, rfl⟩ <;> rcases hh with ⟨rfl, rfl⟩ | ⟨ik', rfl⟩
    · simp only [Instr.sliceBounds, Sem.run_bind, Sem.run_pure, Result.andThen_ok, Int.toNat_natCast]; rfl
    · simp only [Instr.sliceBounds, Sem.run_bind, Sem.run_pure, Result.andThen_ok, hb2]; rfl
    · simp only [Instr.sliceBounds, Sem.run_bind, Sem.run_pure, Result.andThen_ok, hb3 _ _ rfl, Int.toNat_natCast]
    · simp only [Instr.sliceBounds, Sem.run_bind, Sem.run_pure, Result.andThen_ok, hb1, hb2]
  have hx : (⟨l.toArray⟩ : ByteArray).extract a.toNat b.toNat = ⟨y.toArray⟩ := by
    apply ByteArray.ext
    rw [ByteArray.data_extract, hy1]
    simp [List.drop_take]
  simp only [Instr.sliceAt, Instr.slice, Sem.run_bind, Sem.run_pure, Result.andThen_ok, run_underlying ht, hs, hbs, hx, Option.isSome_none, Bool.false_eq_true, if_false]
end
def rdy1 (ops : Array Oper) (done : List Nat) (i : Nat) : Bool := !done.contains i && match ops[i]? with
  | some o => o.after.toList.all fun e => !Region.binds .any e || (Nat.blt e.on ops.size && done.contains e.on)
  | none => false
def rdyL (ops : Array Oper) (done : List Nat) : List Nat := (List.range ops.size).filter (rdy1 ops done)
theorem getD_fold : ∀ (done : List Nat) (l : Array Bool) (k : Nat) (d : Bool), k < l.size → (done.foldl (fun l i => l.setIfInBounds i true) l).getD k d = (done.contains k || l.getD k d)
  | [], l, k, d, h => by simp
  | i :: r, l, k, d, h => by
    rw [List.foldl_cons, getD_fold r _ k d (by simpa using h), List.contains_cons]
    by_cases e : k = i
    · subst e
      simp [h]
    · have e2 : (k == i) = false := by simpa using e
      rw [e2, Bool.false_or]
      congr 1
      rw [Array.getD_eq_getD_getElem?, Array.getD_eq_getD_getElem?, Array.getElem?_setIfInBounds_ne (fun h => e h.symm)]
theorem listed_get (m : Nat) (done : List Nat) (k : Nat) (d : Bool) (h : k < m) : (listedOf m done).getD k d = done.contains k := by
  unfold listedOf
  rw [getD_fold done _ k d (by simpa using h)]
  simp [h]
theorem listed_out (m : Nat) (done : List Nat) (k : Nat) (h : m ≤ k) (d : Bool) : (listedOf m done).getD k d = d := by
  have hs : (listedOf m done).size = m := by
    unfold listedOf
    have : ∀ (done : List Nat) (l : Array Bool), (done.foldl (fun l i => l.setIfInBounds i true) l).size = l.size := by
      intro done
      induction done with
      | nil => intro l; rfl
      | cons i r ih => intro l; rw [List.foldl_cons, ih]; simp
    rw [this]; simp
  rw [Array.getD_eq_getD_getElem?, Array.getElem?_eq_none (by omega)]
  rfl
theorem rdy_eq (ops : Array Oper) (done : List Nat) : Region.ready .any ops (listedOf ops.size done) = rdyL ops done := by
  unfold Region.ready rdyL
  refine List.filter_congr fun i hi => ?_
  have hi := List.mem_range.1 hi
  rw [listed_get _ _ _ _ hi]
  unfold rdy1
  congr 1
  rw [Array.getElem?_eq_getElem hi]
  simp only [Option.map_some, Option.getD_some]
  rw [← Array.all_toList]
  congr 1
  funext e
  congr 1
  by_cases h : e.on < ops.size
  · rw [listed_get _ _ _ _ h, show Nat.blt e.on ops.size = true from by simpa [Nat.blt_eq] using h, Bool.true_and]
  · rw [listed_out _ _ _ (by omega), show Nat.blt e.on ops.size = false from by rw [Bool.eq_false_iff]; intro hh; rw [Nat.blt_eq] at hh; exact h hh, Bool.false_and]
def edgeTo (o : Oper) (k : Nat) : Bool := o.after.toList.any fun e => Region.binds .any e && e.on == k
def statB (B : Code) (p : List Nat) : Bool := Region.noSelect (opsAt B p) && ((List.range (opsAt B p).size).all fun i => (List.range (opsAt B p).size).all fun j => Nat.beq j i || match (opsAt B p)[i]?, (opsAt B p)[j]? with
  | some oi, some oj => edgeTo oj i || edgeTo oi j || oi.apart (opsAt B p) oj
  | _, _ => true)
theorem free_of_stat {B : Code} {p : List Nat} (h : statB B p = true) {done : List Nat} {i : Nat} (hr : rdy1 (opsAt B p) done i = true) (hl : Nat.blt done.length (opsAt B p).size = true) : freeB B p done i = true := by
  unfold statB at h
  simp only [Bool.and_eq_true] at h
  obtain ⟨h1, h2⟩ := h
  have hi : i < (opsAt B p).size := by
    unfold rdy1 at hr
    simp only [Bool.and_eq_true] at hr
    have := hr.2
    split at this
    · rename_i o ho; exact (Array.getElem?_eq_some_iff.1 ho).1
    · cases this
  unfold freeB
  simp only [Bool.and_eq_true]
  refine ⟨h1, ?_, ?_, hl⟩
  · unfold Region.free
    rw [Array.getElem?_eq_getElem hi]
    simp only [List.all_eq_true, List.mem_range]
    intro j hj
    have h3 := List.all_eq_true.1 (List.all_eq_true.1 h2 i (List.mem_range.2 hi)) j (List.mem_range.2 hj)
    rw [Array.getElem?_eq_getElem hi, Array.getElem?_eq_getElem hj] at h3
    rw [Array.getElem?_eq_getElem hj, listed_get _ _ _ _ hj]
    simp only [Bool.or_eq_true] at h3 ⊢
    rcases h3 with h3 | (h3 | h3) | h3
    · exact .inl (.inl (by simpa using h3))
    · refine .inr (.inl ?_)
      unfold edgeTo at h3
      rwa [Array.any_toList] at h3
    · refine .inl (.inr ?_)
      unfold edgeTo at h3
      obtain ⟨e, he, h4⟩ := List.any_eq_true.1 h3
      simp only [Bool.and_eq_true, beq_iff_eq] at h4
      unfold rdy1 at hr
      rw [Array.getElem?_eq_getElem hi] at hr
      simp only [Bool.and_eq_true] at hr
      have h5 := List.all_eq_true.1 hr.2 e he
      simp only [h4.1, Bool.not_true, Bool.false_or, Bool.and_eq_true] at h5
      rw [← h4.2]
      exact h5.2
    · exact .inr (.inr h3)
  · rw [rdy_eq, List.contains_iff_mem]
    exact List.mem_filter.2 ⟨List.mem_range.2 hi, hr⟩
section
variable {P : Program} {B : Code} {Q : Exit → Act → World → Prop} [NPc Q] {J : Nat → Act → World → Prop} {n : Cx} {p : List Nat} {k : List It} {κ : Kn} {w : World} {fn : Func} {Rp : Ending → World → Prop} {w0 : World} {F0 : Nat → Prop} {m0 m : Mem} {σ : List Item}
theorem drawS (S : World → Prop) (H : St w0 F0 m0 m σ w) (hd : isDraw B p = true) (hm : P.follows .mixedOrders = true)
    (h : ∀ w1 : World, St w0 F0 m0 m σ w1 → D P B Q J n p k S [] κ w1) : R P B Q J n (.co p :: k) κ w :=
  drawR _ hd hm (h { w with drawn := w.drawn + 1 } (H.ex ⟨rfl, rfl, rfl, Nat.le_refl _, fun _ _ _ => rfl, Nat.le_succ _⟩))
variable {S : World → Prop} {done : List Nat} {i : Nat}
theorem stD2 (hr : (rdyL (opsAt B p) done == [i] && Nat.blt done.length (opsAt B p).size) = true) (hS : S w) (h : Step P B n p i κ w (fun κ' w' => D P B Q J n p k S (done ++ [i]) κ' w')) : D P B Q J n p k S done κ w := by
  simp only [Bool.and_eq_true, beq_iff_eq] at hr
  refine stD ?_ hS h
  unfold onlyB
  rw [rdy_eq, hr.1]
  simp [hr.2]
theorem allD2 (rs : List Nat) (hr : (rdyL (opsAt B p) done == rs && (!rs.isEmpty && Nat.blt done.length (opsAt B p).size)) = true) (hS : S w) (h : AllL (fun i => Step P B n p i κ w (fun κ' w' => D P B Q J n p k S (done ++ [i]) κ' w')) rs) : D P B Q J n p k S done κ w :=
  allD rs (by unfold readyB; rw [rdy_eq]; exact hr) hS h
theorem endD2 (hr : (rdyL (opsAt B p) done).isEmpty = true) (hS : S w) (h : R P B Q J n k κ w) : D P B Q J n p k S done κ w :=
  endD (by unfold doneB; rw [rdy_eq]; exact hr) hS h
def rdyB (B : Code) (p : List Nat) (done : List Nat) (i : Nat) : Bool := rdy1 (opsAt B p) done i && Nat.blt done.length (opsAt B p).size
theorem takeD2 {d : Option Nat} {s : Sem Next} {v : Value} (hst : statB B p = true) (hf : rdyB B p done i = true) (ho : fetch B n p i κ = some (d, s)) (hs : ∀ w', S w' → s.run P w' = .ok (.value v) w')
    (h : D P B Q J n p k S (done ++ [i]) (putk d v κ) w) : D P B Q J n p k S done κ w := by
  simp only [rdyB, Bool.and_eq_true] at hf
  exact takeD (free_of_stat hst hf.1 hf.2) ho hs h
end
end Go.Proofs.YtkmhidggbnbaaaaGreatDoor.K
set_option linter.unusedVariables false
set_option linter.unusedSimpArgs false
namespace Go.Proofs.YtkmhidggbnbaaaaGreatDoor.K
open Go Go.RowKit Go.ChangeShapes Go.WideShapes Go.ChangeAt
def Opn (P : Program) (t : TypeId) {α : Type} (r : Rep α) : Prop :=
  ∀ (H : Type) (enc : TypeId × Value → H) (W : World) (fuel : Nat) (cs : List Value) (x : DataW H × List MemPlace), DataW.trod enc P W 0 (fun _ => true) true fuel t cs = some x → ∃ a : α, r.im (memOf W) cs a ∧ r.wf a
theorem mc_memOf (W : World) (a : Addr) : mc (memOf W) a = W.cell? a := rfl
variable {P : Program} {t e : TypeId}
theorem opn_i64 (ht : P.underlying t = some (.int .i64)) : Opn P t rI64 := by
  intro H enc W fuel cs x h
  obtain ⟨n, rfl, _, hw⟩ := DataW.trod_int ht h
  exact ⟨n, rfl, wf_i64 hw⟩
theorem opn_u8 (ht : P.underlying t = some (.int .u8)) : Opn P t rU8 := by
  intro H enc W fuel cs x h
  obtain ⟨n, rfl, _, hw⟩ := DataW.trod_int ht h
  have := wf_u8 hw
  refine ⟨UInt8.ofNat n.toNat, ?_, trivial⟩
  have e : (UInt8.ofNat n.toNat).toNat = n.toNat % 256 := by simp
  show [Value.int .u8 n] = [Value.int .u8 ((UInt8.ofNat n.toNat).toNat : Int)]
  rw [e, show ((n.toNat % 256 : Nat) : Int) = n by omega]
theorem opn_str (ht : P.underlying t = some .string) : Opn P t rStr := by
  intro H enc W fuel cs x h
  obtain ⟨s, rfl, _, hs⟩ := DataW.trod_string ht h
  have : s.data.toList.length ≤ 9223372036854775807 := by
    have h1 : s.data.toList.length ≤ maxLen := by simpa using hs
    exact h1
  exact ⟨s.data.toList, ⟨rfl, this⟩, this⟩
theorem opn_slice {α : Type} {r : Rep α} (ht : P.underlying t = some (.slice e)) (hc : P.cellsOf e = r.sz) (he : Opn P e r) : Opn P t (rSl r) := by
  intro H enc W fuel cs x h
  rcases Deep.open_slice ht h with ⟨rfl, _⟩ | ⟨a, len, cap, m, n, D, Pl, rfl, hb, hl, hm, hmm, _, hx⟩
  · exact ⟨[], ⟨none, 0, rfl, SlI.nil _ _⟩, Nat.zero_le _, by simp⟩
  · simp only [if_true] at hmm
    subst hmm
    have key : ∀ k, k ≤ m → ∃ (xs : List Value) (l : List α), l.length = k ∧ Rows r (memOf W) xs l ∧ (∀ j u, xs[j]? = some u → mc (memOf W) (a.add j) = some u) ∧ ∀ x ∈ l, r.wf x := by
      intro k
      induction k with
      | zero => exact fun _ => ⟨[], [], rfl, rfl, by simp, by simp⟩
      | succ k ih =>
        intro hk
        obtain ⟨xs, l, h1, h2, h3, h4⟩ := ih (by omega)
        obtain ⟨cs', h5, h6⟩ := hx k (by omega)
        obtain ⟨b, h7, h8⟩ := he H enc W n cs' _ h6
        refine ⟨xs ++ cs', l ++ [b], by simp [h1], h2.app (Rows.single h7), ?_, ?_⟩
        · intro j u hj
          have hxl : xs.length = k * r.sz := by rw [h2.len, h1]
          rcases Nat.lt_or_ge j xs.length with hlt | hge
          · rw [List.getElem?_append_left hlt] at hj
            exact h3 j u hj
          · rw [List.getElem?_append_right hge] at hj
            obtain ⟨hlen, _, h9⟩ := World.cells?_some h5
            have hjl := (List.getElem?_eq_some_iff.1 hj).1
            have h10 := h9 (j - xs.length) (by rw [hc, ← r.len h7]; exact hjl)
            rw [hj, K.add_add, hc, ← hxl, show xs.length + (j - xs.length) = j by omega] at h10
            rw [mc_memOf]
            exact h10
        · intro x hx'
          rcases List.mem_append.1 hx' with h | h
          · exact h4 x h
          · rw [List.mem_singleton] at h
            subst h
            exact h8
    obtain ⟨xs, l, h1, h2, h3, h4⟩ := key len hl
    have hm' : m ≤ 9223372036854775807 := hm
    refine ⟨l, ⟨some a, m, by rw [h1], ⟨by rw [h1]; exact hl, hm, xs, h2, fun j u hj => ⟨a, rfl, h3 j u hj⟩⟩⟩, by rw [h1]; omega, h4⟩
theorem open_rep {α : Type} {r : Rep α} {W : World} {H : Type} {enc : TypeId × Value → H} {v : Value} {d : DataW H} {ps : List MemPlace} (ho : Opn P t r) (h : DataW.Trod enc P W 0 (fun _ => true) true t v d ps) :
    ∃ a : α, r.im (memOf W) v.cells.toList a ∧ r.wf a := by
  obtain ⟨fuel, hf⟩ := h
  exact ho H enc W fuel _ _ hf
theorem open_sl {α : Type} {r : Rep α} {W : World} {H : Type} {enc : TypeId × Value → H} {A : Option Addr} {len cap : Nat} {d : DataW H} {ps : List MemPlace} (ho : Opn P t (rSl r)) (h : DataW.Trod enc P W 0 (fun _ => true) true t (.slice A len cap) d ps) :
    ∃ l : List α, len = l.length ∧ SlI r (memOf W) A cap l ∧ (rSl r).wf l := by
  obtain ⟨l, ⟨A', c', h1, h2⟩, h3⟩ := open_rep ho h
  simp [Value.cells] at h1
  obtain ⟨rfl, rfl, rfl⟩ := h1
  exact ⟨l, rfl, h2, h3⟩
end Go.Proofs.YtkmhidggbnbaaaaGreatDoor.K
set_option linter.unusedVariables false
set_option linter.unusedSimpArgs false
set_option linter.unusedSectionVars false
namespace Go.Proofs.YtkmhidggbnbaaaaGreatDoor.K
open Go Go.RowKit
def bigI (its : List Item) : Item where
  P m w F := Sep m w its F
  loc h hk := Sep.loc h hk
  mono hs h := Sep.mono hs h
  dom h := Sep.dom h
def exI {β : Type} (f : β → Item) : Item where
  P m w F := ∃ b, (f b).P m w F
  loc := fun ⟨b, h⟩ hk => ⟨b, (f b).loc h hk⟩
  mono hs := fun ⟨b, h⟩ => ⟨b, (f b).mono hs h⟩
  dom := fun ⟨b, h⟩ => (f b).dom h
def facI (p : Prop) : Item where
  P _ _ F := p ∧ ∀ k, ¬ F k
  loc h _ := h
  mono _ h := h
  dom h k hk := (h.2 k hk).elim
def slI {α : Type} (r : Rep α) (A : Option Addr) (c : Nat) (l : List α) : Item where
  P m _ F := SlI r m A c l ∧ ∀ k, ¬ F k
  loc h _ := h
  mono hs h := ⟨h.1.mono hs, h.2⟩
  dom h k hk := (h.2 k hk).elim
section
variable {w0 : World} {F0 : Nat → Prop} {m0 m : Mem} {σ τ : List Item} {w w1 : World}
theorem St.sepr (H : St w0 F0 m0 m σ w) (h : ∀ F, Sep m w σ F → Sep m w τ F) : St w0 F0 m0 m τ w := by
  obtain ⟨F, h1, h2⟩ := H.sep
  exact ⟨H.kp, H.sub, H.has, H.new, F, h F h1, h2⟩
theorem St.big (its : List Item) (H : St w0 F0 m0 m (its ++ σ) w) : St w0 F0 m0 m (bigI its :: σ) w := H.sepr fun F h => Sep.app.1 h
theorem St.unbig {its : List Item} (H : St w0 F0 m0 m (bigI its :: σ) w) : St w0 F0 m0 m (its ++ σ) w := H.sepr fun F h => Sep.app.2 h
theorem St.exi {β : Type} {f : β → Item} (b : β) (H : St w0 F0 m0 m (f b :: σ) w) : St w0 F0 m0 m (exI f :: σ) w :=
  H.sepr fun F ⟨F1, F2, h1, h2⟩ => ⟨F1, F2, ⟨b, h1⟩, h2⟩
theorem St.unex {β : Type} {f : β → Item} (H : St w0 F0 m0 m (exI f :: σ) w) : ∃ b, St w0 F0 m0 m (f b :: σ) w := by
  obtain ⟨F, ⟨F1, F2, ⟨b, h1⟩, h2⟩, h3⟩ := H.sep
  exact ⟨b, H.kp, H.sub, H.has, H.new, F, ⟨F1, F2, h1, h2⟩, h3⟩
theorem St.swap (H : St w0 F0 m0 m (σ ++ τ) w) : St w0 F0 m0 m (τ ++ σ) w := H.sepr fun F h => by
  obtain ⟨F1, F2, h1, h2, h3, h4⟩ := Sep.app.1 h
  exact Sep.app.2 ⟨F2, F1, h2, h1, fun k a b => h3 k b a, fun k => (h4 k).trans Or.comm⟩
theorem St.obj {g : Nat} {o : Obj} (H : St w0 F0 m0 m (objI g o :: σ) w) : w.heap[g]? = some o := by
  obtain ⟨F, h1, _⟩ := H.upd 0 rfl
  exact h1.1
theorem kp_putObj (w : World) (g : Nat) (o : Obj) : Kp (fun k => k = g) w (w.putObj g o) :=
  ⟨rfl, rfl, rfl, by simp, fun k _ hk => World.putObj_heap_other hk, Nat.le_refl _⟩
theorem St.putObj {g : Nat} {o : Obj} (o' : Obj) (H : St w0 F0 m0 m (objI g o :: σ) w) : St w0 F0 m0 m (objI g o' :: σ) (w.putObj g o') := by
  obtain ⟨F, h1, h2, h3⟩ := H.upd 0 rfl
  exact h3 _ (objI g o') (fun k => k = g) ((kp_putObj w g o').mono (fun k _ e => (h1.2 k).2 e)) ⟨World.putObj_heap_same (blk_lt h1.1), fun k => Iff.rfl⟩ (fun k e => .inl ((h1.2 k).2 e))
theorem ex_allocO (w : World) (o : Obj) : Ex w (w.alloc o) := ⟨rfl, rfl, rfl, by simp, fun k hk _ => Below.heap_alloc w o k hk, Nat.le_refl _⟩
theorem St.allocO (H : St w0 F0 m0 m σ w) (o : Obj) : St w0 F0 m0 m (objI w.heap.size o :: σ) (w.alloc o) :=
  H.add (ex_allocO w o) (j := objI w.heap.size o) (G := fun k => k = w.heap.size) ⟨World.alloc_heap_new w o, fun k => Iff.rfl⟩ (fun k e => by omega)
theorem St.mark {D : Nat} (H : St w0 F0 m0 m (objI D (.deferred (some [])) :: σ) w) : w.heap[D]? = some (.deferred (some [])) ∧ St w0 F0 m0 m σ (w.putObj D (.deferred none)) :=
  ⟨H.obj, (H.putObj _).drop0⟩
end
def Yld {α σs ρs : Type} (P : Program) (l : Nat) (m : Mem) (im : Mem → Array Value → α → Prop) (X : σs → Item) (Y : ρs → Item) (bd : σs → α → Option (Sum σs ρs)) : Prop :=
  ∀ (s : σs) (x : α) (y : Sum σs ρs) (args : Array Value) (m1 : Mem) (W : World) (F : Nat → Prop), Sub m m1 → Has m1 W → im m1 args x → Sep m1 W [X s] F → (∀ k, F k → m1 k = none) → bd s x = some y →
    ∃ fn tmps assign body, (Instr.yield l args).run P W = .ok (.round l fn tmps assign body) W ∧
      RoundIn (Fr none) 0 P l fn tmps assign body W fun e W' => ∃ m2, e = .returned (.bool y.isLeft) ∧ St W F m1 m2 [Sum.elim X Y y] W'
theorem Yld.sub {α σs ρs : Type} {P : Program} {l : Nat} {m m' : Mem} {im : Mem → Array Value → α → Prop} {X : σs → Item} {Y : ρs → Item} {bd : σs → α → Option (Sum σs ρs)} (h : Yld P l m im X Y bd) (hs : Sub m m') : Yld P l m' im X Y bd :=
  fun s x y args m1 W F h1 => h s x y args m1 W F (hs.trans h1)
section
variable {P : Program} {B : Code} {n : Cx} {p : List Nat} {i : Nat} {κ : Kn} {w : World} {Z : Kn → World → Prop} {w0 : World} {F0 : Nat → Prop} {m0 m m1 : Mem} {σ : List Item}
theorem yldS {α σs ρs : Type} {im : Mem → Array Value → α → Prop} {X : σs → Item} {Y : ρs → Item} {bd : σs → α → Option (Sum σs ρs)} (d : Option Nat) (l : Nat) (args : Array Value) (s : σs) (x : α) (y : Sum σs ρs)
    (hY : Yld P l m im X Y bd) (H : St w0 F0 m0 m1 (X s :: σ) w) (hsub : Sub m m1) (him : im m1 args x) (hbd : bd s x = some y) (ho : fetch B n p i κ = some (d, Instr.yield l args))
    (hk : ∀ m2 w1, Sub m1 m2 → St w0 F0 m0 m2 (Sum.elim X Y y :: σ) w1 → Z (putk d (.bool y.isLeft) κ) w1) : StepIn P B n p i κ w Z := by
  intro Q K hK a ha
  obtain ⟨o, ho', hnd, rfl, hd, he⟩ := fetch_spec ho
  obtain ⟨h1, h2⟩ := he a ha
  refine ⟨o, ho', h1, fun _ _ => trivial, ?_⟩
  rw [Oper.semAt_eq _ _ _ (noDefer_ne hnd), h2]
  obtain ⟨F, hs, hF, hcl⟩ := St.call [X s] (σ := σ) H
  obtain ⟨fn, tmps, assign, body, hy, hR⟩ := hY s x y args m1 w F hsub H.has him hs hF hbd
  rw [hy]
  refine ⟨fun e => (by cases e), ?_⟩
  have hR' : RoundIn (Fr n.ro) 0 P l fn tmps assign body w fun e W' => ∃ m2, e = .returned (.bool y.isLeft) ∧ St w F m1 m2 [Sum.elim X Y y] W' := hR
  refine hR'.mono ?_
  rintro e W' ⟨m2, rfl, hS⟩
  exact hK _ _ _ (hk m2 W' hS.sub (hcl _ _ _ hS)) (ha.put _ hd _)
end
def setK : List Nat → List Value → Kn → Kn
  | p :: ps, v :: vs, κ => setK ps vs ((p, v) :: κ)
  | _, _, κ => κ
theorem Ag.setK {N : Nat} {ro : Option Nat} : ∀ {ps : List Nat} {vs : List Value} {κ : Kn} {t : Array Value}, Ag ⟨N, ro, [], []⟩ κ { tmps := t, defers := [] } → ps.all (fun p => Nat.blt p N) = true →
    Ag ⟨N, ro, [], []⟩ (K.setK ps vs κ) { tmps := (ps.zip vs).foldl (fun t (p, v) => t.setIfInBounds p v) t, defers := [] }
  | [], vs, κ, t, h, _ => by simpa [K.setK] using h
  | p :: ps, [], κ, t, h, _ => by simpa [K.setK] using h
  | p :: ps, v :: vs, κ, t, h, hp => by
    simp only [List.all_cons, Bool.and_eq_true] at hp
    have := h.put (some p) (show dok (some p) N = true from hp.1) v
    simp only [K.setK, List.zip_cons_cons, List.foldl_cons]
    exact Ag.setK (ps := ps) (vs := vs) this hp.2
def asgQ (n : Cx) (κ : Kn) (W : World) : Exit → Act → World → Prop
  | .normal, a, w => w = W ∧ Ag n κ a
  | _, _, _ => False
def rndQ {σs ρs β γ : Type} (W : World) (F : Nat → Prop) (m1 : Mem) (its : σs → β → List Item) (itsY : ρs → γ → List Item) (jmp : ρs → Code) (y : Sum σs ρs) : Exit → Act → World → Prop
  | .normal, _, w => ∃ s b m2, y = .inl s ∧ St W F m1 m2 (its s b) w
  | .ret, _, w => ∃ r c m2, y = .inr r ∧ jmp r = .ret ∧ St W F m1 m2 (itsY r c) w
  | .exit id, _, w => ∃ r c m2, y = .inr r ∧ jmp r = .exit id ∧ St W F m1 m2 (itsY r c) w
  | _, _, _ => False
def noJ : Nat → Act → World → Prop := fun _ _ _ => False
def isRF (B : Code) (p : List Nat) (g : Nat) (ps : List Nat) : Bool := match cAt B p with
  | .rangeFunc (.tmp g') ps' _ _ => Nat.beq g' g && (ps'.toList == ps)
  | _ => false
def RC (P : Program) (B : Code) (Q : Exit → Act → World → Prop) (J : Nat → Act → World → Prop) (n : Cx) (c : Code) (k : List It) (κ : Kn) (w : World) : Prop := ∀ a, Ag n κ a → c.wpIn (Fr n.ro) 0 P (Hd P B n.ro Q J k) a w
section
variable {P : Program} {B : Code} {Q : Exit → Act → World → Prop} {J : Nat → Act → World → Prop} {N : Nat} {ds : List Nat} {p : List Nat} {k : List It} {κ : Kn} {w : World} {w0 : World} {F0 : Nat → Prop} {m0 m : Mem} {σ : List Item}
theorem rangeR {α σs ρs β γ : Type} (its : σs → β → List Item) (itsY : ρs → γ → List Item) (jmp : ρs → Code) (bd : σs → α → Option (Sum σs ρs)) (im : Mem → Array Value → α → Prop) (ps : List Nat) (g : Nat) (gf : FuncId) (lb : Array Value) (own : List Item) (s0 : σs) (b0 : β) (r : Sum σs ρs)
    (hc : isRF B p g ps = true) (hps : ps.all (fun q => Nat.blt q N) = true) (hg : fnd κ g = some (.func (.func gf) #[] lb)) (eg : ∀ args w, (callFunc gf args).run P w = .ok (.enter gf args) w) (him : ∀ m1 args x, im m1 args x → args.size = ps.length)
    (H : St w0 F0 m0 m (its s0 b0 ++ (own ++ σ)) w)
    (hit : ∀ (l : Nat) (X : σs → Item) (Y : ρs → Item) (W : World) (F : Nat → Prop), Has m W → Yld P l m im X Y bd → Sep m W (X s0 :: own) F → (∀ k, F k → m k = none) →
      Calls P gf (#[.func (.yield l) #[] #[]] ++ lb) W fun e W' => ∃ v, e = .returned v ∧ ∃ m', St W F m m' [Sum.elim X Y r] W')
    (hround : ∀ (l : Nat) (s : σs) (b : β) (x : α) (y : Sum σs ρs) (args : Array Value) (m1 : Mem) (F : Nat → Prop) (W : World), Sub m m1 → im m1 args x → bd s x = some y → St W F m1 m1 (its s b) W →
      ∃ κ2, (∀ W', R P B (asgQ ⟨N, some l, [], []⟩ κ2 W') noJ ⟨N, some l, [], []⟩ [.co (p ++ [0])] (setK ps args.toList κ) W') ∧
        R P B (rndQ W F m1 its itsY jmp y) noJ ⟨N, some l, [], []⟩ [.co (p ++ [1])] κ2 W)
    (hdone : ∀ s b m' D w', r = .inl s → Sub m m' → St w0 F0 m0 m' (objI D (.deferred (some [])) :: (its s b ++ σ)) w' → R P B Q J ⟨N, none, D :: ds, []⟩ k κ w')
    (hstop : ∀ q c m' D w', r = .inr q → Sub m m' → St w0 F0 m0 m' (objI D (.deferred (some [])) :: (itsY q c ++ σ)) w' → RC P B Q J ⟨N, none, D :: ds, []⟩ (jmp q) k κ w') :
    R P B Q J ⟨N, none, ds, []⟩ (.co p :: k) κ w := by
  intro a ha
  obtain ⟨pa, assign, body, hc1, hc2⟩ : ∃ pa assign body, cAt B p = .rangeFunc (.tmp g) pa assign body ∧ pa.toList = ps := by
    unfold isRF at hc
    split at hc
    · rename_i g' ps' x y heq
      simp only [Bool.and_eq_true, beq_iff_eq] at hc
      have := Nat.eq_of_beq_eq_true hc.1
      subst this
      exact ⟨_, _, _, heq, hc.2⟩
    · cases hc
  simp only [Hd, Exit.then]
  rw [hc1]
  refine wpIn_rangeFunc ?_
  intro fn _
  have hag : a.eval (.tmp g) = .func (.func gf) #[] lb := ha.get _ _ hg
  obtain ⟨rec, hrec⟩ : ∃ rec : LoopState → Option Code → Loop, rec = fun st pe => { state := st, pending := pe, fn, tmps := a.tmps, params := pa, assign, body, defers := w.heap.size } := ⟨_, rfl⟩
  obtain ⟨W1, hW1⟩ : ∃ W1, (w.alloc (.deferred (some []))).alloc (.loop (rec .ready none)) = W1 := ⟨_, rfl⟩
  have H1 : St w0 F0 m0 m (objI (w.heap.size + 1) (.loop (rec .ready none)) :: objI w.heap.size (.deferred (some [])) :: (its s0 b0 ++ (own ++ σ))) W1 := by
    rw [← hW1]
    have := (H.allocO (.deferred (some []))).allocO (.loop (rec .ready none))
    rwa [World.size_alloc] at this
  obtain ⟨X, hX⟩ : ∃ X : σs → Item, X = fun s => exI fun b => bigI (objI (w.heap.size + 1) (.loop (rec .ready none)) :: objI w.heap.size (.deferred (some [])) :: its s b) := ⟨_, rfl⟩
  obtain ⟨Y, hYd⟩ : ∃ Y : ρs → Item, Y = fun q => exI fun c => bigI (objI (w.heap.size + 1) (.loop (rec .done (some (jmp q)))) :: objI w.heap.size (.deferred (some [])) :: itsY q c) := ⟨_, rfl⟩
  have H2 : St w0 F0 m0 m ((X s0 :: own) ++ σ) W1 := by
    rw [hX]
    exact St.exi b0 (St.big (objI (w.heap.size + 1) (.loop (rec .ready none)) :: objI w.heap.size (.deferred (some [])) :: its s0 b0) (σ := own ++ σ) H1)
  obtain ⟨F, hs, hF, hcl⟩ := St.call (X s0 :: own) H2
  refine ⟨w.heap.size + 1, [mkD w.heap.size], W1, { target := .fn (.func gf) lb, args := #[.func (.yield (w.heap.size + 1)) #[] #[]] }, W1, gf, #[.func (.yield (w.heap.size + 1)) #[] #[]] ++ lb, W1, ?_, ?_, fun _ _ => trivial, ?_, fun e => (by cases e), fr_calls ?_⟩
  · rw [← hW1, hrec]; exact run_enterLoop_outer _ _ _ _ _
  · simp only [resolve, hag]
    simp [go_sem]
  · simp [invoke, go_sem, eg]
  · refine (hit (w.heap.size + 1) X Y W1 F H2.has ?_ hs hF).mono ?_
    ·
      intro s x y args m1 W F' hsub hhas hi hSX hF' hbd
      have Ha : St W F' m1 m1 [X s] W := St.start hhas hSX hF'
      rw [hX] at Ha
      obtain ⟨b, Hb⟩ := Ha.unex
      have Hc := Hb.unbig
      rw [List.append_nil] at Hc
      have hl := Hc.obj
      have hsz : args.size = pa.size := by rw [him _ _ _ hi, ← hc2]; simp
      have hy := run_yield (P := P) (args := args) hl (by rw [hrec]; exact hsz)
      refine ⟨fn, _, assign, body, by rw [hrec] at hy; exact hy, ?_⟩
      have hbusy := Hc.putObj (.loop { rec .ready none with state := .busy })
      obtain ⟨W2, hW2⟩ : ∃ W2, W.putObj (w.heap.size + 1) (.loop { rec .ready none with state := .busy }) = W2 := ⟨_, rfl⟩
      rw [hW2] at hbusy
      have Hd_ := St.swap (σ := [objI (w.heap.size + 1) (.loop { rec .ready none with state := .busy }), objI w.heap.size (.deferred (some []))]) (τ := its s b) hbusy
      obtain ⟨F2, hs2, hF2, hcl2⟩ := St.call (its s b) Hd_
      have He : St W2 F2 m1 m1 (its s b) W2 := St.start Hd_.has hs2 hF2
      obtain ⟨κ2, hasg, hbody⟩ := hround (w.heap.size + 1) s b x y args m1 F2 W2 hsub hi hbd He
      refine roundIn_of_wpIn trivial ?_
      have ha0 : Ag ⟨N, some (w.heap.size + 1), [], []⟩ κ { tmps := a.tmps, defers := [] } := ⟨rfl, ha.size, ha.get⟩
      have ha1 := Ag.setK (ps := ps) (vs := args.toList) ha0 hps
      have hz : (pa.zip args).foldl (fun t (p, v) => t.setIfInBounds p v) a.tmps = (ps.zip args.toList).foldl (fun t (p, v) => t.setIfInBounds p v) a.tmps := by
        rw [← hc2, ← Array.foldl_toList, Array.toList_zip]
      have h1 := hasg W _ ha1
      simp only [Hd, Exit.then, cAt_append, hc1, cAt] at h1
      rw [hz]
      refine wpIn_mono h1 ?_
      intro e a1 w1 hq
      cases e with
      | normal =>
        obtain ⟨rfl, ha2⟩ := hq
        refine ⟨W2, by rw [← hW2]; exact run_beginRound hl (by rw [hrec]), ?_⟩
        have h2 := hbody a1 ha2
        simp only [Hd, Exit.then, cAt_append, hc1, cAt] at h2
        refine wpIn_mono h2 ?_
        intro e a3 w3 hq
        have fin : ∀ (jump : Option Code) (m2 : Mem) (σ2 : List Item), St W2 F2 m1 m2 σ2 w3 →
            (Instr.endRound (w.heap.size + 1) jump).run P w3 = .ok (.bool jump.isNone) (w3.putObj (w.heap.size + 1) (.loop (rec (if jump.isNone then .ready else .done) jump))) ∧
            St w1 F' m1 m2 (objI (w.heap.size + 1) (.loop (rec (if jump.isNone then .ready else .done) jump)) :: objI w.heap.size (.deferred (some [])) :: σ2) (w3.putObj (w.heap.size + 1) (.loop (rec (if jump.isNone then .ready else .done) jump))) := by
          intro jump m2 σ2 hS
          have Hf := St.swap (hcl2 _ _ _ hS)
          have hl3 := St.obj Hf
          refine ⟨?_, Hf.putObj _⟩
          have := run_endRound (P := P) jump hl3
          rw [hrec] at this ⊢
          exact this
        cases e with
        | normal =>
          obtain ⟨s', b', m2, rfl, hS⟩ := hq
          obtain ⟨g1, g2⟩ := fin none m2 _ hS
          refine ⟨_, _, g1, m2, rfl, ?_⟩
          show St w1 F' m1 m2 [X s'] _
          rw [hX]
          refine St.exi b' (St.big (σ := []) _ ?_)
          rw [List.append_nil]
          exact g2
        | ret =>
          obtain ⟨q, c, m2, rfl, hj, hS⟩ := hq
          obtain ⟨g1, g2⟩ := fin (some .ret) m2 _ hS
          refine ⟨_, _, g1, m2, rfl, ?_⟩
          show St w1 F' m1 m2 [Y q] _
          rw [hYd]
          refine St.exi c (St.big (σ := []) _ ?_)
          rw [List.append_nil, hj]
          exact g2
        | exit id =>
          obtain ⟨q, c, m2, rfl, hj, hS⟩ := hq
          obtain ⟨g1, g2⟩ := fin (some (.exit id)) m2 _ hS
          refine ⟨_, _, g1, m2, rfl, ?_⟩
          show St w1 F' m1 m2 [Y q] _
          rw [hYd]
          refine St.exi c (St.big (σ := []) _ ?_)
          rw [List.append_nil, hj]
          exact g2
        | goto t => exact hq.elim
        | panic ch => exact hq.elim
        | outgrown => exact hq.elim
      | exit id => exact hq.elim
      | goto t => exact hq.elim
      | ret => exact hq.elim
      | panic ch => exact hq.elim
      | outgrown => exact hq.elim
    ·
      rintro e W2 ⟨v, rfl, m', hS⟩
      have HS := hcl _ _ _ hS
      have ha' : ∀ D, Ag ⟨N, none, D :: ds, []⟩ κ { a with defers := [mkD D] ++ a.defers } := fun D => ⟨by rw [ha.defers]; rfl, ha.size, ha.get⟩
      cases r with
      | inl s' =>
        have HS' : St w0 F0 m0 m' (X s' :: σ) W2 := HS
        rw [hX] at HS'
        obtain ⟨b', Hb⟩ := HS'.unex
        have Hc := Hb.unbig
        have hl := St.obj Hc
        refine ⟨none, _, by have := run_endLoop (P := P) hl (by rw [hrec]; simp); rw [hrec] at this; exact this, ?_⟩
        exact hdone s' b' m' _ _ rfl hS.sub (Hc.putObj _).drop0 _ (ha' _)
      | inr q =>
        have HS' : St w0 F0 m0 m' (Y q :: σ) W2 := HS
        rw [hYd] at HS'
        obtain ⟨c', Hb⟩ := HS'.unex
        have Hc := Hb.unbig
        have hl := St.obj Hc
        refine ⟨some (jmp q), _, by have := run_endLoop (P := P) hl (by rw [hrec]; simp); rw [hrec] at this; exact this, ?_⟩
        exact hstop q c' m' _ _ rfl hS.sub (Hc.putObj _).drop0 _ (ha' _)
end
theorem sumE {σ ρ α : Type} {f : σ → α} {g : ρ → α} {y : Sum σ ρ} {r : α} (h : Sum.elim f g y = r) : (∃ s, y = .inl s ∧ f s = r) ∨ ∃ q, y = .inr q ∧ g q = r := by
  cases y with
  | inl s => exact .inl ⟨s, rfl, h⟩
  | inr q => exact .inr ⟨q, rfl, h⟩
section
variable {w0 : World} {F0 : Nat → Prop} {m0 m : Mem} {σ : List Item} {w : World}
theorem St.sl {α : Type} {r : Rep α} {A : Option Addr} {c : Nat} {l : List α} (hs : SlI r m A c l) (H : St w0 F0 m0 m σ w) : St w0 F0 m0 m (slI r A c l :: σ) w :=
  H.sepr fun F h => ⟨fun _ => False, F, ⟨hs, fun _ e => e⟩, h, fun _ e => e.elim, fun k => ⟨.inr, fun e => e.elim False.elim id⟩⟩
variable {P : Program} {B : Code} {J : Nat → Act → World → Prop} {n : Cx} {κ : Kn}
theorem rndEnd {σs ρs β γ : Type} {W : World} {F : Nat → Prop} {m1 : Mem} {its : σs → β → List Item} {itsY : ρs → γ → List Item} {jmp : ρs → Code} {y : Sum σs ρs} (s : σs) (b : β) (m2 : Mem) (hy : y = .inl s) (H : St W F m1 m2 (its s b) w) : R P B (rndQ W F m1 its itsY jmp y) J n [] κ w :=
  fun a ha => ⟨s, b, m2, hy, H⟩
theorem asgEnd : R P B (asgQ n κ w) J n [] κ w := fun a ha => ⟨rfl, ha⟩
end
end Go.Proofs.YtkmhidggbnbaaaaGreatDoor.K
set_option linter.unusedVariables false
set_option linter.unusedSimpArgs false
set_option linter.unusedSectionVars false
namespace Go.Proofs.YtkmhidggbnbaaaaGreatDoor.K
open Go Go.RowKit
def arB (P : Program) (t N e sz : Nat) : Bool := match P.underlying t with
  | some (.array n e') => Nat.beq n N && (Nat.beq e' e && (match P.info? e with
    | some i => Nat.beq i.size sz
    | none => false))
  | _ => false
theorem ar_info {P : Program} {t N e sz : Nat} (h : arB P t N e sz = true) : P.underlying t = some (.array N e) ∧ ∃ i, P.info? e = some i ∧ i.size = sz := by
  unfold arB at h
  cases hu : P.underlying t with
  | none => simp [hu] at h
  | some d =>
    cases d <;> simp only [hu, Bool.false_eq_true] at h
    rename_i n e'
    simp only [Bool.and_eq_true] at h
    obtain ⟨h0, h1, h2⟩ := h
    have := Nat.eq_of_beq_eq_true h0
    subst this
    have := Nat.eq_of_beq_eq_true h1
    subst this
    cases hi : P.info? e' with
    | none => rw [hi] at h2; cases h2
    | some i =>
      rw [hi] at h2
      exact ⟨rfl, i, rfl, Nat.eq_of_beq_eq_true h2⟩
section
variable {P : Program} {B : Code} {n : Cx} {p : List Nat} {i : Nat} {κ : Kn} {w : World} {Z : Kn → World → Prop} {w0 : World} {F0 : Nat → Prop} {m0 m : Mem} {σ : List Item}
theorem idxA_run (t N e sz : Nat) (a : Addr) (ik : IntKind) (ix : Int) (ht : arB P t N e sz = true) (h0 : 0 ≤ ix) (h1 : ix < N) : (vS (Instr.indexAt t (.pointer (some a)) (.int ik ix))).run P w = .ok (.value (.pointer (some (a.add (ix.toNat * sz))))) w := by
  obtain ⟨h2, inf, h3, h4⟩ := ar_info ht
  refine vS_run ?_
  have hs : (sizeOf e).run P w = .ok sz w := by simp [sizeOf, typeInfo, h3, h4]
  have hc : 0 ≤ ix ∧ ix < N := ⟨h0, h1⟩
  simp only [Instr.indexAt, Instr.sureAddr, asIntOf, Sem.run_bind, Sem.run_pure, Result.andThen_ok, run_underlying h2, hc, and_self, if_true, hs]
theorem mcA {α : Type} {f : α → Value} {g off : Nat} {l : List α} {t : TypeId} {fr : Nat × Nat} {x : α} (h : m g = some (.cells (l.map f).toArray t fr)) (hx : l[off]? = some x) : mc m ⟨g, off, none⟩ = some (f x) :=
  mc_blk h (by rw [List.getElem?_map, hx]; rfl)
def TabM (m : Mem) (g : Nat) (cs : List Value) : Prop := ∃ t fr, m g = some (.cells cs.toArray t fr)
theorem TabM.mono {m m' : Mem} {g : Nat} {cs : List Value} (h : TabM m g cs) (hs : Sub m m') : TabM m' g cs := let ⟨t, fr, h1⟩ := h; ⟨t, fr, hs _ _ h1⟩
theorem TabM.at_ {α : Type} {f : α → Value} {g off : Nat} {l : List α} {x : α} (h : TabM m g (l.map f)) (hx : l[off]? = some x) : mc m ⟨g, off, none⟩ = some (f x) := let ⟨_, _, h1⟩ := h; mcA h1 hx
end
end Go.Proofs.YtkmhidggbnbaaaaGreatDoor.K
namespace Go.Proofs.YtkmhidggbnbaaaaGreatDoor.K
open Go
section
variable {P : Program} {w : World}
end
end Go.Proofs.YtkmhidggbnbaaaaGreatDoor.K
set_option linter.unusedVariables false
set_option linter.unusedSimpArgs false
set_option linter.unusedSectionVars false
namespace Go.Proofs.YtkmhidggbnbaaaaGreatDoor.K
open Go Go.RowKit Go.Op
section
variable {α : Type} {r : Rep α} {m : Mem}
theorem Rows.setc {x' : α} {j : Nat} {v : Value} : ∀ {l : List α} {xs : List Value} {i : Nat} {x : α}, Rows r m xs l → l[i]? = some x → (∀ cs, r.im m cs x → r.im m (cs.set j v) x') → j < r.sz → Rows r m (xs.set (i * r.sz + j) v) (l.set i x')
  | [], _, i, x, _, h, _, _ => by simp at h
  | y :: l, xs, 0, x, ⟨cs, ys, h1, h2, h3⟩, h, hu, hj => by
    simp at h
    subst h
    have hl := r.len h2
    refine ⟨cs.set j v, ys, ?_, hu cs h2, h3⟩
    rw [h1, Nat.zero_mul, Nat.zero_add, List.set_append_left _ _ (by omega)]
  | y :: l, xs, i + 1, x, ⟨cs, ys, h1, h2, h3⟩, h, hu, hj => by
    have hl := r.len h2
    have ih := h3.setc (i := i) (by simpa using h) hu hj
    refine ⟨cs, ys.set (i * r.sz + j) v, ?_, h2, ih⟩
    rw [h1, List.set_append_right _ _ (by rw [hl, Nat.add_mul]; omega), hl, Nat.add_mul, show i * r.sz + 1 * r.sz + j - r.sz = i * r.sz + j by omega]
end
section
variable {P : Program} {B : Code} {n : Cx} {p : List Nat} {i : Nat} {κ : Kn} {w : World} {Z : Kn → World → Prop} {w0 : World} {F0 : Nat → Prop} {m0 m : Mem} {σ : List Item}
theorem stElS (d : Option Nat) {α : Type} {r : Rep α} (t : TypeId) (n' i' j q : Nat) (A : Option Addr) (c : Nat) (l : List α) (e : TypeId) (x x' : α) (v : Value) (ad : Addr) (H : St w0 F0 m0 m σ w) (hn : σ[n']? = some (rowI r e A c l)) (hx : l[i']? = some x) (hA : A = some ad)
    (ho : fetch B n p i κ = some (d, uS (Instr.storeAt t (.pointer (some (ad.add q))) v))) (hq : q = i' * r.sz + j) (ht : oneB P t = true) (hv : v.oneCell' = true) (hj : j < r.sz) (hu : ∀ cs, r.im m cs x → r.im m (cs.set j v) x')
    (hk : ∀ w1, St w0 F0 m0 m (σ.set n' (rowI r e A c (l.set i' x'))) w1 → Z (putk d undef κ) w1) : Step P B n p i κ w Z := by
  obtain ⟨F, ⟨⟨xs, h1, ho1⟩, hF⟩, h2, h3⟩ := H.upd n' hn
  have hlt := (List.getElem?_eq_some_iff.1 hx).1
  have hlen := h1.len
  have hm : i' * r.sz + j < xs.length := by
    rw [hlen]
    have : (i' + 1) * r.sz ≤ l.length * r.sz := Nat.mul_le_mul_right _ hlt
    rw [Nat.add_mul] at this
    omega
  subst hq
  refine stOwnR d t 0 e r.sz A l.length c xs ad (i' * r.sz + j) v ho ht hv ho1 hA hm ?_
  intro w1 hown hkp hz
  refine hk w1 (h3 w1 (rowI r e A c (l.set i' x')) F (hkp.mono (fun k _ hk => (hF k).2 hk.symm)) ⟨⟨_, h1.setc hx hu hj, by rw [List.length_set]; exact hown⟩, fun k => by rw [List.length_set]; exact hF k⟩ (fun k hk => .inl hk))
structure Key (α : Type) [BEq α] where
  fk : α → Value
  td : TypeDesc
  same : ∀ a b : α, Instr.sameNow td (fk a) (fk b) = some (a == b)
  bits : ∀ a b : α, (a == b) = true → Instr.sameBits 10000 (fk b) (fk a) = true
  ref : ∀ a b : α, (a == b) = true → a = b
  chk : ∀ (P : Program) (w : World) (e : Bool) (t : TypeId) (a : α), P.underlying t = some td → (Instr.checkKey e 10000 t (fk a)).run P w = .ok () w
def mget {α β : Type} [BEq α] (l : List (α × β)) (k : α) : Option β := (l.find? (fun x => k == x.1)).map (·.2)
def mput {α β : Type} [BEq α] : List (α × β) → α → β → List (α × β)
  | [], k, v => [(k, v)]
  | x :: l, k, v => if k == x.1 then (k, v) :: l else x :: mput l k v
def mapI {α β : Type} [BEq α] (K : Key α) (fv : β → Value) (g : Nat) (l : List (α × β)) : Item where
  P _ w F := (∃ es clock, w.heap[g]? = some (.map es clock) ∧ es.toList.map (fun e => (e.key, e.val)) = l.map (fun x => (K.fk x.1, fv x.2))) ∧ ∀ k, F k ↔ k = g
  loc := fun ⟨⟨es, c, h, h2⟩, hF⟩ hk => ⟨⟨es, c, (hk _ ((hF _).2 rfl)).trans h, h2⟩, hF⟩
  mono := fun _ h => h
  dom := fun ⟨⟨es, c, h, _⟩, hF⟩ k hk => by rw [hF] at hk; subst hk; exact blk_lt h
theorem findNow_ok {α β : Type} [BEq α] (K : Key α) (fv : β → Value) (k : α) : ∀ (l : List (α × β)) (es : List MapEntry) (i0 : Nat), es.map (fun e => (e.key, e.val)) = l.map (fun x => (K.fk x.1, fv x.2)) →
    Instr.findNow K.td (K.fk k) es i0 = some ((l.findIdx? (fun x => k == x.1)).bind fun j => (l[j]?).map fun x => (i0 + j, fv x.2))
  | [], es, i0, h => by
    have : es = [] := by simpa using h
    subst this
    rfl
  | x :: l, es, i0, h => by
    cases es with
    | nil => simp at h
    | cons e es =>
      simp only [List.map_cons, List.cons.injEq, Prod.mk.injEq] at h
      obtain ⟨⟨h1, h2⟩, h3⟩ := h
      unfold Instr.findNow
      rw [h1, K.same k x.1]
      cases hb : (k == x.1)
      · simp only []
        rw [findNow_ok K fv k l es (i0 + 1) h3, List.findIdx?_cons, hb]
        simp only [Bool.false_eq_true, if_false]
        cases l.findIdx? (fun x => k == x.1) with
        | none => rfl
        | some j => simp [Nat.add_assoc, Nat.add_comm 1 j]
      · simp only []
        rw [List.findIdx?_cons, hb]
        simp [h2]
theorem mget_idx {α β : Type} [BEq α] (k : α) : ∀ l : List (α × β), mget l k = (l.findIdx? (fun x => k == x.1)).bind fun j => (l[j]?).map (·.2)
  | [] => rfl
  | x :: l => by
    have ih := mget_idx k l
    unfold mget at ih ⊢
    rw [List.find?_cons, List.findIdx?_cons]
    cases hb : (k == x.1)
    · simp only [Bool.false_eq_true, if_false]
      rw [ih]
      cases l.findIdx? (fun x => k == x.1) <;> rfl
    · simp
theorem mput_idx {α β : Type} [BEq α] (k : α) (v : β) (hr : ∀ a b : α, (a == b) = true → a = b) : ∀ l : List (α × β), mput l k v = match l.findIdx? (fun x => k == x.1) with
    | some j => l.set j (k, v)
    | none => l ++ [(k, v)]
  | [] => rfl
  | x :: l => by
    have ih := mput_idx k v hr l
    unfold mput
    rw [List.findIdx?_cons]
    cases hb : (k == x.1)
    · simp only [Bool.false_eq_true, if_false]
      rw [ih]
      cases l.findIdx? (fun x => k == x.1) <;> rfl
    · simp
section
variable {α β : Type} [BEq α] {K : Key α} {fv : β → Value}
theorem St.mapAt (H : St w0 F0 m0 m σ w) (n' : Nat) {g : Nat} {l : List (α × β)} (hn : σ[n']? = some (mapI K fv g l)) : ∃ es clock, w.heap[g]? = some (.map es clock) ∧ es.toList.map (fun e => (e.key, e.val)) = l.map (fun x => (K.fk x.1, fv x.2)) := by
  obtain ⟨F, ⟨h1, _⟩, _⟩ := H.upd n' hn
  exact h1
def tupOk (ok : Bool) (v : Value) (b : Bool) : Value := if ok then .tuple #[v, .bool b] else v
theorem findKey_ok {l : List (α × β)} {es : List MapEntry} (kt : TypeId) (hk : P.underlying kt = some K.td) (h : es.map (fun e => (e.key, e.val)) = l.map (fun x => (K.fk x.1, fv x.2))) (k : α) :
    (Instr.findKey kt (K.fk k) es).run P w = .ok ((l.findIdx? (fun x => k == x.1)).bind fun j => (l[j]?).map fun x => (j, fv x.2)) w := by
  have h2 := findNow_ok K fv k l es 0 h
  simp only [Nat.zero_add] at h2
  unfold Instr.findKey
  rw [Sem.run_bind, run_underlying hk, Result.andThen_ok, h2]
  rfl
theorem getM {g : Nat} {es : Array MapEntry} {clock : Nat} (hb : w.heap[g]? = some (.map es clock)) : (getObj g).run P w = .ok (.map es clock) w := by simp [getObj, Sem.run, hb]
theorem setM {g : Nat} {es : Array MapEntry} {clock : Nat} (o : Obj) (hb : w.heap[g]? = some (.map es clock)) : (setObj g o).run P w = .ok () (w.putObj g o) := by simp [setObj, Sem.run, hb, World.putObj]
theorem look_run (t kt e g : Nat) (ok : Bool) (k : α) (z : β) (hz : (zeroValue e).run P w = .ok (fv z) w) (ht : P.underlying t = some (.map kt e)) (hk : P.underlying kt = some K.td) {l : List (α × β)} {es : Array MapEntry} {clock : Nat}
    (hg : w.heap[g]? = some (.map es clock)) (h : es.toList.map (fun e => (e.key, e.val)) = l.map (fun x => (K.fk x.1, fv x.2))) :
    (Instr.lookup t (.map (some g)) (K.fk k) ok).run P w = .ok (tupOk ok (fv ((mget l k).getD z)) (mget l k).isSome) w := by
  have h1 := findKey_ok (w := w) kt hk h k
  have h2 := K.chk P w es.isEmpty kt k hk
  unfold Instr.lookup
  simp only [Sem.run_bind, Sem.run_pure, Result.andThen_ok, run_underlying ht, getM hg, h2, h1, mget_idx]
  cases hf : l.findIdx? (fun x => k == x.1) with
  | none => cases ok <;> simp [hz, tupOk]
  | some j =>
    have hj : j < l.length := (List.findIdx?_eq_some_iff_getElem.1 hf).1
    cases ok <;> simp [List.getElem?_eq_getElem hj, tupOk]
theorem modify_map {l : List (α × β)} {es : List MapEntry} (h : es.map (fun e => (e.key, e.val)) = l.map (fun x => (K.fk x.1, fv x.2))) (j : Nat) (k : α) (v : β) (hj : j < l.length) :
    (es.modify j (fun e => { e with key := K.fk k, val := fv v })).map (fun e => (e.key, e.val)) = (l.set j (k, v)).map (fun x => (K.fk x.1, fv x.2)) := by
  apply List.ext_getElem?
  intro i
  have hi := congrArg (fun l => l[i]?) h
  simp only [List.getElem?_map] at hi ⊢
  rw [List.getElem?_modify, List.getElem?_set]
  by_cases e : j = i
  · subst e
    rw [List.getElem?_eq_getElem hj] at hi
    cases he : es[j]? with
    | none => rw [he] at hi; cases hi
    | some x => simp [hj]
  · rw [if_neg e, ← hi]
    cases es[i]? <;> simp [e]
theorem updM_run (t kt e g : Nat) (k : α) (v : β) (ht : P.underlying t = some (.map kt e)) (hk : P.underlying kt = some K.td) {l : List (α × β)} {es : Array MapEntry} {clock : Nat}
    (hg : w.heap[g]? = some (.map es clock)) (h : es.toList.map (fun e => (e.key, e.val)) = l.map (fun x => (K.fk x.1, fv x.2))) :
    ∃ es' clock', (Instr.mapUpdate t (.map (some g)) (K.fk k) (fv v)).run P w = .ok () (w.putObj g (.map es' clock')) ∧ es'.toList.map (fun e => (e.key, e.val)) = (mput l k v).map (fun x => (K.fk x.1, fv x.2)) := by
  have h1 := findKey_ok (w := w) kt hk h k
  have h2 := K.chk P w false kt k hk
  have h3 := mput_idx k v K.ref l
  unfold Instr.mapUpdate
  rw [Sem.run_bind, run_underlying ht, Result.andThen_ok]
  dsimp only
  rw [Sem.run_bind, getM hg, Result.andThen_ok]
  dsimp only
  rw [Sem.run_bind, h2, Result.andThen_ok, Sem.run_bind, h1, Result.andThen_ok]
  cases hf : l.findIdx? (fun x => k == x.1) with
  | none =>
    rw [hf] at h3
    refine ⟨es.push { key := K.fk k, val := fv v, born := clock }, clock + 1, setM _ hg, ?_⟩
    rw [h3]
    simp [h]
  | some j =>
    obtain ⟨hj, hkj, _⟩ := List.findIdx?_eq_some_iff_getElem.1 hf
    rw [hf] at h3
    have hjs : j < es.toList.length := by
      have := congrArg List.length h
      simp only [List.length_map] at this
      omega
    have hkey : (es.toList[j]).key = K.fk l[j].1 := by
      have := congrArg (fun l => l[j]?) h
      simp only [List.getElem?_map, List.getElem?_eq_getElem hj, List.getElem?_eq_getElem hjs, Option.map_some, Option.some.injEq, Prod.mk.injEq] at this
      exact this.1
    have hes : (es[j]?.map (·.key)).getD (K.fk k) = K.fk l[j].1 := by
      have : es[j]? = some es.toList[j] := by
        rw [← Array.getElem?_toList]; exact List.getElem?_eq_getElem hjs
      rw [this, ← hkey]
      rfl
    refine ⟨es.modify j (fun e => { e with key := K.fk k, val := fv v }), clock, ?_, ?_⟩
    · rw [Option.bind_some, List.getElem?_eq_getElem hj]
      dsimp only [Option.map_some]
      rw [Sem.run_bind, hes]
      have hb := K.bits k l[j].1 hkj
      rw [show (Instr.keyThatStays (K.fk l[j].1) (K.fk k)).run P w = .ok (K.fk k) w from by unfold Instr.keyThatStays; rw [if_pos hb]; rfl, Result.andThen_ok]
      exact setM _ hg
    · rw [h3, Array.toList_modify]
      exact modify_map h j k v hj
end
theorem mputS {α β : Type} [BEq α] {K : Key α} {fv : β → Value} (d : Option Nat) (t kt e n' g : Nat) (k : α) (v : β) (l : List (α × β)) (H : St w0 F0 m0 m σ w) (hn : σ[n']? = some (mapI K fv g l))
    (ho : fetch B n p i κ = some (d, uS (Instr.mapUpdate t (.map (some g)) (K.fk k) (fv v)))) (ht : P.underlying t = some (.map kt e)) (hk : P.underlying kt = some K.td)
    (hX : ∀ w1, St w0 F0 m0 m (σ.set n' (mapI K fv g (mput l k v))) w1 → Z (putk d undef κ) w1) : Step P B n p i κ w Z := by
  obtain ⟨F, ⟨⟨es, clock, h1, h2⟩, hF⟩, h3, h4⟩ := H.upd n' hn
  obtain ⟨es', clock', h5, h6⟩ := updM_run t kt e g k v ht hk h1 h2
  refine skipR ho (uS_run h5) (hX _ ?_)
  exact h4 _ (mapI K fv g (mput l k v)) (fun k => k = g) ((kp_putObj w g _).mono (fun k _ e => (hF k).2 e)) ⟨⟨es', clock', World.putObj_heap_same (blk_lt h1), h6⟩, fun _ => Iff.rfl⟩ (fun k e => .inl ((hF k).2 e))
theorem mkmS {α β : Type} [BEq α] (K : Key α) (fv : β → Value) (d : Option Nat) (t : TypeId) (H : St w0 F0 m0 m σ w) (ho : fetch B n p i κ = some (d, vS (Instr.makeMap t none)))
    (hX : ∀ g w1, St w0 F0 m0 m (mapI K fv g [] :: σ) w1 → Z (putk d (.map (some g)) κ) w1) : Step P B n p i κ w Z := by
  refine runR ho (vS_run (show (Instr.makeMap t none).run P w = .ok (.map (some w.heap.size)) (w.alloc (.map #[] 0)) from rfl)) (hX w.heap.size _ ?_)
  exact H.add (ex_allocO w _) (j := mapI K fv w.heap.size []) (G := fun k => k = w.heap.size) ⟨⟨#[], 0, World.alloc_heap_new w _, rfl⟩, fun _ => Iff.rfl⟩ (fun k e => by omega)
theorem litc_run {P : Program} {w : World} (t e g : Nat) (cs : Array Value) (n' : Nat) (ht : P.underlying t = some (.slice e)) (he : P.underlying e = some (.int .u8)) (hg : w.heap[g]? = some (.cells cs e (0, 0))) :
    (convert t t (.slice (some ⟨g, 0, none⟩) n' n')).run P w = .ok (.slice (some ⟨g, 0, none⟩) n' n') (w.freeze ⟨g, cs.size, none⟩ 1) := by
  unfold convert
  simp only [Sem.run_bind, run_underlying ht, run_underlying he, Result.andThen_ok, beq_self_eq_true, markStringish]
  have hs : (shape g).run P w = .ok (some (e, cs.size)) w := by simp [shape, Sem.run, World.shape?, hg]
  simp only [hs, Result.andThen_ok, run_freeze, Sem.run_pure]
theorem frz_blk {w : World} {g : Nat} {cs : Array Value} {e n : Nat} (hg : w.heap[g]? = some (.cells cs e (0, 0))) : (w.freeze ⟨g, n, none⟩ 1).heap[g]? = some (.cells cs e (n, n + 1)) := by
  simp [World.freeze, Array.getElem?_modify, hg]
theorem frz_kp (w : World) (g n : Nat) : Kp (fun k => k = g) w (w.freeze ⟨g, n, none⟩ 1) := by
  refine ⟨rfl, rfl, rfl, by simp [World.freeze], fun k _ hk => ?_, by rw [freeze_drawn]; exact Nat.le_refl _⟩
  simp only [World.freeze, Nat.one_ne_zero, if_false, Array.getElem?_modify]
  rw [if_neg (fun e => hk e.symm)]
theorem litcS (d : Option Nat) (t e n' g : Nat) (l : List UInt8) (H : St w0 F0 m0 m σ w) (hn : σ[n']? = some (blkI g (bs l) e)) (ho : fetch B n p i κ = some (d, vS (convert t t (.slice (some ⟨g, 0, none⟩) l.length l.length)))) (ht : P.underlying t = some (.slice e)) (he : P.underlying e = some (.int .u8)) (hl : l.length ≤ maxLen)
    (hk : ∀ m1 w1, Sub m m1 → SlI rU8 m1 (some ⟨g, 0, none⟩) l.length l → St w0 F0 m0 m1 (σ.eraseIdx n') w1 → Z (putk d (.slice (some ⟨g, 0, none⟩) l.length l.length) κ) w1) : Step P B n p i κ w Z := by
  obtain ⟨F, h1, h2, h3⟩ := (H.pull n' hn).upd 0 rfl
  have hb := frz_blk (n := (bs l).toArray.size) h1.1
  have H1 := h3 _ (objI g _) (fun k => k = g) ((frz_kp w g (bs l).toArray.size).mono (fun k _ e => (h1.2 k).2 e)) ⟨hb, fun _ => Iff.rfl⟩ (fun k e => .inl ((h1.2 k).2 e))
  obtain ⟨F2, m1, g1, g2, g3, g4⟩ := H1.fix0
  refine runR ho (vS_run (litc_run t e g _ l.length ht he h1.1)) (hk m1 _ g2 ⟨Nat.le_refl _, hl, bs l, Rows.u8.2 rfl, ?_⟩ g4)
  intro j v hj
  refine ⟨_, rfl, ?_⟩
  have hb2 := (g3 g ((g1.2 _).2 rfl)).trans g1.1
  rw [Addr.add_lit, Nat.zero_add]
  simp only [mc, hb2]
  simpa using hj
def eqSc (d : Option TypeDesc) (x y : Value) : Option Bool := match d, x, y with
  | some (.int _), .int k a, .int k' b => if k = k' then some (a == b) else none
  | some .bool, .bool a, .bool b => some (a == b)
  | some .string, .string a, .string b => some (a.toList == b.toList)
  | _, _, _ => none
def eqFs (P : Program) (xs ys : Array Value) : List Field → Option Bool
  | [] => some true
  | f :: fs => if f.name = "_" then none else match P.plainKey f.type, xs[f.offset]?, ys[f.offset]? with
    | true, some x, some y => match eqSc (P.underlying f.type) x y with
      | some c => match eqFs P xs ys fs with
        | some r => some (c && r)
        | none => none
      | none => none
    | _, _, _ => none
theorem eqSc_ok {P : Program} {w : World} {t : TypeId} {x y : Value} {b : Bool} (d : Nat) (h : eqSc (P.underlying t) x y = some b) : (Op.equalIn (d + 1) t x y).run P w = .ok b w := by
  unfold eqSc at h
  split at h
  · rename_i k1 k a k' b' e
    split at h
    · rename_i e2
      subst e2
      cases h
      exact run_equalIn_int w d t k _ a b' e
    · cases h
  · cases h
    exact run_equalIn_bool' w d t _ _ (by assumption)
  · cases h
    exact run_equalIn_string w d t _ _ (by assumption)
  · cases h
theorem eqFs_ok {P : Program} {w : World} {xs ys : Array Value} (d : Nat) : ∀ {fs : List Field} {b : Bool}, eqFs P xs ys fs = some b → (Op.eqFields (d + 1) xs ys fs).run P w = .ok b w
  | [], b, h => by cases h; rfl
  | f :: fs, b, h => by
    unfold eqFs at h
    split at h
    · cases h
    · rename_i hn
      split at h
      · rename_i x y hk hx hy
        split at h
        · rename_i c hc
          split at h
          · rename_i r hr
            cases h
            unfold Op.eqFields
            rw [if_pos hn]
            simp only [Sem.run_bind, run_part_plain w hk hx, run_part_plain w hk hy, Result.andThen_ok, eqSc_ok d hc]
            cases c
            · rfl
            · simp only [Bool.not_true, Bool.false_eq_true, if_false, Bool.true_and]
              exact eqFs_ok d hr
          · cases h
        · cases h
      · cases h
def eqSem (op : BinOp) (t : TypeId) (x y : Operand) (a b : Value) : Sem Next := vS (do eqGuard op t x y a b; binOp op t a b)
theorem eqAgg_run {P : Program} {w : World} (t : TypeId) (x y : Operand) (xs ys : Array Value) (b b' : Bool) (h : eqFs P xs ys (P.fieldsOf t).toList = some b) (hb : b = b') (hg : P.eqGuardType P.depth t = false) (ht : P.underlying t = some (.struct (P.fieldsOf t))) (hp : P.stoodInHeld t = false) :
    (eqSem .eql t x y (.agg xs) (.agg ys)).run P w = .ok (.value (.bool b')) w := by
  subst hb
  refine vS_run ?_
  rw [Sem.run_bind, run_eqGuard_agg w .eql t x y xs ys hg, Result.andThen_ok, run_eql_struct, run_equalIn_agg w 9999 t xs ys ht hp, eqFs_ok 9998 h]
  rfl
theorem neAgg_run {P : Program} {w : World} (t : TypeId) (x y : Operand) (xs ys : Array Value) (b b' : Bool) (h : eqFs P xs ys (P.fieldsOf t).toList = some b) (hb : b = b') (hg : P.eqGuardType P.depth t = false) (ht : P.underlying t = some (.struct (P.fieldsOf t))) (hp : P.stoodInHeld t = false) :
    (eqSem .neq t x y (.agg xs) (.agg ys)).run P w = .ok (.value (.bool (!b'))) w := by
  subst hb
  refine vS_run ?_
  rw [Sem.run_bind, run_eqGuard_agg w .neq t x y xs ys hg, Result.andThen_ok, run_neq_struct, run_equalIn_agg w 9999 t xs ys ht hp, eqFs_ok 9998 h]
  rfl
def kI64 : Key Int where
  fk x := .int .i64 x
  td := .int .i64
  same _ _ := rfl
  bits a b h := by rw [eq_of_beq h]; simp [Instr.sameBits]
  ref a b h := eq_of_beq h
  chk P w e t a ht := by unfold Instr.checkKey; rw [Sem.run_bind, run_underlying ht, Result.andThen_ok]; rfl
theorem bytes_beq (a b : List UInt8) : ((⟨a.toArray⟩ : ByteArray) == ⟨b.toArray⟩) = (a == b) := by
  show (a.toArray == b.toArray) = (a == b)
  rw [Bool.eq_iff_iff, beq_iff_eq, beq_iff_eq]
  constructor
  · intro h
    have := congrArg (fun x : Array UInt8 => x.toList) h
    simpa using this
  · intro h; rw [h]
def kStr : Key (List UInt8) where
  fk x := .string ⟨x.toArray⟩
  td := .string
  same a b := by show some _ = some _; rw [bytes_beq]
  bits a b h := by rw [eq_of_beq h]; show ((⟨b.toArray⟩ : ByteArray) == ⟨b.toArray⟩) = true; rw [bytes_beq]; simp
  ref a b h := eq_of_beq h
  chk P w e t a ht := by unfold Instr.checkKey; rw [Sem.run_bind, run_underlying ht, Result.andThen_ok]; rfl
end
end Go.Proofs.YtkmhidggbnbaaaaGreatDoor.K
