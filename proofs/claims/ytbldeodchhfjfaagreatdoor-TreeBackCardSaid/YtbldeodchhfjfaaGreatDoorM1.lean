/- Memory as one statement: what is fixed, what is owned; deep values over what is fixed. -/
import Derived.Test.YtbldeodchhfjfaaGreatDoorK7
import Derived.Test.YtbldeodchhfjfaaGreatDoorK8
import Derived.Test.YtbldeodchhfjfaaGreatDoorK6
set_option linter.unusedVariables false
set_option linter.unusedSimpArgs false
namespace Go.Proofs.YtbldeodchhfjfaaGreatDoor.K
open Go Go.RowKit Go.ChangeShapes Go.WideShapes Go.ChangeAt

/-! ### Fixed memory -/
abbrev Mem := Nat → Option Obj
def Sub (m m' : Mem) : Prop := ∀ k o, m k = some o → m' k = some o
theorem Sub.refl (m : Mem) : Sub m m := fun _ _ h => h
theorem Sub.trans {a b c : Mem} (h : Sub a b) (h' : Sub b c) : Sub a c := fun k o e => h' k o (h k o e)
def Has (m : Mem) (w : World) : Prop := ∀ k o, m k = some o → w.heap[k]? = some o
def mc (m : Mem) (a : Addr) : Option Value := match m a.block with
  | some (.cells c _ _) => if a.spot.isSome then none else c[a.off]?
  | _ => none
theorem mc_some {m : Mem} {a : Addr} {v : Value} (hc : mc m a = some v) : ∃ c t f, m a.block = some (.cells c t f) ∧ (if a.spot.isSome then none else c[a.off]?) = some v := by
  unfold mc at hc
  split at hc
  · rename_i c t f hb; exact ⟨c, t, f, hb, hc⟩
  · cases hc
theorem Has.cell {m : Mem} {w : World} {a : Addr} {v : Value} (h : Has m w) (hc : mc m a = some v) : w.cell? a = some v := by
  obtain ⟨c, t, f, h1, h2⟩ := mc_some hc
  simp only [World.cell?, h _ _ h1]
  exact h2
theorem Sub.cell {m m' : Mem} {a : Addr} {v : Value} (h : Sub m m') (hc : mc m a = some v) : mc m' a = some v := by
  obtain ⟨c, t, f, h1, h2⟩ := mc_some hc
  simp only [mc, h _ _ h1]
  exact h2
theorem Has.lt {m : Mem} {w : World} {k : Nat} {o : Obj} (h : Has m w) (hk : m k = some o) : k < w.heap.size := blk_lt (h _ _ hk)
theorem Has.sub {m m' : Mem} {w : World} (h : Has m' w) (hs : Sub m m') : Has m w := fun k o e => h k o (hs k o e)
theorem Has.kp {S : Nat → Prop} {m : Mem} {w w' : World} (h : Has m w) (hk : Kp S w w') (hs : ∀ k, S k → m k = none) : Has m w' := fun k o e => by
  rw [hk.block k (h.lt e) (fun hS => by rw [hs k hS] at e; cases e)]
  exact h k o e
/-- Everything that is there. -/
def memOf (w : World) : Mem := fun k => w.heap[k]?
theorem Has.of (w : World) : Has (memOf w) w := fun _ _ h => h

/-! ### Representations -/
structure Rep (α : Type) where
  sz : Nat
  im : Mem → List Value → α → Prop
  wf : α → Prop
  mono : ∀ {m m' : Mem} {cs : List Value} {x : α}, Sub m m' → im m cs x → im m' cs x
  len : ∀ {m : Mem} {cs : List Value} {x : α}, im m cs x → cs.length = sz
  one : ∀ {m : Mem} {cs : List Value} {x : α}, im m cs x → ∀ u ∈ cs, u.oneCell' = true

def CsM (m : Mem) (A : Option Addr) (cs : List Value) : Prop := ∀ j u, cs[j]? = some u → ∃ ad, A = some ad ∧ mc m (ad.add j) = some u
theorem CsM.mono {m m' : Mem} {A : Option Addr} {cs : List Value} (h : CsM m A cs) (hs : Sub m m') : CsM m' A cs := fun j u hj =>
  let ⟨ad, h1, h2⟩ := h j u hj
  ⟨ad, h1, hs.cell h2⟩
theorem CsM.cs {m : Mem} {w : World} {A : Option Addr} {cs : List Value} (h : CsM m A cs) (hm : Has m w) : Cs 0 w.heap.size w A cs := fun j u hj => by
  obtain ⟨ad, h1, h2⟩ := h j u hj
  have := hm.cell h2
  refine ⟨ad, h1, Nat.zero_le _, ?_, this⟩
  have := World.block_lt_of_cell? w _ this
  rwa [add_block] at this
theorem CsM.nil (m : Mem) (A : Option Addr) : CsM m A [] := fun j u h => by simp at h
theorem CsM.take {m : Mem} {A : Option Addr} {cs : List Value} (h : CsM m A cs) (n : Nat) : CsM m A (cs.take n) := fun j u hj => h j u (by
  rw [List.getElem?_take] at hj
  split at hj
  · exact hj
  · cases hj)
theorem CsM.drop {m : Mem} {A : Option Addr} {cs : List Value} (h : CsM m A cs) (i : Nat) : CsM m (A.map (·.add i)) (cs.drop i) := fun j u hj => by
  rw [List.getElem?_drop] at hj
  obtain ⟨ad, e, hc⟩ := h _ u hj
  exact ⟨ad.add i, by rw [e]; rfl, by rw [add_add]; exact hc⟩
theorem CsM.cut {m : Mem} {A : Option Addr} {cs : List Value} {sz : Nat} (hc : CsM m A cs) (l cap : Nat) (hl : cs.length ≤ cap * sz) : CsM m (if cap = l then A else A.map (·.add (l * sz))) (cs.drop (l * sz)) := by
  by_cases e : cap = l
  · subst e
    rw [if_pos rfl, List.drop_eq_nil_of_le hl]
    exact CsM.nil _ _
  · rw [if_neg e]
    exact hc.drop _

/-- The cells of a row of deep values. -/
def Rows {α : Type} (r : Rep α) (m : Mem) : List Value → List α → Prop
  | xs, [] => xs = []
  | xs, x :: l => ∃ cs ys, xs = cs ++ ys ∧ r.im m cs x ∧ Rows r m ys l
section
variable {α : Type} {r : Rep α} {m m' : Mem}
theorem Rows.mono (hs : Sub m m') : ∀ {l : List α} {xs : List Value}, Rows r m xs l → Rows r m' xs l
  | [], _, h => h
  | _ :: _, _, ⟨cs, ys, h1, h2, h3⟩ => ⟨cs, ys, h1, r.mono hs h2, h3.mono hs⟩
theorem Rows.len : ∀ {l : List α} {xs : List Value}, Rows r m xs l → xs.length = l.length * r.sz
  | [], xs, h => by rw [show xs = [] from h]; simp
  | x :: l, xs, ⟨cs, ys, h1, h2, h3⟩ => by rw [h1, List.length_append, r.len h2, h3.len, List.length_cons, Nat.add_mul]; omega
theorem Rows.one : ∀ {l : List α} {xs : List Value}, Rows r m xs l → ∀ u ∈ xs, u.oneCell' = true
  | [], xs, h => by rw [show xs = [] from h]; simp
  | x :: l, xs, ⟨cs, ys, h1, h2, h3⟩ => by
    intro u hu
    rw [h1, List.mem_append] at hu
    exact hu.elim (r.one h2 u) (h3.one u)
theorem Rows.app : ∀ {l l' : List α} {xs ys : List Value}, Rows r m xs l → Rows r m ys l' → Rows r m (xs ++ ys) (l ++ l')
  | [], l', xs, ys, h, h' => by rw [show xs = [] from h]; exact h'
  | x :: l, l', xs, ys, ⟨cs, zs, h1, h2, h3⟩, h' => ⟨cs, zs ++ ys, by rw [h1, List.append_assoc], h2, h3.app h'⟩
theorem Rows.nil : Rows r m [] ([] : List α) := rfl
theorem Rows.cons {cs ys : List Value} {x : α} {l : List α} (h : r.im m cs x) (h' : Rows r m ys l) : Rows r m (cs ++ ys) (x :: l) := ⟨cs, ys, rfl, h, h'⟩
theorem Rows.single {cs : List Value} {x : α} (h : r.im m cs x) : Rows r m cs [x] := ⟨cs, [], by simp, h, rfl⟩
theorem Rows.take : ∀ {l : List α} {xs : List Value} (n : Nat), Rows r m xs l → Rows r m (xs.take (n * r.sz)) (l.take n)
  | [], xs, n, h => by rw [show xs = [] from h]; simp; rfl
  | x :: l, xs, 0, h => by simp; rfl
  | x :: l, xs, n + 1, ⟨cs, ys, h1, h2, h3⟩ => by
    have hl := r.len h2
    refine ⟨cs, ys.take (n * r.sz), ?_, h2, h3.take n⟩
    rw [h1, List.take_append, List.take_of_length_le (by rw [hl, Nat.add_mul]; omega), hl, Nat.add_mul, show n * r.sz + 1 * r.sz - r.sz = n * r.sz by omega]
theorem Rows.drop : ∀ {l : List α} {xs : List Value} (n : Nat), Rows r m xs l → Rows r m (xs.drop (n * r.sz)) (l.drop n)
  | [], xs, n, h => by rw [show xs = [] from h]; simp; rfl
  | x :: l, xs, 0, h => by simpa using h
  | x :: l, xs, n + 1, ⟨cs, ys, h1, h2, h3⟩ => by
    have hl := r.len h2
    rw [h1, List.drop_append, List.drop_eq_nil_of_le (by rw [hl, Nat.add_mul]; omega), hl, Nat.add_mul, show n * r.sz + 1 * r.sz - r.sz = n * r.sz by omega, List.nil_append, List.drop_succ_cons]
    exact h3.drop n
theorem Rows.get : ∀ {l : List α} {xs : List Value} {i : Nat} {x : α}, Rows r m xs l → l[i]? = some x → ∃ cs, r.im m cs x ∧ ∀ j v, cs[j]? = some v → xs[i * r.sz + j]? = some v
  | [], _, i, x, _, h => by simp at h
  | y :: l, xs, 0, x, ⟨cs, ys, h1, h2, h3⟩, h => by
    simp at h
    subst h
    refine ⟨cs, h2, fun j v hv => ?_⟩
    rw [h1, List.getElem?_append_left (by have := (List.getElem?_eq_some_iff.1 hv).1; omega), Nat.zero_mul, Nat.zero_add]
    exact hv
  | y :: l, xs, i + 1, x, ⟨cs, ys, h1, h2, h3⟩, h => by
    obtain ⟨ds, h4, h5⟩ := h3.get (by simpa using h)
    refine ⟨ds, h4, fun j v hv => ?_⟩
    have hl := r.len h2
    rw [h1, List.getElem?_append_right (by rw [hl, Nat.add_mul]; omega), hl, Nat.add_mul, show i * r.sz + 1 * r.sz + j - r.sz = i * r.sz + j by omega]
    exact h5 j v hv
theorem Rows.set : ∀ {l : List α} {xs : List Value} {i : Nat} {x : α} {cs : List Value}, Rows r m xs l → i < l.length → r.im m cs x → Rows r m (xs.take (i * r.sz) ++ cs ++ xs.drop (i * r.sz + r.sz)) (l.set i x) := by
  intro l xs i x cs h hi hx
  have h1 := h.take i
  have h2 := h.drop (i + 1)
  have e : l.set i x = l.take i ++ [x] ++ l.drop (i + 1) := by rw [List.set_eq_take_append_cons_drop, if_pos hi]; simp
  rw [e, show i * r.sz + r.sz = (i + 1) * r.sz by rw [Nat.add_mul]; omega]
  exact (h1.app (Rows.single hx)).app h2
end

/-- A slice whose elements are fixed. -/
structure SlI {α : Type} (r : Rep α) (m : Mem) (A : Option Addr) (c : Nat) (l : List α) : Prop where
  le : l.length ≤ c
  max : c ≤ maxLen
  cs : ∃ xs, Rows r m xs l ∧ CsM m A xs
section
variable {α : Type} {r : Rep α} {m m' : Mem} {A : Option Addr} {c : Nat} {l : List α}
theorem SlI.mono (h : SlI r m A c l) (hs : Sub m m') : SlI r m' A c l :=
  let ⟨xs, h1, h2⟩ := h.cs
  ⟨h.le, h.max, xs, h1.mono hs, h2.mono hs⟩
theorem SlI.nil (r : Rep α) (m : Mem) : SlI r m none 0 ([] : List α) := ⟨Nat.le_refl _, by simp [maxLen], [], rfl, CsM.nil _ _⟩
theorem SlI.bound (h : SlI r m A c l) : l.length ≤ 9223372036854775807 := Nat.le_trans h.le h.max
theorem mc0 {m : Mem} {a : Addr} {v : Value} (h : mc m (a.add 0) = some v) : mc m a = some v := by simpa [Addr.add] using h
theorem SlI.at_ (h : SlI r m A c l) {i : Nat} {x : α} (hx : l[i]? = some x) (h0 : 0 < r.sz) : ∃ ad cs, A = some ad ∧ r.im m cs x ∧ ∀ j v, cs[j]? = some v → mc m ((ad.add (i * r.sz)).add j) = some v := by
  obtain ⟨xs, h1, h2⟩ := h.cs
  obtain ⟨cs, h3, h4⟩ := h1.get hx
  have hl := r.len h3
  have h5 := h4 0 _ (List.getElem?_eq_getElem (by omega))
  obtain ⟨ad, rfl, _⟩ := h2 _ _ h5
  refine ⟨ad, cs, rfl, h3, fun j v hv => ?_⟩
  obtain ⟨ad', e, h6⟩ := h2 _ _ (h4 j v hv)
  cases e
  rw [add_add]
  exact h6
end

/-! ### The kinds -/
def rI64 : Rep Int where
  sz := 1
  im _ cs n := cs = [.int .i64 n]
  wf n := -9223372036854775808 ≤ n ∧ n ≤ 9223372036854775807
  mono _ h := h
  len h := by rw [h]; rfl
  one h := by rw [h]; intro u hu; simp only [List.mem_singleton] at hu; subst hu; rfl
def rU8 : Rep UInt8 where
  sz := 1
  im _ cs n := cs = [.int .u8 (n.toNat : Int)]
  wf _ := True
  mono _ h := h
  len h := by rw [h]; rfl
  one h := by rw [h]; intro u hu; simp only [List.mem_singleton] at hu; subst hu; rfl
def rU32 : Rep UInt32 where
  sz := 1
  im _ cs n := cs = [.int .u32 (n.toNat : Int)]
  wf _ := True
  mono _ h := h
  len h := by rw [h]; rfl
  one h := by rw [h]; intro u hu; simp only [List.mem_singleton] at hu; subst hu; rfl
def rU64 : Rep UInt64 where
  sz := 1
  im _ cs n := cs = [.int .u64 (n.toNat : Int)]
  wf _ := True
  mono _ h := h
  len h := by rw [h]; rfl
  one h := by rw [h]; intro u hu; simp only [List.mem_singleton] at hu; subst hu; rfl
def rBool : Rep Bool where
  sz := 1
  im _ cs n := cs = [.bool n]
  wf _ := True
  mono _ h := h
  len h := by rw [h]; rfl
  one h := by rw [h]; intro u hu; simp only [List.mem_singleton] at hu; subst hu; rfl
def rStr : Rep (List UInt8) where
  sz := 1
  im _ cs s := cs = [.string ⟨s.toArray⟩] ∧ s.length ≤ 9223372036854775807
  wf s := s.length ≤ 9223372036854775807
  mono _ h := h
  len h := by rw [h.1]; rfl
  one h := by rw [h.1]; intro u hu; simp only [List.mem_singleton] at hu; subst hu; rfl
def rSl {α : Type} (r : Rep α) : Rep (List α) where
  sz := 1
  im m cs l := ∃ A c, cs = [.slice A l.length c] ∧ SlI r m A c l
  wf l := l.length ≤ 9223372036854775807 ∧ ∀ x ∈ l, r.wf x
  mono hs := fun ⟨A, c, h1, h2⟩ => ⟨A, c, h1, h2.mono hs⟩
  len := fun ⟨A, c, h1, _⟩ => by rw [h1]; rfl
  one := fun ⟨A, c, h1, _⟩ => by rw [h1]; intro u hu; simp only [List.mem_singleton] at hu; subst hu; rfl
theorem Rows.u8 {m : Mem} : ∀ {l : List UInt8} {xs : List Value}, Rows rU8 m xs l ↔ xs = bs l
  | [], xs => Iff.rfl
  | b :: l, xs => by
    constructor
    · rintro ⟨cs, ys, h1, h2, h3⟩
      rw [h1, show cs = _ from h2, Rows.u8.1 h3]
      rfl
    · intro h
      exact ⟨_, bs l, by rw [h]; rfl, rfl, Rows.u8.2 rfl⟩
theorem SlI.bytes {m : Mem} {A : Option Addr} {c : Nat} {l : List UInt8} (h : SlI rU8 m A c l) : CsM m A (bs l) := by
  obtain ⟨xs, h1, h2⟩ := h.cs
  rwa [Rows.u8.1 h1] at h2

/-! ### What is owned -/
structure Item where
  P : Mem → World → (Nat → Prop) → Prop
  loc : ∀ {m : Mem} {w w' : World} {F : Nat → Prop}, P m w F → (∀ k, F k → w'.heap[k]? = w.heap[k]?) → P m w' F
  mono : ∀ {m m' : Mem} {w : World} {F : Nat → Prop}, Sub m m' → P m w F → P m' w F
  dom : ∀ {m : Mem} {w : World} {F : Nat → Prop}, P m w F → ∀ k, F k → k < w.heap.size
def blkI (g : Nat) (cs : List Value) (t : TypeId) : Item where
  P _ w F := w.heap[g]? = some (.cells cs.toArray t (0, 0)) ∧ ∀ k, F k ↔ k = g
  loc h hk := ⟨(hk g ((h.2 g).2 rfl)).trans h.1, h.2⟩
  mono _ h := h
  dom h k hk := by rw [(h.2 k).1 hk]; exact blk_lt h.1
theorem own_loc {w w' : World} {base n size : Nat} {e : TypeId} {v : Value} {xs : List Value} (h : w.ownsRow base e size v n xs) (hk : ∀ k, v.ownBlock = some k → w'.heap[k]? = w.heap[k]?) : w'.ownsRow base e size v n xs := by
  refine ⟨h.1, ?_⟩
  rcases h.2 with hn | ⟨g, cap, cur, rfl, hb, hg, r⟩
  · exact .inl hn
  · exact .inr ⟨g, cap, cur, rfl, hb, (hk g rfl).trans hg, r⟩
def rowI {α : Type} (r : Rep α) (t : TypeId) (A : Option Addr) (c : Nat) (l : List α) : Item where
  P m w F := (∃ xs, Rows r m xs l ∧ w.ownsRow 0 t r.sz (.slice A l.length c) l.length xs) ∧ ∀ k, F k ↔ (Value.slice A l.length c).ownBlock = some k
  loc := fun ⟨⟨xs, h1, h2⟩, h3⟩ hk => ⟨⟨xs, h1, own_loc h2 (fun k e => hk k ((h3 k).2 e))⟩, h3⟩
  mono hs := fun ⟨⟨xs, h1, h2⟩, h3⟩ => ⟨⟨xs, h1.mono hs, h2⟩, h3⟩
  dom := fun ⟨⟨xs, h1, h2⟩, h3⟩ k hk => own_lt h2 k ((h3 k).1 hk).symm
/-- Any object at all. -/
def objI (g : Nat) (o : Obj) : Item where
  P _ w F := w.heap[g]? = some o ∧ ∀ k, F k ↔ k = g
  loc h hk := ⟨(hk g ((h.2 g).2 rfl)).trans h.1, h.2⟩
  mono _ h := h
  dom h k hk := by rw [(h.2 k).1 hk]; exact blk_lt h.1

def Sep (m : Mem) (w : World) : List Item → (Nat → Prop) → Prop
  | [], F => ∀ k, ¬ F k
  | i :: r, F => ∃ F1 F2, i.P m w F1 ∧ Sep m w r F2 ∧ (∀ k, F1 k → F2 k → False) ∧ ∀ k, F k ↔ F1 k ∨ F2 k
section
variable {m m' : Mem} {w w' : World}
theorem Sep.loc : ∀ {σ : List Item} {F : Nat → Prop}, Sep m w σ F → (∀ k, F k → w'.heap[k]? = w.heap[k]?) → Sep m w' σ F
  | [], _, h, _ => h
  | i :: r, F, ⟨F1, F2, h1, h2, h3, h4⟩, hk => ⟨F1, F2, i.loc h1 (fun k e => hk k ((h4 k).2 (.inl e))), h2.loc (fun k e => hk k ((h4 k).2 (.inr e))), h3, h4⟩
theorem Sep.mono (hs : Sub m m') : ∀ {σ : List Item} {F : Nat → Prop}, Sep m w σ F → Sep m' w σ F
  | [], _, h => h
  | i :: r, F, ⟨F1, F2, h1, h2, h3, h4⟩ => ⟨F1, F2, i.mono hs h1, h2.mono hs, h3, h4⟩
theorem Sep.dom : ∀ {σ : List Item} {F : Nat → Prop}, Sep m w σ F → ∀ k, F k → k < w.heap.size
  | [], _, h, k, hk => (h k hk).elim
  | i :: r, F, ⟨F1, F2, h1, h2, h3, h4⟩, k, hk => ((h4 k).1 hk).elim (i.dom h1 k) (h2.dom k)
theorem Sep.app : ∀ {σ τ : List Item} {F : Nat → Prop}, Sep m w (σ ++ τ) F ↔ ∃ F1 F2, Sep m w σ F1 ∧ Sep m w τ F2 ∧ (∀ k, F1 k → F2 k → False) ∧ ∀ k, F k ↔ F1 k ∨ F2 k
  | [], τ, F => ⟨fun h => ⟨fun _ => False, F, fun _ e => e, h, fun _ e => e.elim, fun k => ⟨.inr, fun e => e.elim False.elim id⟩⟩, fun ⟨F1, F2, h1, h2, h3, h4⟩ => by
      have : F = F2 := funext fun k => propext ⟨fun e => ((h4 k).1 e).elim (fun e => (h1 k e).elim) id, fun e => (h4 k).2 (.inr e)⟩
      subst this
      exact h2⟩
  | i :: r, τ, F => by
    constructor
    · rintro ⟨F1, F2, h1, h2, h3, h4⟩
      obtain ⟨G1, G2, k1, k2, k3, k4⟩ := Sep.app.1 h2
      refine ⟨fun k => F1 k ∨ G1 k, G2, ⟨F1, G1, h1, k1, fun k a b => h3 k a ((k4 k).2 (.inl b)), fun k => Iff.rfl⟩, k2, ?_, ?_⟩
      · intro k a b
        exact a.elim (fun a => h3 k a ((k4 k).2 (.inr b))) (fun a => k3 k a b)
      · intro k
        rw [h4, k4, or_assoc]
    · rintro ⟨F1, G2, ⟨F3, G1, h1, k1, h3, h4⟩, k2, k3, k4⟩
      refine ⟨F3, fun k => G1 k ∨ G2 k, h1, Sep.app.2 ⟨G1, G2, k1, k2, fun k a b => k3 k ((h4 k).2 (.inr a)) b, fun k => Iff.rfl⟩, ?_, ?_⟩
      · intro k a b
        exact b.elim (h3 k a) (fun b => k3 k ((h4 k).2 (.inl a)) b)
      · intro k
        rw [k4, h4, or_assoc]
end

theorem split_at {σ : List Item} {n : Nat} {i : Item} (hn : σ[n]? = some i) : σ = σ.take n ++ i :: σ.drop (n + 1) := by
  have hl := (List.getElem?_eq_some_iff.1 hn).1
  have he := (List.getElem?_eq_some_iff.1 hn).2
  rw [← he, ← List.drop_eq_getElem_cons hl, List.take_append_drop]
theorem set_at {σ : List Item} {n : Nat} {i j : Item} (hn : σ[n]? = some i) : σ.set n j = σ.take n ++ j :: σ.drop (n + 1) := by
  have hl := (List.getElem?_eq_some_iff.1 hn).1
  rw [List.set_eq_take_append_cons_drop, if_pos hl]
theorem erase_at (σ : List Item) (n : Nat) : σ.eraseIdx n = σ.take n ++ σ.drop (n + 1) := List.eraseIdx_eq_take_drop_succ σ n

/-- An item out of the middle. -/
theorem Sep.mid {m : Mem} {w : World} {σ : List Item} {F : Nat → Prop} {n : Nat} {i : Item} (hn : σ[n]? = some i) :
    Sep m w σ F ↔ Sep m w (i :: σ.eraseIdx n) F := by
  conv => lhs; rw [split_at hn]
  rw [erase_at]
  constructor
  · intro h
    obtain ⟨F1, F2, h1, ⟨F3, F4, h2, h3, h4, h5⟩, h6, h7⟩ := Sep.app.1 h
    refine ⟨F3, fun k => F1 k ∨ F4 k, h2, Sep.app.2 ⟨F1, F4, h1, h3, fun k a b => h6 k a ((h5 k).2 (.inr b)), fun k => Iff.rfl⟩, ?_, ?_⟩
    · intro k a b
      exact b.elim (fun b => h6 k b ((h5 k).2 (.inl a))) (h4 k a)
    · intro k
      rw [h7, h5, or_left_comm]
  · rintro ⟨F3, F14, h2, h14, h6, h7⟩
    obtain ⟨F1, F4, h1, h3, h4, h5⟩ := Sep.app.1 h14
    refine Sep.app.2 ⟨F1, fun k => F3 k ∨ F4 k, h1, ⟨F3, F4, h2, h3, fun k a b => h6 k a ((h5 k).2 (.inr b)), fun k => Iff.rfl⟩, ?_, ?_⟩
    · intro k a b
      exact b.elim (fun b => h6 k b ((h5 k).2 (.inl a))) (h4 k a)
    · intro k
      rw [h7, h5, or_left_comm]
theorem set_erase {σ : List Item} {n : Nat} {i j : Item} (hn : σ[n]? = some i) : (σ.set n j)[n]? = some j ∧ (σ.set n j).eraseIdx n = σ.eraseIdx n := by
  have hl := (List.getElem?_eq_some_iff.1 hn).1
  refine ⟨by simp [hl], ?_⟩
  rw [erase_at, erase_at, List.take_set_of_le (Nat.le_refl _), List.drop_set_of_lt (by omega)]

/-- From w0 (its F0 owned, m0 fixed) on: m is fixed now, σ is owned. -/
structure St (w0 : World) (F0 : Nat → Prop) (m0 m : Mem) (σ : List Item) (w : World) : Prop where
  kp : Kp F0 w0 w
  sub : Sub m0 m
  has : Has m w
  new : ∀ k o, m k = some o → m0 k = some o ∨ F0 k ∨ w0.heap.size ≤ k
  sep : ∃ F, Sep m w σ F ∧ (∀ k, F k → m k = none) ∧ ∀ k, F k → F0 k ∨ w0.heap.size ≤ k

abbrev noF : Nat → Prop := fun _ => False
section
variable {w0 : World} {F0 : Nat → Prop} {m0 m : Mem} {σ τ : List Item} {w w1 : World}
theorem St.start {its : List Item} {F : Nat → Prop} (hm : Has m w) (hs : Sep m w its F) (hF : ∀ k, F k → m k = none) : St w F m m its w :=
  ⟨Kp.refl _ _, Sub.refl _, hm, fun _ _ h => .inl h, F, hs, hF, fun _ h => .inl h⟩
theorem St.start0 (hm : Has m w) : St w noF m m [] w := St.start hm (fun _ h => h) (fun _ h => h.elim)
/-- Nothing old has turned. -/
theorem St.ex (H : St w0 F0 m0 m σ w) (hx : Ex w w1) : St w0 F0 m0 m σ w1 := by
  obtain ⟨F, h1, h2, h3⟩ := H.sep
  exact ⟨H.kp.ex hx, H.sub, H.has.kp hx (fun _ h => h.elim), H.new, F, h1.loc (fun k hk => hx.block k (h1.dom k hk) (fun e => e)), h2, h3⟩
theorem St.pull (H : St w0 F0 m0 m σ w) (n : Nat) {i : Item} (hn : σ[n]? = some i) : St w0 F0 m0 m (i :: σ.eraseIdx n) w := by
  obtain ⟨F, h1, h2⟩ := H.sep
  exact ⟨H.kp, H.sub, H.has, H.new, F, (Sep.mid hn).1 h1, h2⟩
/-- An item becomes another; only its blocks, or new ones, have turned. -/
theorem St.step0 {i : Item} (H : St w0 F0 m0 m (i :: σ) w) : ∃ F, i.P m w F ∧ (∀ k, F k → m k = none ∧ k < w.heap.size) ∧
    ∀ (m1 : Mem) (w1 : World) (τ : List Item) (G : Nat → Prop), Kp F w w1 → Sub m m1 → Has m1 w1 → (∀ k o, m1 k = some o → m k = some o ∨ F k ∨ w.heap.size ≤ k) → Sep m1 w1 τ G → (∀ k, G k → m1 k = none) → (∀ k, G k → F k ∨ w.heap.size ≤ k) → St w0 F0 m0 m1 (τ ++ σ) w1 := by
  obtain ⟨F, ⟨F1, F2, h1, h2, h3, h4⟩, h5, h6⟩ := H.sep
  refine ⟨F1, h1, fun k hk => ⟨h5 k ((h4 k).2 (.inl hk)), i.dom h1 k hk⟩, ?_⟩
  intro m1 w1 τ G hk hs hh hn hg hgm hgd
  have hsz := H.kp.size
  refine ⟨H.kp.step hk (fun k hF hlt => (h6 k ((h4 k).2 (.inl hF))).elim id (fun h => by omega)), H.sub.trans hs, hh, ?_, fun k => G k ∨ F2 k, ?_, ?_, ?_⟩
  · intro k o e
    rcases hn k o e with e | e | e
    · exact H.new k o e
    · exact .inr (h6 k ((h4 k).2 (.inl e)))
    · exact .inr (.inr (by omega))
  · have h2' : Sep m1 w1 σ F2 := (h2.mono hs).loc (fun k hF => hk.block k (h2.dom k hF) (fun e => h3 k e hF))
    refine Sep.app.2 ⟨G, F2, hg, h2', ?_, fun k => Iff.rfl⟩
    intro k a b
    rcases hgd k a with e | e
    · exact h3 k e b
    · have := h2.dom k b
      omega
  · rintro k (e | e)
    · exact hgm k e
    · cases hm1 : m1 k with
      | none => rfl
      | some o =>
        exfalso
        rcases hn k o hm1 with e1 | e1 | e1
        · have := h5 k ((h4 k).2 (.inr e))
          rw [this] at e1
          cases e1
        · exact h3 k e1 e
        · have := h2.dom k e
          omega
  · rintro k (e | e)
    · rcases hgd k e with e | e
      · exact h6 k ((h4 k).2 (.inl e))
      · exact .inr (by omega)
    · exact h6 k ((h4 k).2 (.inr e))
def emp : Item where
  P _ _ F := ∀ k, ¬ F k
  loc h _ := h
  mono _ h := h
  dom h k hk := (h k hk).elim
theorem St.emp (H : St w0 F0 m0 m σ w) : St w0 F0 m0 m (emp :: σ) w := by
  obtain ⟨F, h1, h2⟩ := H.sep
  exact ⟨H.kp, H.sub, H.has, H.new, F, ⟨fun _ => False, F, fun _ e => e, h1, fun _ e => e.elim, fun k => ⟨.inr, fun e => e.elim False.elim id⟩⟩, h2⟩
theorem Sep.one {i : Item} {m : Mem} {w : World} {F : Nat → Prop} (h : i.P m w F) : Sep m w [i] F := ⟨F, fun _ => False, h, fun _ e => e, fun _ _ e => e, fun k => ⟨.inl, fun e => e.elim id False.elim⟩⟩
theorem St.upd (H : St w0 F0 m0 m σ w) (n : Nat) {i : Item} (hn : σ[n]? = some i) : ∃ F, i.P m w F ∧ (∀ k, F k → m k = none ∧ k < w.heap.size) ∧
    ∀ (w1 : World) (j : Item) (G : Nat → Prop), Kp F w w1 → j.P m w1 G → (∀ k, G k → F k ∨ w.heap.size ≤ k) → St w0 F0 m0 m (σ.set n j) w1 := by
  obtain ⟨F, h1, h2, h3⟩ := (H.pull n hn).step0
  refine ⟨F, h1, h2, fun w1 j G hk hj hG => ?_⟩
  have hgm : ∀ k, G k → m k = none := fun k hk => (hG k hk).elim (fun e => (h2 k e).1) (fun e => by
    cases hm : m k with
    | none => rfl
    | some o => have := H.has.lt hm; omega)
  have hX := h3 m w1 [j] G hk (Sub.refl _) (H.has.kp hk (fun k e => (h2 k e).1)) (fun k o e => .inl e) (Sep.one hj) hgm hG
  obtain ⟨e1, e2⟩ := set_erase (j := j) hn
  obtain ⟨K, k1, k2⟩ := hX.sep
  exact ⟨hX.kp, hX.sub, hX.has, hX.new, K, (Sep.mid e1).2 (by rw [e2]; exact k1), k2⟩
theorem St.add (H : St w0 F0 m0 m σ w) {j : Item} {G : Nat → Prop} (hx : Ex w w1) (hj : j.P m w1 G) (hG : ∀ k, G k → w.heap.size ≤ k) : St w0 F0 m0 m (j :: σ) w1 := by
  obtain ⟨F, h1, h2, h3⟩ := H.emp.step0
  have hgm : ∀ k, G k → m k = none := fun k hk => by
    cases hm : m k with
    | none => rfl
    | some o => have := H.has.lt hm; have := hG k hk; omega
  exact h3 m w1 [j] G (hx.mono (fun _ _ e => e.elim)) (Sub.refl _) (H.has.kp hx (fun _ e => e.elim)) (fun k o e => .inl e) (Sep.one hj) hgm (fun k e => .inr (hG k e))
theorem St.drop0 {i : Item} (H : St w0 F0 m0 m (i :: σ) w) : St w0 F0 m0 m σ w := by
  obtain ⟨F, h1, h2, h3⟩ := H.step0
  exact h3 m w [] (fun _ => False) (Kp.refl _ _) (Sub.refl _) H.has (fun k o e => .inl e) (fun _ e => e) (fun _ e => e.elim) (fun _ e => e.elim)
theorem St.drop (H : St w0 F0 m0 m σ w) (n : Nat) {i : Item} (hn : σ[n]? = some i) : St w0 F0 m0 m (σ.eraseIdx n) w := (H.pull n hn).drop0
theorem St.dropAll : ∀ {σ : List Item}, St w0 F0 m0 m σ w → St w0 F0 m0 m [] w
  | [], H => H
  | _ :: _, H => H.drop0.dropAll
/-- Back to what was fixed at the beginning: nothing owned hangs on the rest. -/
theorem St.scalar (H : St w0 noF m0 m σ w) : Ex w0 w := H.kp

open Classical in
/-- What is owned becomes fixed. -/
theorem St.fix0 {i : Item} (H : St w0 F0 m0 m (i :: σ) w) : ∃ F m1, i.P m w F ∧ Sub m m1 ∧ (∀ k, F k → m1 k = w.heap[k]?) ∧ St w0 F0 m0 m1 σ w := by
  obtain ⟨F, h1, h2, h3⟩ := H.step0
  have hs : Sub m (fun k => if F k then w.heap[k]? else m k) := fun k o e => by
    show (if F k then w.heap[k]? else m k) = some o
    by_cases h : F k
    · rw [(h2 k h).1] at e; cases e
    · rw [if_neg h]; exact e
  refine ⟨F, fun k => if F k then w.heap[k]? else m k, h1, hs, fun k hk => if_pos hk, ?_⟩
  refine h3 _ w [] (fun _ => False) (Kp.refl _ _) hs ?_ ?_ (fun _ e => e) (fun _ e => e.elim) (fun _ e => e.elim)
  · intro k o e
    have e : (if F k then w.heap[k]? else m k) = some o := e
    split at e
    · exact e
    · exact H.has k o e
  · intro k o e
    have e : (if F k then w.heap[k]? else m k) = some o := e
    split at e
    · exact .inr (.inl (by assumption))
    · exact .inl e
theorem St.fixB (H : St w0 F0 m0 m σ w) (n : Nat) {g : Nat} {cs : List Value} {t : TypeId} (hn : σ[n]? = some (blkI g cs t)) : ∃ m1, Sub m m1 ∧ m1 g = some (.cells cs.toArray t (0, 0)) ∧ St w0 F0 m0 m1 (σ.eraseIdx n) w := by
  obtain ⟨F, m1, h1, h2, h3, h4⟩ := (H.pull n hn).fix0
  exact ⟨m1, h2, (h3 g ((h1.2 g).2 rfl)).trans h1.1, h4⟩
theorem mc_blk {m : Mem} {g : Nat} {cs : List Value} {t : TypeId} {f : Nat × Nat} (h : m g = some (.cells cs.toArray t f)) {i : Nat} {v : Value} (hv : cs[i]? = some v) : mc m ⟨g, i, none⟩ = some v := by
  simp [mc, h, hv]
theorem St.fixR (H : St w0 F0 m0 m σ w) {α : Type} {r : Rep α} (n : Nat) {A : Option Addr} {c : Nat} {l : List α} {t : TypeId} (hn : σ[n]? = some (rowI r t A c l)) : ∃ m1, Sub m m1 ∧ SlI r m1 A c l ∧ St w0 F0 m0 m1 (σ.eraseIdx n) w := by
  obtain ⟨F, m1, ⟨⟨xs, h1, ho⟩, hF⟩, h2, h3, h4⟩ := (H.pull n hn).fix0
  have hc := own_cap ho
  refine ⟨m1, h2, ⟨hc.1, hc.2, xs, h1.mono h2, ?_⟩, h4⟩
  intro j u hj
  obtain ⟨ad, e, _, _, hcell⟩ := Cs.of_own ho j u hj
  refine ⟨ad, e, ?_⟩
  subst e
  rcases ho.2 with ⟨hv, h0⟩ | ⟨g, cap, cur, hv, hb, hg, _⟩
  · cases hv
  · cases hv
    have := h3 g ((hF g).2 rfl)
    rw [hg] at this
    have hcell : w.cell? ((⟨g, 0, none⟩ : Addr).add j) = some u := hcell
    rw [Addr.add_lit] at hcell ⊢
    simp only [World.cell?, hg] at hcell
    simp only [mc, this]
    exact hcell
theorem St.cellI (H : St w0 F0 m0 m σ w) {a : Addr} {v : Value} (h : mc m a = some v) : w.cell? a = some v := H.has.cell h
theorem St.keep (H : St w0 F0 m0 m (σ ++ τ) w) : St w0 F0 m0 m σ w := by
  obtain ⟨F, h1, h2, h3⟩ := H.sep
  obtain ⟨F1, F2, h4, h5, h6, h7⟩ := Sep.app.1 h1
  exact ⟨H.kp, H.sub, H.has, H.new, F1, h4, fun k hk => h2 k ((h7 k).2 (.inl hk)), fun k hk => h3 k ((h7 k).2 (.inl hk))⟩
theorem St.takeN (n : Nat) (H : St w0 F0 m0 m σ w) : St w0 F0 m0 m (σ.take n) w := St.keep (τ := σ.drop n) (by rw [List.take_append_drop]; exact H)
/-- A call: what is handed over stands first. -/
theorem Sep.split2 {its : List Item} {F : Nat → Prop} (h : Sep m w (its ++ σ) F) : ∃ F1 F2, Sep m w its F1 ∧ Sep m w σ F2 ∧ (∀ k, F1 k → F2 k → False) ∧ ∀ k, F k ↔ F1 k ∨ F2 k := Sep.app.1 h
theorem St.call (its : List Item) (H : St w0 F0 m0 m (its ++ σ) w) : ∃ F, Sep m w its F ∧ (∀ k, F k → m k = none) ∧
    ∀ (m1 : Mem) (τ : List Item) (w1 : World), St w F m m1 τ w1 → St w0 F0 m0 m1 (τ ++ σ) w1 := by
  obtain ⟨F, h0, h5, h6⟩ := H.sep
  obtain ⟨F1, F2, h1, h2, h3, h4⟩ := Sep.app.1 h0
  refine ⟨F1, h1, fun k hk => h5 k ((h4 k).2 (.inl hk)), fun m1 τ w1 hS => ?_⟩
  let big : Item := { P := fun m w F => Sep m w its F, loc := fun h hk => Sep.loc h hk, mono := fun hs h => Sep.mono hs h, dom := fun h => Sep.dom h }
  have HB : St w0 F0 m0 m (big :: σ) w := ⟨H.kp, H.sub, H.has, H.new, F, ⟨F1, F2, h1, h2, h3, h4⟩, h5, h6⟩
  have hsz := H.kp.size
  obtain ⟨G, g1, g2, g3⟩ := hS.sep
  refine ⟨H.kp.step hS.kp (fun k hF hlt => (h6 k ((h4 k).2 (.inl hF))).elim id (fun h => by omega)), H.sub.trans hS.sub, hS.has, ?_, fun k => G k ∨ F2 k, ?_, ?_, ?_⟩
  · intro k o e
    rcases hS.new k o e with e | e | e
    · exact H.new k o e
    · exact .inr (h6 k ((h4 k).2 (.inl e)))
    · exact .inr (.inr (by omega))
  · have h2' : Sep m1 w1 σ F2 := (h2.mono hS.sub).loc (fun k hF => hS.kp.block k (h2.dom k hF) (fun e => h3 k e hF))
    refine Sep.app.2 ⟨G, F2, g1, h2', ?_, fun k => Iff.rfl⟩
    intro k a b
    rcases g3 k a with e | e
    · exact h3 k e b
    · have := h2.dom k b
      omega
  · rintro k (e | e)
    · exact g2 k e
    · cases hm1 : m1 k with
      | none => rfl
      | some o =>
        exfalso
        rcases hS.new k o hm1 with e1 | e1 | e1
        · have := h5 k ((h4 k).2 (.inr e))
          rw [this] at e1
          cases e1
        · exact h3 k e1 e
        · have := h2.dom k e
          omega
  · rintro k (e | e)
    · rcases g3 k e with e | e
      · exact h6 k ((h4 k).2 (.inl e))
      · exact .inr (by omega)
    · exact h6 k ((h4 k).2 (.inr e))
/-- A callee that was handed nothing owned. -/
theorem St.call0 (H : St w0 F0 m0 m σ w) {m1 : Mem} {τ : List Item} (hS : St w noF m m1 τ w1) : St w0 F0 m0 m1 (τ ++ σ) w1 := by
  obtain ⟨F, h1, h2, h3⟩ := St.call (σ := σ) (its := []) H
  have : F = noF := funext fun k => propext ⟨fun e => h1 k e, fun e => e.elim⟩
  subst this
  exact h3 _ _ _ hS
/-- Items that do not hang on what is fixed. -/
def Ind (i : Item) : Prop := ∀ (m m' : Mem) (w : World) (F : Nat → Prop), i.P m w F → i.P m' w F
def Inds : List Item → Prop
  | [] => True
  | i :: r => Ind i ∧ Inds r
theorem Sep.ind : ∀ {τ : List Item} {F : Nat → Prop}, Inds τ → ∀ m', Sep m w τ F → Sep m' w τ F
  | [], _, _, _, h => h
  | i :: r, F, ⟨h1, h2⟩, m', ⟨F1, F2, k1, k2, k3, k4⟩ => ⟨F1, F2, h1 _ _ _ _ k1, Sep.ind h2 m' k2, k3, k4⟩
theorem blkI_ind {g : Nat} {cs : List Value} {t : TypeId} : Ind (blkI g cs t) := fun _ _ _ _ h => h
theorem Rows.flat {α : Type} {r : Rep α} (h : ∀ (m m' : Mem) cs x, r.im m cs x → r.im m' cs x) {m m' : Mem} : ∀ {l : List α} {xs : List Value}, Rows r m xs l → Rows r m' xs l
  | [], _, k => k
  | _ :: _, _, ⟨cs, ys, h1, h2, h3⟩ => ⟨cs, ys, h1, h _ _ _ _ h2, h3.flat h⟩
theorem rowI_ind {α : Type} {r : Rep α} {t : TypeId} {A : Option Addr} {c : Nat} {l : List α} (h : ∀ (m m' : Mem) cs x, r.im m cs x → r.im m' cs x) : Ind (rowI r t A c l) :=
  fun _ _ _ _ ⟨⟨xs, h1, h2⟩, h3⟩ => ⟨⟨xs, h1.flat h, h2⟩, h3⟩
/-- A callee that read what is owned, and left nothing that hangs on it. -/
theorem St.callB (H : St w0 F0 m0 m σ w) {m1 m2 : Mem} {τ : List Item} (hS : St w noF m1 m2 τ w1) (hi : Inds τ) : St w0 F0 m0 m (τ ++ σ) w1 := by
  have H1 := H.ex hS.kp
  obtain ⟨F, h1, h2, h3⟩ := H1.sep
  obtain ⟨G, g1, g2, g3⟩ := hS.sep
  obtain ⟨F', f1, f2, f3⟩ := H.sep
  have hsz := H.kp.size
  have hF : ∀ k, F' k → k < w.heap.size := f1.dom
  refine ⟨H1.kp, H1.sub, H1.has, H1.new, fun k => G k ∨ F' k, Sep.app.2 ⟨G, F', g1.ind hi m, f1.loc (fun k hk => hS.kp.block k (hF k hk) (fun e => e)), ?_, fun k => Iff.rfl⟩, ?_, ?_⟩
  · intro k a b
    rcases g3 k a with e | e
    · exact e
    · have := hF k b; omega
  · rintro k (e | e)
    · rcases g3 k e with e' | e'
      · exact e'.elim
      · cases hm : m k with
        | none => rfl
        | some o => have := H.has.lt hm; omega
    · exact f2 k e
  · rintro k (e | e)
    · rcases g3 k e with e' | e'
      · exact e'.elim
      · exact .inr (by omega)
    · exact f3 k e
/-- What may be told of a block that is owned. -/
theorem St.blk (H : St w0 F0 m0 m σ w) (n : Nat) {g : Nat} {cs : List Value} {t : TypeId} (hn : σ[n]? = some (blkI g cs t)) : w.heap[g]? = some (.cells cs.toArray t (0, 0)) := by
  obtain ⟨F, h1, _⟩ := H.upd n hn
  exact h1.1
theorem St.cellB (H : St w0 F0 m0 m σ w) (n : Nat) {g off : Nat} {cs : List Value} {t : TypeId} {v : Value} (hn : σ[n]? = some (blkI g cs t)) (hv : cs[off]? = some v) : w.cell? ⟨g, off, none⟩ = some v :=
  blk_cell (H.blk n hn) (by simpa using hv)
theorem St.cellsB (H : St w0 F0 m0 m σ w) (n : Nat) {g off : Nat} {cs vs : List Value} {t : TypeId} (hn : σ[n]? = some (blkI g cs t)) (hv : (cs.drop off).take vs.length = vs) : ∀ j v, vs[j]? = some v → w.cell? ((⟨g, off, none⟩ : Addr).add j) = some v :=
  blk_cells (H.blk n hn) (by simpa using hv)
theorem St.rowAt (H : St w0 F0 m0 m σ w) {α : Type} {r : Rep α} (n : Nat) {A : Option Addr} {c : Nat} {l : List α} {t : TypeId} (hn : σ[n]? = some (rowI r t A c l)) {i : Nat} {x : α} (hx : l[i]? = some x) (h0 : 0 < r.sz) :
    ∃ ad cs, A = some ad ∧ r.im m cs x ∧ ∀ j v, cs[j]? = some v → w.cell? ((ad.add (i * r.sz)).add j) = some v := by
  obtain ⟨F, ⟨⟨xs, h1, ho⟩, hF⟩, _⟩ := H.upd n hn
  obtain ⟨cs, h3, h4⟩ := h1.get hx
  have hl := r.len h3
  obtain ⟨ad, rfl, _, _, _⟩ := Cs.of_own ho _ _ (h4 0 _ (List.getElem?_eq_getElem (by omega)))
  refine ⟨ad, cs, rfl, h3, fun j v hv => ?_⟩
  obtain ⟨ad', e, _, _, h6⟩ := Cs.of_own ho _ _ (h4 j v hv)
  cases e
  rw [add_add]
  exact h6
theorem St.rowCap (H : St w0 F0 m0 m σ w) {α : Type} {r : Rep α} (n : Nat) {A : Option Addr} {c : Nat} {l : List α} {t : TypeId} (hn : σ[n]? = some (rowI r t A c l)) : l.length ≤ c ∧ c ≤ maxLen := by
  obtain ⟨F, ⟨⟨xs, h1, ho⟩, hF⟩, _⟩ := H.upd n hn
  exact own_cap ho
end
end Go.Proofs.YtbldeodchhfjfaaGreatDoor.K
