/- E, part 0: what is owned, by kinds: rows whose elements own a row; maps. -/
import Derived.Test.YtbldeodchhfjfaaGreatDoorM8
set_option linter.unusedVariables false
set_option linter.unusedSimpArgs false
set_option linter.unusedSectionVars false
namespace Go.Proofs.YtbldeodchhfjfaaGreatDoor.K.E
open Go Go.RowKit

/-- An element type, one of whose cells is a slice that elements own. -/
structure Deep (α β : Type) (r : Rep α) (rk : Rep β) (off : Nat) where
  getk : α → List β
  setk : α → List β → α
  gs : ∀ x l, getk (setk x l) = l
  ss : ∀ x l l', setk (setk x l) l' = setk x l'
  sg : ∀ x, setk x (getk x) = x
  lt : off < r.sz
  fill : ∀ {m : Mem} {cs : List Value} {x : α} {A : Option Addr} {c : Nat}, r.im m (cs.set off (.slice none 0 0)) (setk x []) → cs[off]? = some (.slice A (getk x).length c) → SlI rk m A c (getk x) → r.im m cs x
  empt : ∀ {m : Mem} {cs : List Value} {x : α}, r.im m cs x → r.im m (cs.set off (.slice none 0 0)) (setk x [])
section
variable {α β : Type} {r : Rep α} {rk : Rep β} {off : Nat}
/-- An element: its cells, but for the one. -/
def But (D : Deep α β r rk off) (m : Mem) (cs : List Value) (x : α) : Prop := r.im m (cs.set off (.slice none 0 0)) (D.setk x [])
theorem But.mono {D : Deep α β r rk off} {m m' : Mem} {cs : List Value} {x : α} (h : But D m cs x) (hs : Sub m m') : But D m' cs x := r.mono hs h
theorem But.len {D : Deep α β r rk off} {m : Mem} {cs : List Value} {x : α} (h : But D m cs x) : cs.length = r.sz := by
  have := r.len h
  rwa [List.length_set] at this
theorem But.one {D : Deep α β r rk off} {m : Mem} {cs : List Value} {x : α} (h : But D m cs x) {v : Value} (hv : cs[off]? = some v) (ho : v.oneCell' = true) : ∀ u ∈ cs, u.oneCell' = true := by
  intro u hu
  obtain ⟨j, hj, rfl⟩ := List.mem_iff_getElem.1 hu
  by_cases e : off = j
  · subst e
    rw [List.getElem?_eq_getElem hj] at hv
    cases hv
    exact ho
  · refine r.one h _ ?_
    rw [List.mem_iff_getElem]
    exact ⟨j, by rw [List.length_set]; exact hj, by rw [List.getElem_set_ne e]⟩
theorem But.set {D : Deep α β r rk off} {m : Mem} {cs : List Value} {x : α} {l : List β} {v : Value} (h : But D m cs x) : But D m (cs.set off v) (D.setk x l) := by
  unfold But at h ⊢
  rw [List.set_set, D.ss]
  exact h
def oD (D : Deep α β r rk off) (tk : TypeId) : ORep α where
  fr := r
  it cs x := {
    P := fun m w F => ∃ A c, cs[off]? = some (.slice A (D.getk x).length c) ∧ But D m cs x ∧ (rowI rk tk A c (D.getk x)).P m w F
    loc := fun ⟨A, c, h1, h2, h3⟩ hk => ⟨A, c, h1, h2, (rowI rk tk A c (D.getk x)).loc h3 hk⟩
    mono := fun hs ⟨A, c, h1, h2, h3⟩ => ⟨A, c, h1, h2.mono hs, (rowI rk tk A c (D.getk x)).mono hs h3⟩
    dom := fun ⟨A, c, h1, h2, h3⟩ => (rowI rk tk A c (D.getk x)).dom h3 }
  len := fun ⟨A, c, h1, h2, h3⟩ => h2.len
  one := fun ⟨A, c, h1, h2, h3⟩ => h2.one h1 rfl
  fix := fun ⟨A, c, h1, h2, h3⟩ hs hm => D.fill (h2.mono hs) h1 (rowI_fix h3 hs hm)
/-- A row of such. -/
def deepI (D : Deep α β r rk off) (tk t : TypeId) (l : List α) (v : Value) : Item where
  P m w F := ∃ A c, v = .slice A l.length c ∧ (rowO (oD D tk) t A c l).P m w F
  loc := fun ⟨A, c, h1, h2⟩ hk => ⟨A, c, h1, (rowO (oD D tk) t A c l).loc h2 hk⟩
  mono := fun hs ⟨A, c, h1, h2⟩ => ⟨A, c, h1, (rowO (oD D tk) t A c l).mono hs h2⟩
  dom := fun ⟨A, c, h1, h2⟩ => (rowO (oD D tk) t A c l).dom h2
theorem deepI_nil (D : Deep α β r rk off) (tk t : TypeId) {m : Mem} {w : World} : (deepI D tk t [] (.slice none 0 0)).P m w (fun _ => False) :=
  ⟨none, 0, rfl, [], fun _ => False, fun _ => False, ⟨rfl, fun _ e => e⟩, ⟨fun _ => False, fun _ => False, ⟨World.ownsRow_nil _ _ _ _, fun k => ⟨False.elim, fun e => by cases e⟩⟩, fun _ e => e, fun _ e => e.elim, fun k => ⟨False.elim, fun e => e.elim id id⟩⟩, fun _ e => e.elim, fun k => ⟨False.elim, fun e => e.elim id id⟩⟩
/-- .. the row of one of them taken out; u: that row. -/
def holeI (D : Deep α β r rk off) (tk t : TypeId) (q : List α × Int × α) (v u : Value) : Item where
  P m w F := ∃ A c cs, (v = .slice A q.1.length c ∧ q.1[q.2.1.toNat]? = some q.2.2 ∧ cs[off]? = some u ∧ u.oneCell' = true) ∧ But D m cs q.2.2 ∧ (holeO (oD D tk) t A c q.1 q.2.1.toNat cs).P m w F
  loc := fun ⟨A, c, cs, h1, h2, h3⟩ hk => ⟨A, c, cs, h1, h2, (holeO (oD D tk) t A c q.1 q.2.1.toNat cs).loc h3 hk⟩
  mono := fun hs ⟨A, c, cs, h1, h2, h3⟩ => ⟨A, c, cs, h1, h2.mono hs, (holeO (oD D tk) t A c q.1 q.2.1.toNat cs).mono hs h3⟩
  dom := fun ⟨A, c, cs, h1, h2, h3⟩ => (holeO (oD D tk) t A c q.1 q.2.1.toNat cs).dom h3
end

/-! ### Maps -/
section
variable {κ β : Type} [BEq κ]
/-- A value as it stands in a map. -/
def VRep (r : Rep β) (g : Bool) (m : Mem) (u : Value) (x : β) : Prop := match g with
  | true => ∃ cs : List Value, r.im m cs x ∧ u = .agg cs.toArray
  | false => r.im m [u] x
theorem VRep.mono {r : Rep β} {g : Bool} {m m' : Mem} {u : Value} {x : β} (hs : Sub m m') (h : VRep r g m u x) : VRep r g m' u x := by
  cases g with
  | true => obtain ⟨cs, h1, h2⟩ := h; exact ⟨cs, r.mono hs h1, h2⟩
  | false => exact r.mono hs h
def MVal (r : Rep β) (g : Bool) (wf : κ → Prop) (m : Mem) : List (κ × Value) → List (κ × β) → Prop
  | [], l => l = []
  | (k, u) :: lv, l => ∃ x l', l = (k, x) :: l' ∧ wf k ∧ VRep r g m u x ∧ MVal r g wf m lv l'
section
variable {r : Rep β} {g : Bool} {wf : κ → Prop} {m m' : Mem}
omit [BEq κ] in
theorem MVal.mono (hs : Sub m m') : ∀ {lv : List (κ × Value)} {l : List (κ × β)}, MVal r g wf m lv l → MVal r g wf m' lv l
  | [], _, h => h
  | (k, u) :: lv, _, ⟨x, l', h1, h2, h3, h4⟩ => ⟨x, l', h1, h2, h3.mono hs, MVal.mono hs h4⟩
theorem MVal.get (k : κ) : ∀ {lv : List (κ × Value)} {l : List (κ × β)}, MVal r g wf m lv l → (mget lv k = none ∧ mget l k = none) ∨ ∃ u x, mget lv k = some u ∧ mget l k = some x ∧ VRep r g m u x
  | [], _, h => by rw [show _ = [] from h]; exact .inl ⟨rfl, rfl⟩
  | (k', u) :: lv, _, ⟨x, l', h1, h2, h3, h4⟩ => by
    subst h1
    have ih := h4.get k
    unfold mget at ih ⊢
    rw [List.find?_cons, List.find?_cons]
    cases hb : (k == k')
    · simpa [hb] using ih
    · exact .inr ⟨u, x, by simp [hb], by simp [hb], h3⟩
theorem MVal.put {k : κ} (hk : wf k) {u : Value} {x : β} (hv : VRep r g m u x) : ∀ {lv : List (κ × Value)} {l : List (κ × β)}, MVal r g wf m lv l → MVal r g wf m (mput lv k u) (mput l k x)
  | [], _, h => by rw [show _ = [] from h]; exact ⟨x, [], rfl, hk, hv, rfl⟩
  | (k', u') :: lv, _, ⟨x', l', h1, h2, h3, h4⟩ => by
    subst h1
    unfold mput
    cases hb : (k == k')
    · simp only [hb, Bool.false_eq_true, if_false]
      exact ⟨x', _, rfl, h2, h3, h4.put hk hv⟩
    · simp only [hb, if_true]
      exact ⟨x, l', rfl, hk, hv, h4⟩
end
def mapG (K : Key κ) (wf : κ → Prop) (r : Rep β) (g : Bool) (l : List (κ × β)) (v : Value) : Item where
  P m w F := ∃ b lv, v = .map (some b) ∧ MVal r g wf m lv l ∧ (mapI K id b lv).P m w F
  loc := fun ⟨b, lv, h1, h2, h3⟩ hk => ⟨b, lv, h1, h2, (mapI K id b lv).loc h3 hk⟩
  mono := fun hs ⟨b, lv, h1, h2, h3⟩ => ⟨b, lv, h1, h2.mono hs, (mapI K id b lv).mono hs h3⟩
  dom := fun ⟨b, lv, h1, h2, h3⟩ => (mapI K id b lv).dom h3
end
end Go.Proofs.YtbldeodchhfjfaaGreatDoor.K.E
