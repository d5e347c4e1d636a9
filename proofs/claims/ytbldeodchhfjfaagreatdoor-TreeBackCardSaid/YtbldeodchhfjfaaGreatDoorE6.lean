/- E, part 6: the state, the machine's world behind it; what is owned becomes fixed. -/
import Derived.Test.YtbldeodchhfjfaaGreatDoorE5
set_option linter.unusedVariables false
set_option linter.unusedSimpArgs false
set_option linter.unusedSectionVars false
namespace Go.Proofs.YtbldeodchhfjfaaGreatDoor.K.E
open Go Go.RowKit

/-- What a walk sets out from. -/
structure Bs where
  w0 : World
  F0 : Nat → Prop
  m0 : Mem
  η0 : List Value
structure Wd (tb : Tab) (bs : Bs) (η : List Value) (m : Mem) (s : S tb.T) (w : World) : Prop where
  len : η.length = s.c
  le : Le bs.η0 η
  st : St bs.w0 bs.F0 bs.m0 m (its tb η s.σ) w
  gl : Glob tb m
/-- The slots. -/
def KR (tb : Tab) (η : List Value) (m : Mem) (κ : List (Nat × Nat × AV tb.T)) (κc : Kn) : Prop := ∀ t st v, lk κ t = some (st, v) → ∃ u, fnd κc t = some u ∧ R tb η m v u
/-- What is older than the mark was there. -/
structure Ext {T : Nat → Type} (s s' : S T) : Prop where
  c : s.c ≤ s'.c
  d : s.d ≤ s'.d
  κ : ∀ t st v, lk s'.κ t = some (st, v) → st < s.d → lk s.κ t = some (st, v)
  σ : ∀ t st v, lk s'.σ t = some (st, v) → st < s.d → lk s.σ t = some (st, v)
theorem Ext.refl {T : Nat → Type} (s : S T) : Ext s s := ⟨Nat.le_refl _, Nat.le_refl _, fun _ _ _ h _ => h, fun _ _ _ h _ => h⟩
theorem Ext.trans {T : Nat → Type} {a b c : S T} (h : Ext a b) (h' : Ext b c) : Ext a c :=
  ⟨Nat.le_trans h.c h'.c, Nat.le_trans h.d h'.d, fun t st v e l => h.κ t st v (h'.κ t st v e (Nat.lt_of_lt_of_le l h.d)) l, fun t st v e l => h.σ t st v (h'.σ t st v e (Nat.lt_of_lt_of_le l h.d)) l⟩
structure Rl (tb : Tab) (bs : Bs) (s : S tb.T) (κc : Kn) (w : World) : Prop where
  ex : ∃ η m, KR tb η m s.κ κc ∧ Wd tb bs η m s w
section
variable {tb : Tab} {bs : Bs} {η η' : List Value} {m m' : Mem} {s s' : S tb.T} {κc : Kn} {w w' : World}
theorem KR.mono {κ : List (Nat × Nat × AV tb.T)} (h : KR tb η m κ κc) (hη : Le η η') (hm : Sub m m') : KR tb η' m' κ κc := fun t st v e => let ⟨u, h1, h2⟩ := h t st v e; ⟨u, h1, R.mono hη hm v h2⟩
theorem KR.put (h : KR tb η m s.κ κc) {v : AV tb.T} {u : Value} (d : Option Nat) (hv : R tb η m v u) : KR tb η m (s.put d v).κ (putk d u κc) := by
  cases d with
  | none => exact h
  | some t0 =>
    intro t st v' e
    simp only [S.put, lk] at e
    simp only [putk, fnd]
    cases hb : Nat.beq t0 t with
    | true =>
      rw [hb] at e
      simp only [cond_true, Option.some.injEq, Prod.mk.injEq] at e
      obtain ⟨_, rfl⟩ := e
      exact ⟨u, rfl, hv⟩
    | false =>
      rw [hb] at e
      exact h t st v' e
theorem Wd.put (h : Wd tb bs η m s w) (d : Option Nat) (v : AV tb.T) : Wd tb bs η m (s.put d v) w := by
  cases d with
  | none => exact h
  | some t => exact ⟨h.len, h.le, h.st, h.gl⟩
theorem Ext.put (s : S tb.T) (d : Option Nat) (v : AV tb.T) : Ext s (s.put d v) := by
  cases d with
  | none => exact Ext.refl s
  | some t0 =>
    refine ⟨Nat.le_refl _, Nat.le_succ _, fun t st v' e l => ?_, fun _ _ _ e _ => e⟩
    simp only [S.put, lk] at e
    cases hb : Nat.beq t0 t with
    | true =>
      rw [hb] at e
      simp only [cond_true, Option.some.injEq, Prod.mk.injEq] at e
      obtain ⟨rfl, _⟩ := e
      exact absurd l (Nat.lt_irrefl _)
    | false =>
      rw [hb] at e
      exact e
theorem KR.ev (h : KR tb η m s.κ κc) : Ev tb η m (evA s.κ) (evT κc) := by
  intro x a e
  cases x with
  | tmp t =>
    simp only [evA] at e
    split at e
    · rename_i st v hv
      cases e
      obtain ⟨u, h1, h2⟩ := h _ _ _ hv
      simp only [evT, K.ev, h1, Option.getD_some]
      exact h2
    · cases e
  | const v => simp only [evA, Option.some.injEq] at e; subst e; exact cst_ok v
  | global g => simp only [evA, Option.some.injEq] at e; subst e; rfl
  | func f => simp only [evA, Option.some.injEq] at e; subst e; exact ⟨[], [], rfl, rfl, rfl⟩
theorem KR.known (h : KR tb η m s.κ κc) {x : Operand} {a : AV tb.T} (e : evA s.κ x = some a) : (K.ev κc x).isSome = true := by
  cases x with
  | tmp t =>
    simp only [evA] at e
    split at e
    · rename_i st v hv
      obtain ⟨u, h1, h2⟩ := h _ _ _ hv
      simp [K.ev, h1]
    · cases e
  | _ => rfl

/-! finding, taking out, putting in -/
theorem beq_ne {a b : Nat} (h : Nat.beq a b = false) : a ≠ b := fun e => by subst e; rw [Nat.beq_refl] at h; cases h
theorem lk_del {α : Type} : ∀ {l : List (Nat × Nat × α)} {t u : Nat} {p : Nat × α}, lk (del l t) u = some p → u ≠ t ∧ lk l u = some p
  | [], _, _, _, h => by cases h
  | (i, st, v) :: r, t, u, p, h => by
    simp only [del] at h
    cases hb : Nat.beq i t with
    | true =>
      have := beq_t hb
      subst this
      rw [hb] at h
      obtain ⟨h1, h2⟩ := lk_del (l := r) h
      refine ⟨h1, ?_⟩
      have hb2 : Nat.beq i u = false := by
        cases hb2 : Nat.beq i u with
        | true => exact absurd (beq_t hb2).symm h1
        | false => rfl
      simp only [lk, hb2, cond_false]
      exact h2
    | false =>
      rw [hb] at h
      simp only [cond_false, lk] at h ⊢
      cases hb2 : Nat.beq i u with
      | true =>
        rw [hb2] at h
        have := beq_t hb2
        subst this
        exact ⟨beq_ne hb, h⟩
      | false =>
        rw [hb2] at h
        exact lk_del h
theorem lk_sto {α : Type} {l : List (Nat × Nat × α)} {t u st : Nat} {v : α} {p : Nat × α} (h : lk (sto l t st v) u = some p) : (u = t ∧ p = (st, v)) ∨ lk l u = some p := by
  simp only [sto, lk] at h
  cases hb : Nat.beq t u with
  | true => rw [hb] at h; have := beq_t hb; subst this; exact .inl ⟨rfl, (Option.some.inj h).symm⟩
  | false => rw [hb] at h; exact .inr (lk_del h).2
/-- Every item's number has been given. -/
theorem Wd.old (h : Wd tb bs η m s w) {id : Nat} {p : Nat × DI tb.T} (hl : lk s.σ id = some p) : id < s.c := by
  obtain ⟨F, h1, _⟩ := h.st.sep
  obtain ⟨F1, F2, h2, _⟩ := Sep_lk hl h1
  rw [← h.len]
  obtain ⟨st, x⟩ := p
  cases x with
  | blk t c => obtain ⟨g, cs, h3, _⟩ := h2; exact (List.getElem?_eq_some_iff.1 h3).1
  | row n t l => obtain ⟨A, c, h3, _⟩ := h2; exact (List.getElem?_eq_some_iff.1 h3).1
  | lit t k c => obtain ⟨g, cs, h3, _⟩ := h2; exact (List.getElem?_eq_some_iff.1 h3).1
  | kep t c j => obtain ⟨g, cs, ⟨h3, _⟩, _⟩ := h2; exact (List.getElem?_eq_some_iff.1 h3).1
  | gen n x j => obtain ⟨v, u, ⟨h3, _⟩, _⟩ := h2; exact (List.getElem?_eq_some_iff.1 h3).1
/-! ### What is owned becomes fixed -/
mutual
def hasA {T : Nat → Type} (id : Nat) : AV T → Bool
  | .row i => Nat.beq i id
  | .cells _ l => hasL id l
  | .agg l => hasL id l
  | .tup l => hasL id l
  | .fn _ l c => hasL id l || hasL id c
  | _ => false
def hasL {T : Nat → Type} (id : Nat) : List (AV T) → Bool
  | [] => false
  | a :: l => hasA id a || hasL id l
end
mutual
def subA {T : Nat → Type} (id : Nat) (b : AV T) : AV T → AV T
  | .row i => cond (Nat.beq i id) b (.row i)
  | .cells o l => .cells o (subL id b l)
  | .agg l => .agg (subL id b l)
  | .tup l => .tup (subL id b l)
  | .fn f l c => .fn f (subL id b l) (subL id b c)
  | a => a
def subL {T : Nat → Type} (id : Nat) (b : AV T) : List (AV T) → List (AV T)
  | [] => []
  | a :: l => subA id b a :: subL id b l
end
mutual
theorem subA_ok {id : Nat} {b : AV tb.T} (hη : Le η η') (hm : Sub m m') (hb : ∀ v, R tb η m (.row id) v → R tb η' m' b v) : ∀ (a : AV tb.T) {v : Value}, R tb η m a v → R tb η' m' (subA id b a) v
  | .row i, v, h => by
    simp only [subA]
    cases hi : Nat.beq i id with
    | true => have := beq_t hi; subst this; exact hb v h
    | false => exact R.mono hη hm (.row i) h
  | .cells o l, v, ⟨A, cs, h1, h2, h3⟩ => ⟨A, cs, h1, h2.mono hm, subL_ok hη hm hb l h3⟩
  | .agg l, v, ⟨cs, h1, h3⟩ => ⟨cs, h1, subL_ok hη hm hb l h3⟩
  | .tup l, v, ⟨cs, h1, h3⟩ => ⟨cs, h1, subL_ok hη hm hb l h3⟩
  | .fn f l c, v, ⟨xs, ys, h1, h3, h4⟩ => ⟨xs, ys, h1, subL_ok hη hm hb l h3, subL_ok hη hm hb c h4⟩
  | .i64 x, v, h => h
  | .u8 x, v, h => h
  | .u32 x, v, h => h
  | .u64 x, v, h => h
  | .bool x, v, h => h
  | .str x, v, h => h
  | .sl n l, v, h => R.mono hη hm (.sl n l) h
  | .nils, v, h => h
  | .nilp, v, h => h
  | .ptr i o, v, h => R.mono hη hm (.ptr i o) h
  | .elt i j n o, v, h => R.mono hη hm (.elt i j n o) h
  | .glob g, v, h => h
  | .lit u, v, h => h
  | .any, v, h => h
theorem subL_ok {id : Nat} {b : AV tb.T} (hη : Le η η') (hm : Sub m m') (hb : ∀ v, R tb η m (.row id) v → R tb η' m' b v) : ∀ (l : List (AV tb.T)) {vs : List Value}, RL tb η m l vs → RL tb η' m' (subL id b l) vs
  | [], vs, h => h
  | a :: l, vs, ⟨v, r, h1, h2, h3⟩ => ⟨v, r, h1, subA_ok hη hm hb a h2, subL_ok hη hm hb l h3⟩
end
def hK {T : Nat → Type} (id d : Nat) (b : AV T) (p : Nat × AV T) : Nat × AV T := cond (hasA id p.2) (d, subA id b p.2) p
def hS {T : Nat → Type} (id d : Nat) (b : AV T) (p : Nat × DI T) : Nat × DI T := match p.2 with
  | .blk t c => cond (hasL id c) (d, .blk t (subL id b c)) p
  | .lit t k c => cond (hasL id c) (d, .lit t k (subL id b c)) p
  | .kep t c j => cond (hasL id c) (d, .kep t (subL id b c) j) p
  | _ => p
def mapE {α : Type} (h : Nat × α → Nat × α) (l : List (Nat × Nat × α)) : List (Nat × Nat × α) := l.map fun e => (e.1, h e.2)
theorem lk_mapE {α : Type} (h : Nat × α → Nat × α) : ∀ (l : List (Nat × Nat × α)) (t : Nat), lk (mapE h l) t = (lk l t).map h
  | [], _ => rfl
  | (i, st, v) :: r, t => by
    show cond (Nat.beq i t) (some (h (st, v))) (lk (mapE h r) t) = Option.map h (cond (Nat.beq i t) (some (st, v)) (lk r t))
    cases Nat.beq i t with
    | true => rfl
    | false => exact lk_mapE h r t
mutual
theorem has_ok {id : Nat} {b : AV tb.T} : ∀ a : AV tb.T, hasA id a = false → subA id b a = a
  | .row i, h => by simp only [hasA] at h; simp only [subA, h, cond_false]
  | .cells o l, h => by simp only [hasA] at h; simp only [subA, hasL_ok l h]
  | .agg l, h => by simp only [hasA] at h; simp only [subA, hasL_ok l h]
  | .tup l, h => by simp only [hasA] at h; simp only [subA, hasL_ok l h]
  | .fn f l c, h => by simp only [hasA, Bool.or_eq_false_iff] at h; simp only [subA, hasL_ok l h.1, hasL_ok c h.2]
  | .i64 x, h => rfl
  | .u8 x, h => rfl
  | .u32 x, h => rfl
  | .u64 x, h => rfl
  | .bool x, h => rfl
  | .str x, h => rfl
  | .sl n l, h => rfl
  | .nils, h => rfl
  | .nilp, h => rfl
  | .ptr i o, h => rfl
  | .elt i j n o, h => rfl
  | .glob g, h => rfl
  | .lit u, h => rfl
  | .any, h => rfl
theorem hasL_ok {id : Nat} {b : AV tb.T} : ∀ l : List (AV tb.T), hasL id l = false → subL id b l = l
  | [], _ => rfl
  | a :: l, h => by simp only [hasL, Bool.or_eq_false_iff] at h; simp only [subL, has_ok a h.1, hasL_ok l h.2]
end
/-- An item becomes fixed; where it is named, it is named so. -/
def chg {T : Nat → Type} (s : S T) (id : Nat) (b : AV T) : S T := { κ := mapE (hK id s.d b) s.κ, σ := mapE (hS id s.d b) (del s.σ id), c := s.c, d := s.d + 1 }
theorem its_sub {id d : Nat} {b : AV tb.T} (hb : ∀ v, R tb η m (.row id) v → R tb η m b v) {w : World} : ∀ (σ : Sg tb.T) {F : Nat → Prop}, Sep m w (its tb η σ) F → Sep m w (its tb η (mapE (hS id d b) σ)) F
  | [], _, h => h
  | (i, st, x) :: r, F, ⟨F1, F2, h1, h2, h3, h4⟩ => by
    refine ⟨F1, F2, ?_, its_sub hb r h2, h3, h4⟩
    cases x with
    | row n t l => exact h1
    | gen n x j => exact h1
    | blk t c =>
      show (DI.item tb η i (hS id d b (st, .blk t c)).2).P m w F1
      simp only [hS]
      cases hh : hasL id c with
      | false => exact h1
      | true =>
        obtain ⟨g, cs, k1, k2, k3⟩ := h1
        exact ⟨g, cs, k1, subL_ok (Le.refl _) (Sub.refl _) hb c k2, k3⟩
    | lit t k c =>
      show (DI.item tb η i (hS id d b (st, .lit t k c)).2).P m w F1
      simp only [hS]
      cases hh : hasL id c with
      | false => exact h1
      | true =>
        obtain ⟨g, cs, k1, k2, k3⟩ := h1
        exact ⟨g, cs, k1, subL_ok (Le.refl _) (Sub.refl _) hb c k2, k3⟩
    | kep t c j =>
      show (DI.item tb η i (hS id d b (st, .kep t c j)).2).P m w F1
      simp only [hS]
      cases hh : hasL id c with
      | false => exact h1
      | true =>
        obtain ⟨g, cs, k1, k2, k3⟩ := h1
        exact ⟨g, cs, k1, subL_ok (Le.refl _) (Sub.refl _) hb c k2, k3⟩
theorem chg_ext {id : Nat} {b : AV tb.T} : Ext s (chg s id b) := by
  refine ⟨Nat.le_refl _, Nat.le_succ _, ?_, ?_⟩
  · intro t st v e l'
    unfold chg at e
    simp only at e
    rw [lk_mapE] at e
    obtain ⟨p, hp, e⟩ := Option.map_eq_some_iff.1 e
    unfold hK at e
    cases hh : hasA id p.2 with
    | true => rw [hh] at e; simp only [cond_true, Prod.mk.injEq] at e; rw [← e.1] at l'; exact absurd l' (Nat.lt_irrefl _)
    | false => rw [hh] at e; simp only [cond_false] at e; rw [hp, e]
  · intro t st v e l'
    unfold chg at e
    simp only at e
    rw [lk_mapE] at e
    obtain ⟨p, hp, e⟩ := Option.map_eq_some_iff.1 e
    have hp2 := (lk_del hp).2
    unfold hS at e
    split at e
    · rename_i t' c' hpc
      cases hh : hasL id c' with
      | true => rw [hh] at e; simp only [cond_true, Prod.mk.injEq] at e; rw [← e.1] at l'; exact absurd l' (Nat.lt_irrefl _)
      | false => rw [hh] at e; simp only [cond_false] at e; rw [hp2, e]
    · rename_i t' k' c' hpc
      cases hh : hasL id c' with
      | true => rw [hh] at e; simp only [cond_true, Prod.mk.injEq] at e; rw [← e.1] at l'; exact absurd l' (Nat.lt_irrefl _)
      | false => rw [hh] at e; simp only [cond_false] at e; rw [hp2, e]
    · rename_i t' c' k' hpc
      cases hh : hasL id c' with
      | true => rw [hh] at e; simp only [cond_true, Prod.mk.injEq] at e; rw [← e.1] at l'; exact absurd l' (Nat.lt_irrefl _)
      | false => rw [hh] at e; simp only [cond_false] at e; rw [hp2, e]
    · rw [hp2, e]
theorem chg_ok {id : Nat} {b : AV tb.T} (hw : Wd tb bs η m s w) (hk : KR tb η m s.κ κc) (h5 : Sub m m') (h7 : St bs.w0 bs.F0 bs.m0 m' (its tb η (del s.σ id)) w) (hb : ∀ v, R tb η m' (.row id) v → R tb η m' b v) :
    KR tb η m' (chg s id b).κ κc ∧ Wd tb bs η m' (chg s id b) w := by
  refine ⟨?_, hw.len, hw.le, ?_, Glob.mono hw.gl h5⟩
  · intro t st v e
    unfold chg at e
    simp only at e
    rw [lk_mapE] at e
    obtain ⟨p, hp, e⟩ := Option.map_eq_some_iff.1 e
    obtain ⟨u, h8, h9⟩ := hk t p.1 p.2 hp
    refine ⟨u, h8, ?_⟩
    have h10 := subA_ok (id := id) (b := b) (Le.refl η) (Sub.refl m') hb p.2 (R.mono (Le.refl _) h5 p.2 h9)
    unfold hK at e
    cases hh : hasA id p.2 with
    | true => rw [hh] at e; simp only [cond_true, Prod.mk.injEq] at e; rw [← e.2]; exact h10
    | false => rw [hh] at e; simp only [cond_false] at e; rw [has_ok _ hh] at h10; rw [e] at h10; exact h10
  · obtain ⟨G, g1, g2, g3⟩ := h7.sep
    exact ⟨h7.kp, h7.sub, h7.has, h7.new, G, its_sub hb _ g1, g2, g3⟩
theorem fix_sl {n t : Nat} {A : Option Addr} {c : Nat} {l : List (tb.T n)} {σ : List Item} {w0 : World} {F0 : Nat → Prop} {m0 : Mem} (H : St w0 F0 m0 m (rowI (tb.rep n) t A c l :: σ) w) : ∃ m1, Sub m m1 ∧ SlI (tb.rep n) m1 A c l ∧ St w0 F0 m0 m1 σ w := by
  obtain ⟨m1, h1, h2, h3⟩ := H.fixR 0 rfl
  exact ⟨m1, h1, h2, h3⟩
theorem St_ex {α : Type} {i : Item} {j : α → Item} {Q : α → Prop} {σ : List Item} {w0 : World} {F0 : Nat → Prop} {m0 : Mem} (H : St w0 F0 m0 m (i :: σ) w) (h : ∀ F, i.P m w F → ∃ y, Q y ∧ (j y).P m w F) : ∃ y, Q y ∧ St w0 F0 m0 m (j y :: σ) w := by
  obtain ⟨F, ⟨F1, F2, h1, h2, h3⟩, h4⟩ := H.sep
  obtain ⟨y, hq, hy⟩ := h F1 h1
  exact ⟨y, hq, H.kp, H.sub, H.has, H.new, F, ⟨F1, F2, hy, h2, h3⟩, h4⟩
/-- An item out of all, in front. -/
theorem Wd.pull (h : Wd tb bs η m s w) {id : Nat} {p : Nat × DI tb.T} (hl : lk s.σ id = some p) : St bs.w0 bs.F0 bs.m0 m (p.2.item tb η id :: its tb η (del s.σ id)) w := by
  obtain ⟨F, h1, h2, h3⟩ := h.st.sep
  obtain ⟨F1, F2, k1, k2, k3, k4⟩ := Sep_lk hl h1
  exact ⟨h.st.kp, h.st.sub, h.st.has, h.st.new, fun k => F1 k ∨ F2 k, ⟨F1, F2, k1, k2, k3, fun k => Iff.rfl⟩, fun k e => h2 k (k4 k e), fun k e => h3 k (k4 k e)⟩
theorem Wd.row (h : Wd tb bs η m s w) {id st n t : Nat} {l : List (tb.T n)} (hl : lk s.σ id = some (st, .row n t l)) : ∃ A c, η[id]? = some (.slice A l.length c) ∧ St bs.w0 bs.F0 bs.m0 m (rowI (tb.rep n) t A c l :: its tb η (del s.σ id)) w := by
  obtain ⟨⟨A, c⟩, h1, h2⟩ := St_ex (j := fun y : Option Addr × Nat => rowI (tb.rep n) t y.1 y.2 l) (Q := fun y => η[id]? = some (.slice y.1 l.length y.2)) (h.pull hl) (fun F ⟨A, c, h1, h2⟩ => ⟨(A, c), h1, h2⟩)
  exact ⟨A, c, h1, h2⟩
theorem Wd.blk (h : Wd tb bs η m s w) {id st t : Nat} {c : List (AV tb.T)} (hl : lk s.σ id = some (st, .blk t c)) : ∃ g cs, η[id]? = some (.pointer (some ⟨g, 0, none⟩)) ∧ RL tb η m c cs ∧ St bs.w0 bs.F0 bs.m0 m (blkI g cs t :: its tb η (del s.σ id)) w := by
  obtain ⟨⟨g, cs⟩, ⟨h1, h2⟩, h3⟩ := St_ex (j := fun y : Nat × List Value => blkI y.1 y.2 t) (Q := fun y => η[id]? = some (.pointer (some ⟨y.1, 0, none⟩)) ∧ RL tb η m c y.2) (h.pull hl) (fun F ⟨g, cs, h1, h2, h3⟩ => ⟨(g, cs), ⟨h1, h2⟩, h3⟩)
  exact ⟨g, cs, h1, h2, h3⟩
theorem Wd.lit (h : Wd tb bs η m s w) {id st t k : Nat} {c : List (AV tb.T)} (hl : lk s.σ id = some (st, .lit t k c)) : ∃ g cs, η[id]? = some (.slice (some ⟨g, 0, none⟩) k k) ∧ RL tb η m c cs ∧ St bs.w0 bs.F0 bs.m0 m (blkI g cs t :: its tb η (del s.σ id)) w := by
  obtain ⟨⟨g, cs⟩, ⟨h1, h2⟩, h3⟩ := St_ex (j := fun y : Nat × List Value => blkI y.1 y.2 t) (Q := fun y => η[id]? = some (.slice (some ⟨y.1, 0, none⟩) k k) ∧ RL tb η m c y.2) (h.pull hl) (fun F ⟨g, cs, h1, h2, h3⟩ => ⟨(g, cs), ⟨h1, h2⟩, h3⟩)
  exact ⟨g, cs, h1, h2, h3⟩
theorem Wd.kep (h : Wd tb bs η m s w) {id st t j : Nat} {c : List (AV tb.T)} (hl : lk s.σ id = some (st, .kep t c j)) : ∃ g cs, (η[id]? = some (.pointer (some ⟨g, 0, none⟩)) ∧ η[j]? = some (.agg cs.toArray)) ∧ RL tb η m c cs ∧ St bs.w0 bs.F0 bs.m0 m (blkI g cs t :: its tb η (del s.σ id)) w := by
  obtain ⟨⟨g, cs⟩, ⟨h1, h2⟩, h3⟩ := St_ex (j := fun y : Nat × List Value => blkI y.1 y.2 t) (Q := fun y => (η[id]? = some (.pointer (some ⟨y.1, 0, none⟩)) ∧ η[j]? = some (.agg y.2.toArray)) ∧ RL tb η m c y.2) (h.pull hl) (fun F ⟨g, cs, h1, h2, h3⟩ => ⟨(g, cs), ⟨h1, h2⟩, h3⟩)
  exact ⟨g, cs, h1, h2, h3⟩
theorem lit_row (T : TabOk tb) {n t k : Nat} {g : Nat} {c : List (AV tb.T)} {cs : List Value} {x : List (tb.T n)} (h : imL tb n (tb.rep n).sz k c = some x) (hk : k ≤ 137438953472) (hr : RL tb η m c cs) {σ : List Item} {w0 : World} {F0 : Nat → Prop} {m0 : Mem} (H : St w0 F0 m0 m (blkI g cs t :: σ) w) :
    x.length = k ∧ St w0 F0 m0 m (rowI (tb.rep n) t (some ⟨g, 0, none⟩) x.length x :: σ) w := by
  obtain ⟨h1, h2⟩ := imL_ok T h hr
  exact ⟨h2, H.toRow 0 rfl h1 (by rw [h2]; exact Nat.le_trans hk (by decide))⟩
theorem Wd.gen (h : Wd tb bs η m s w) {id st kk j : Nat} {g : tb.T kk} (hl : lk s.σ id = some (st, .gen kk g j)) : ∃ v u, η[id]? = some v ∧ η[j]? = some u ∧ v.oneCell' = true ∧ St bs.w0 bs.F0 bs.m0 m (tb.gi kk g v u :: its tb η (E.del s.σ id)) w := by
  obtain ⟨⟨v, u⟩, ⟨h1, h2, h3⟩, h4⟩ := St_ex (j := fun y : Value × Value => tb.gi kk g y.1 y.2) (Q := fun y => η[id]? = some y.1 ∧ η[j]? = some y.2 ∧ y.1.oneCell' = true) (h.pull hl) (fun F ⟨v, u, ⟨h1, h2⟩, h3, h4⟩ => ⟨(v, u), ⟨h1, h2, h3⟩, h4⟩)
  exact ⟨v, u, h1, h2, h3, h4⟩
/-- A row that stands closed. -/
theorem Wd.deep (T : TabOk tb) (h : Wd tb bs η m s w) {id st kk : Nat} {d : DP tb.T tb.rep kk} {x : tb.T kk} (hl : lk s.σ id = some (st, .gen kk x id)) (hd : tb.dp kk = some d) :
    ∃ A c, η[id]? = some (.slice A (d.to x).length c) ∧ St bs.w0 bs.F0 bs.m0 m (rowO (oD d.D d.tk) d.t A c (d.to x) :: its tb η (E.del s.σ id)) w := by
  obtain ⟨v, u, h1, h2, h3, h4⟩ := h.gen hl
  rw [(T.kd.dgi hd).1] at h4
  obtain ⟨⟨A, c⟩, q1, q2⟩ := St_ex (j := fun y : Option Addr × Nat => rowO (oD d.D d.tk) d.t y.1 y.2 (d.to x)) (Q := fun y => v = .slice y.1 (d.to x).length y.2) h4 (fun F ⟨A, c, e1, e2⟩ => ⟨(A, c), e1, e2⟩)
  simp only at q1
  subst q1
  exact ⟨A, c, h1, q2⟩
/-- An owned row, or a literal, becomes fixed: what it is then. -/
def frz (tb : Tab) (s : S tb.T) (id : Nat) : Option (AV tb.T × S tb.T) := match lk s.σ id with
  | some (_, .row n _ l) => some (.sl n l, chg s id (.sl n l))
  | some (_, .lit t k c) => match tb.code t with
    | some n => cond (Nat.ble k 137438953472) (match imL tb n (tb.rep n).sz k c with
      | some x => some (.sl n x, chg s id (.sl n x))
      | none => none) none
    | none => none
  | some (_, .gen k x j) => cond (Nat.beq j id) (match tb.dp k with
    | some d => some (.sl d.n (d.to x), chg s id (.sl d.n (d.to x)))
    | none => none) none
  | _ => none
theorem frz_ok (T : TabOk tb) {id : Nat} {b : AV tb.T} (h : frz tb s id = some (b, s')) (hw : Wd tb bs η m s w) (hk : KR tb η m s.κ κc) : Ext s s' ∧ ∃ m', Sub m m' ∧ KR tb η m' s'.κ κc ∧ Wd tb bs η m' s' w ∧ ∀ v, R tb η m (.row id) v → R tb η m' b v := by
  have key : ∀ {n t : Nat} {A : Option Addr} {c : Nat} {l : List (tb.T n)}, η[id]? = some (.slice A l.length c) → St bs.w0 bs.F0 bs.m0 m (rowI (tb.rep n) t A c l :: its tb η (del s.σ id)) w → b = .sl n l → s' = chg s id (.sl n l) → Ext s s' ∧ ∃ m', Sub m m' ∧ KR tb η m' s'.κ κc ∧ Wd tb bs η m' s' w ∧ ∀ v, R tb η m (.row id) v → R tb η m' b v := by
    intro n t A c l h3 h4 e1 e2
    subst e1 e2
    obtain ⟨m1, h5, hs, h7⟩ := fix_sl h4
    have hb : ∀ v, R tb η m1 (.row id) v → R tb η m1 (.sl n l) v := by
      rintro v ⟨h8, _⟩
      rw [h3] at h8
      cases h8
      exact ⟨A, c, rfl, hs⟩
    obtain ⟨k1, k2⟩ := chg_ok hw hk h5 h7 hb
    exact ⟨chg_ext, m1, h5, k1, k2, fun v hr => hb v (R.mono (Le.refl _) h5 (.row id) hr)⟩
  unfold frz at h
  split at h
  · rename_i st n t l hl
    cases h
    obtain ⟨A, c, h3, h4⟩ := hw.row hl
    exact key h3 h4 rfl rfl
  · rename_i st t k c hl
    split at h
    · rename_i n hn
      cases hb : Nat.ble k 137438953472 with
      | false => rw [hb] at h; cases h
      | true =>
        rw [hb] at h
        simp only [cond_true] at h
        split at h
        · rename_i x hx
          cases h
          obtain ⟨g, cs, h3, h4, h5⟩ := hw.lit hl
          obtain ⟨h6, h7⟩ := lit_row T hx (Nat.le_of_ble_eq_true hb) h4 h5
          rw [← h6] at h3
          exact key h3 h7 rfl rfl
        · cases h
    · cases h
  · rename_i st k x j hl
    cases hb : Nat.beq j id with
    | false => rw [hb] at h; cases h
    | true =>
      have := beq_t hb
      subst this
      rw [hb] at h
      simp only [cond_true] at h
      split at h
      · rename_i d hd
        cases h
        obtain ⟨A, c, h3, h4⟩ := hw.deep T hl hd
        obtain ⟨m1, h5, hs, h7⟩ := h4.fixO 0 rfl
        have hb : ∀ v, R tb η m1 (.row j) v → R tb η m1 (.sl d.n (d.to x)) v := by
          rintro v ⟨h8, _⟩
          rw [h3] at h8
          cases h8
          exact ⟨A, c, rfl, hs⟩
        obtain ⟨k1, k2⟩ := chg_ok hw hk h5 h7 hb
        exact ⟨chg_ext, m1, h5, k1, k2, fun v hr => hb v (R.mono (Le.refl _) h5 (.row j) hr)⟩
      · cases h
  · cases h
end
end Go.Proofs.YtbldeodchhfjfaaGreatDoor.K.E
