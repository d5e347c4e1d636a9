/- E, part 7: operations that turn memory, part one. -/
import Derived.Test.YtbldeodchhfjfaaGreatDoorE6
import Derived.Test.YtbldeodchhfjfaaGreatDoorM7
set_option linter.unusedVariables false
set_option linter.unusedSimpArgs false
set_option linter.unusedSectionVars false
namespace Go.Proofs.YtbldeodchhfjfaaGreatDoor.K.E
open Go Go.RowKit

/-- What an operation leads to. -/
def YX {ρ : Type} (tb : Tab) (bs : Bs) (η : List Value) (m : Mem) (d : Option Nat) (s : S tb.T) (k : AV tb.T → S tb.T → Option ρ) (ans : ρ) (κc : Kn) : Kn → World → Prop := fun κ' w' =>
  ∃ v s' u η' m', k v s' = some ans ∧ Ext s s' ∧ κ' = putk d u κc ∧ Le η η' ∧ Sub m m' ∧ R tb η' m' v u ∧ KR tb η' m' s'.κ κc ∧ Wd tb bs η' m' s' w'
theorem YX.pre {ρ : Type} {tb : Tab} {bs : Bs} {η : List Value} {m m1 : Mem} {d : Option Nat} {s s1 : S tb.T} {k : AV tb.T → S tb.T → Option ρ} {ans : ρ} {κc : Kn} (h : Ext s s1) (hm : Sub m m1) : ∀ κ' w', YX tb bs η m1 d s1 k ans κc κ' w' → YX tb bs η m d s k ans κc κ' w' :=
  fun _ _ ⟨v, s', u, η', m', h1, h2, h3, h4, h5, h6⟩ => ⟨v, s', u, η', m', h1, h.trans h2, h3, h4, hm.trans h5, h6⟩
theorem Step.imp {P : Program} {B : Code} {n : Cx} {p : List Nat} {i : Nat} {κ : Kn} {w : World} {X Y : Kn → World → Prop} (h : Step P B n p i κ w X) (hi : ∀ κ' w', X κ' w' → Y κ' w') : Step P B n p i κ w Y :=
  fun Q K hK a ha => h Q K (fun κ' w' a' hx ha' => hK κ' w' a' (hi _ _ hx) ha') a ha

section
variable {w0 : World} {F0 : Nat → Prop} {m0 m : Mem} {σ σ' : List Item} {w : World}
theorem St_imp (H : St w0 F0 m0 m σ w) (h : ∀ F, Sep m w σ F → Sep m w σ' F) : St w0 F0 m0 m σ' w := by
  obtain ⟨F, h1, h2, h3⟩ := H.sep
  exact ⟨H.kp, H.sub, H.has, H.new, F, h F h1, h2, h3⟩
theorem St_conv {i j : Item} (H : St w0 F0 m0 m (i :: σ) w) (h : ∀ F, i.P m w F → j.P m w F) (hσ : ∀ F, Sep m w σ F → Sep m w σ' F) : St w0 F0 m0 m (j :: σ') w :=
  St_imp H fun F ⟨F1, F2, h1, h2, h3⟩ => ⟨F1, F2, h F1 h1, hσ F2 h2, h3⟩
end
section
variable {tb : Tab} {bs : Bs} {η : List Value} {m : Mem} {s : S tb.T} {w w' : World} {κc : Kn}
/-- An item turned, its number kept. -/
theorem Wd.sto (h : Wd tb bs η m s w) {id : Nat} {p : Nat × DI tb.T} (hl : lk s.σ id = some p) {x : DI tb.T} (H : St bs.w0 bs.F0 bs.m0 m (x.item tb η id :: its tb η (del s.σ id)) w') :
    Ext s { s with σ := sto s.σ id s.d x, d := s.d + 1 } ∧ Wd tb bs η m { s with σ := E.sto s.σ id s.d x, d := s.d + 1 } w' := by
  refine ⟨⟨Nat.le_refl _, Nat.le_succ _, fun _ _ _ e _ => e, fun t st v e l => ?_⟩, h.len, h.le, H, h.gl⟩
  rcases lk_sto e with ⟨_, e⟩ | e
  · cases e; exact absurd l (Nat.lt_irrefl _)
  · exact e
/-- One new item. -/
def addI {T : Nat → Type} (s : S T) (x : DI T) : S T := { κ := s.κ, σ := (s.c, s.d, x) :: s.σ, c := s.c + 1, d := s.d + 1 }
theorem Ext.add {T : Nat → Type} (s : S T) (x : DI T) : Ext s (addI s x) := by
  refine ⟨Nat.le_succ _, Nat.le_succ _, fun _ _ _ e _ => e, fun t st v e l => ?_⟩
  simp only [addI, lk] at e
  cases hb : Nat.beq s.c t with
  | true => rw [hb] at e; simp only [cond_true, Option.some.injEq, Prod.mk.injEq] at e; rw [← e.1] at l; exact absurd l (Nat.lt_irrefl _)
  | false => rw [hb] at e; exact e
theorem Wd.add (h : Wd tb bs η m s w) (hg : Glob tb m) {x : DI tb.T} {u : Value} (H : St bs.w0 bs.F0 bs.m0 m (x.item tb (η ++ [u]) s.c :: its tb η s.σ) w') : Wd tb bs (η ++ [u]) m (addI s x) w' := by
  exact ⟨by rw [List.length_append, h.len]; rfl, h.le.trans (Le.app _ _), St_conv H (fun _ e => e) (fun F hF => its_le (Le.app _ _) _ hF), hg⟩
/-- An item that goes. -/
def delI {T : Nat → Type} (s : S T) (id : Nat) : S T := { s with σ := del s.σ id }
theorem Ext.del (h : Wd tb bs η m s w) (id : Nat) : Ext s (delI s id) :=
  ⟨Nat.le_refl _, Nat.le_refl _, fun _ _ _ e _ => e, fun t st v e l => (lk_del e).2⟩
theorem Wd.del (h : Wd tb bs η m s w) {id : Nat} {m' : Mem} (hg : Glob tb m') (H : St bs.w0 bs.F0 bs.m0 m' (its tb η (del s.σ id)) w') : Wd tb bs η m' (delI s id) w' :=
  ⟨h.len, h.le, H, hg⟩
theorem Wd.drop (h : Wd tb bs η m s w) {id : Nat} {p : Nat × DI tb.T} (hl : lk s.σ id = some p) : Wd tb bs η m (delI s id) w := h.del h.gl (h.pull hl).drop0

/-! new blocks -/
theorem blk_new (h : Wd tb bs η m s w) (t : TypeId) {cells : List (AV tb.T)} {cs : List Value} (hr : RL tb η m cells cs) : Wd tb bs (η ++ [.pointer (some ⟨w.heap.size, 0, none⟩)]) m (addI s (.blk t cells)) (w.alloc (.cells cs.toArray t (0, 0))) := by
  refine h.add h.gl (h.st.add (G := fun k => k = w.heap.size) (Ex.alloc w _) ⟨w.heap.size, cs, ?_, RL.mono (Le.app _ _) (Sub.refl _) cells hr, heap_alloc_new w _, fun _ => Iff.rfl⟩ (fun k e => by subst e; exact Nat.le_refl _))
  rw [← h.len, List.getElem?_append_right (Nat.le_refl _), Nat.sub_self]; rfl
theorem at_new (h : Wd tb bs η m s w) (u : Value) : (η ++ [u])[s.c]? = some u := by
  rw [← h.len, List.getElem?_append_right (Nat.le_refl _), Nat.sub_self]; rfl
end

/-! ### Rows within values: made fixed -/
mutual
def rowIn {T : Nat → Type} : AV T → Option Nat
  | .row i => some i
  | .cells _ l => rowInL l
  | .agg l => rowInL l
  | .tup l => rowInL l
  | .fn _ l c => match rowInL l with
    | some i => some i
    | none => rowInL c
  | _ => none
def rowInL {T : Nat → Type} : List (AV T) → Option Nat
  | [] => none
  | a :: l => match rowIn a with
    | some i => some i
    | none => rowInL l
end
theorem subL_len {T : Nat → Type} (id : Nat) (b : AV T) : ∀ l : List (AV T), (subL id b l).length = l.length
  | [] => rfl
  | a :: l => by simp only [subL, List.length_cons, subL_len id b l]
/-- What the rows of a literal's cells hold is made fixed first. -/
def frzA (tb : Tab) : Nat → List (AV tb.T) → S tb.T → Option (List (AV tb.T) × S tb.T)
  | 0, _, _ => none
  | f + 1, a, s => match rowInL a with
    | none => some (a, s)
    | some id => match lk s.σ id with
      | some (_, .lit _ _ c) => match rowInL c with
        | none => match frz tb s id with
          | some (b, s') => frzA tb f (subL id b a) s'
          | none => none
        | some _ => match frzA tb f (c ++ a) s with
          | some (x, s') => frzA tb f (x.drop c.length) s'
          | none => none
      | _ => match frz tb s id with
        | some (b, s') => frzA tb f (subL id b a) s'
        | none => none
section
variable {tb : Tab} {bs : Bs} {w : World} {κc : Kn}
def FzPost (tb : Tab) (bs : Bs) (s s' : S tb.T) (η : List Value) (m : Mem) (κc : Kn) (w : World) (a' : List (AV tb.T)) (vs : List Value) : Prop :=
  Ext s s' ∧ ∃ m', Sub m m' ∧ KR tb η m' s'.κ κc ∧ Wd tb bs η m' s' w ∧ RL tb η m' a' vs
theorem FzPost.step {s s1 s' : S tb.T} {η : List Value} {m m1 : Mem} {a' : List (AV tb.T)} {vs : List Value} (h : Ext s s1) (hm : Sub m m1) (h' : FzPost tb bs s1 s' η m1 κc w a' vs) : FzPost tb bs s s' η m κc w a' vs :=
  let ⟨k1, m2, k2, k3⟩ := h'
  ⟨h.trans k1, m2, hm.trans k2, k3⟩
theorem frzA_ok (T : TabOk tb) : ∀ (f : Nat) {a a' : List (AV tb.T)} {s s' : S tb.T} {η : List Value} {m : Mem}, frzA tb f a s = some (a', s') → Wd tb bs η m s w → KR tb η m s.κ κc → ∀ {vs : List Value}, RL tb η m a vs → FzPost tb bs s s' η m κc w a' vs
  | 0, a, a', s, s', η, m, h, hw, hk, vs, hr => by cases h
  | f + 1, a, a', s, s', η, m, h, hw, hk, vs, hr => by
    have one : ∀ {id : Nat}, (match frz tb s id with
        | some (b, s') => frzA tb f (subL id b a) s'
        | none => none) = some (a', s') → FzPost tb bs s s' η m κc w a' vs := by
      intro id h
      split at h
      · rename_i b s1 hf
        obtain ⟨h1, m1, h2, h3, h4, h5⟩ := frz_ok T hf hw hk
        exact FzPost.step h1 h2 (frzA_ok T f h h4 h3 (subL_ok (Le.refl _) h2 h5 a hr))
      · cases h
    simp only [frzA] at h
    split at h
    · cases h; exact ⟨Ext.refl _, m, Sub.refl _, hk, hw, hr⟩
    · split at h
      · rename_i st t k c hl
        split at h
        · exact one h
        · split at h
          · rename_i x s1 hx
            obtain ⟨g, cs, h3, h4, h5⟩ := hw.lit hl
            obtain ⟨k1, m2, k2, k3, k4, k5⟩ := frzA_ok T f hx hw hk (h4.app hr)
            refine FzPost.step k1 k2 (frzA_ok T f h k4 k3 ?_)
            have := k5.drop c.length
            rwa [List.drop_left' h4.len] at this
          · cases h
      · exact one h
end
end Go.Proofs.YtbldeodchhfjfaaGreatDoor.K.E
