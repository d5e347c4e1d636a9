/- E, part 10: calls by their contracts. -/
import Derived.Test.YtbldeodchhfjfaaGreatDoorE9G
set_option linter.unusedVariables false
set_option linter.unusedSimpArgs false
set_option linter.unusedSectionVars false
namespace Go.Proofs.YtbldeodchhfjfaaGreatDoor.K.E
open Go Go.RowKit

/-- Unpacked elsewhere. -/
def UpSh (tb : Tab) (st st' : Nat) (sh : Sh) : Prop := ∀ (x : sh.ty tb.T) (a b : Nat), ∃ j, (up tb st sh x a).2.2 = a + j ∧ (up tb st' sh x b).2.2 = b + j ∧ ∀ (η η' : List Value), (∀ (i : Nat) (v : Value), η[a + i]? = some v → η'[b + i]? = some v) →
  (∀ (m : Mem) (vs : List Value), RL tb η m (up tb st sh x a).1 vs → RL tb η' m (up tb st' sh x b).1 vs) ∧ ∀ (m : Mem) (w : World) (F : Nat → Prop), Sep m w (its tb η (up tb st sh x a).2.1) F → Sep m w (its tb η' (up tb st' sh x b).2.1) F
section
variable {tb : Tab} {st st' : Nat}
theorem upsh_own {t : Nat} {s : Sh} (ih : UpSh tb st st' s) : UpSh tb st st' (.own t s) := by
  intro x a b
  obtain ⟨j, h1, h2, h3⟩ := ih x (a + 1) (b + 1)
  refine ⟨j + 1, ?_, ?_, fun η η' hη => ?_⟩
  · show (up tb st s x (a + 1)).2.2 = _; rw [h1]; omega
  · show (up tb st' s x (b + 1)).2.2 = _; rw [h2]; omega
  · obtain ⟨k1, k2⟩ := h3 η η' (fun i v e => by rw [show b + 1 + i = b + (i + 1) by omega]; exact hη (i + 1) v (by rw [show a + (i + 1) = a + 1 + i by omega]; exact e))
    refine ⟨fun m vs h => ?_, fun m w F h => ?_⟩
    · obtain ⟨v, rfl, g, e1, e2⟩ := RL.one (show RL tb η m [.ptr a 0] vs from h)
      exact RL.mk1 (a := .ptr b 0) ⟨g, hη 0 _ e1, e2⟩
    · obtain ⟨F1, F2, ⟨g, cs, e1, e2, e3⟩, e4, e5⟩ := h
      exact ⟨F1, F2, ⟨g, cs, hη 0 _ e1, k1 m cs e2, e3⟩, k2 m w F2 e4, e5⟩
theorem upsh_row {n t : Nat} : UpSh tb st st' (.row n t) := by
  intro x a b
  refine ⟨1, rfl, rfl, fun η η' hη => ⟨fun m vs h => ?_, fun m w F h => ?_⟩⟩
  · obtain ⟨v, rfl, e1, e2⟩ := RL.one (show RL tb η m [.row a] vs from h)
    exact RL.mk1 (a := .row b) ⟨hη 0 _ e1, e2⟩
  · obtain ⟨F1, F2, ⟨A, c, e1, e2⟩, e4, e5⟩ := h
    exact ⟨F1, F2, ⟨A, c, hη 0 _ e1, e2⟩, e4, e5⟩
theorem upsh_gen {n : Nat} : UpSh tb st st' (.gen n) := by
  intro x a b
  refine ⟨1, rfl, rfl, fun η η' hη => ⟨fun m vs h => ?_, fun m w F h => ?_⟩⟩
  · obtain ⟨v, rfl, e1, e2⟩ := RL.one (show RL tb η m [.row a] vs from h)
    exact RL.mk1 (a := .row b) ⟨hη 0 _ e1, e2⟩
  · obtain ⟨F1, F2, ⟨v, u, ⟨e1, e2⟩, e3⟩, e4, e5⟩ := h
    exact ⟨F1, F2, ⟨v, u, ⟨hη 0 _ e1, hη 0 _ e2⟩, e3⟩, e4, e5⟩
theorem upsh_agg {s : Sh} (ih : UpSh tb st st' s) : UpSh tb st st' (.agg s) := by
  intro x a b
  obtain ⟨j, h1, h2, h3⟩ := ih x a b
  refine ⟨j, h1, h2, fun η η' hη => ?_⟩
  obtain ⟨k1, k2⟩ := h3 η η' hη
  refine ⟨fun m vs h => ?_, k2⟩
  obtain ⟨v, rfl, cs, e1, e2⟩ := RL.one (show RL tb η m [.agg (up tb st s x a).1] vs from h)
  exact RL.mk1 (a := .agg (up tb st' s x b).1) ⟨cs, e1, k1 m cs e2⟩
theorem upsh_fn {f k : Nat} {s : Sh} (ih : UpSh tb st st' s) : UpSh tb st st' (.fn f k s) := by
  intro x a b
  obtain ⟨j, h1, h2, h3⟩ := ih x a b
  refine ⟨j, h1, h2, fun η η' hη => ?_⟩
  obtain ⟨k1, k2⟩ := h3 η η' hη
  refine ⟨fun m vs h => ?_, k2⟩
  obtain ⟨v, rfl, xs, ys, e1, e2, e3⟩ := RL.one (show RL tb η m [.fn f ((up tb st s x a).1.take k) ((up tb st s x a).1.drop k)] vs from h)
  have h4 := e2.app e3
  rw [List.take_append_drop] at h4
  have h5 := k1 m _ h4
  have hl1 := h4.len
  have hl2 := h5.len
  refine RL.mk1 (a := .fn f ((up tb st' s x b).1.take k) ((up tb st' s x b).1.drop k)) ⟨xs, ys, e1, ?_, ?_⟩
  · have h6 := h5.take k
    have e4 : xs.length = ((up tb st s x a).1.take k).length := e2.len
    rw [List.length_take] at e4
    by_cases hk : k ≤ (up tb st s x a).1.length
    · rwa [List.take_left' (by omega)] at h6
    · have : ys = [] := by
        have := e3.len
        rw [List.length_drop] at this
        exact List.length_eq_zero_iff.1 (by omega)
      subst this
      rw [List.append_nil] at h6
      rwa [List.take_of_length_le (by omega : xs.length ≤ k)] at h6
  · have h6 := h5.drop k
    have e4 : xs.length = ((up tb st s x a).1.take k).length := e2.len
    rw [List.length_take] at e4
    by_cases hk : k ≤ (up tb st s x a).1.length
    · rwa [List.drop_left' (by omega)] at h6
    · have : ys = [] := by
        have := e3.len
        rw [List.length_drop] at this
        exact List.length_eq_zero_iff.1 (by omega)
      subst this
      rw [List.append_nil] at h6
      rwa [List.drop_of_length_le (by omega : xs.length ≤ k)] at h6
theorem upsh_alt {a b : Sh} (iha : UpSh tb st st' a) (ihb : UpSh tb st st' b) : UpSh tb st st' (.alt a b) := by
  intro x
  cases x with
  | inl y => exact iha y
  | inr y => exact ihb y
theorem upsh_cons {hd r : Sh} (ih1 : UpSh tb st st' hd) (ih2 : UpSh tb st st' r) : UpSh tb st st' (.cons hd r) := by
  intro x a b
  unfold up
  simp only [Sh.ty] at x
  generalize hi : r.isNil = i at x ⊢
  cases i with
  | true => exact ih1 x a b
  | false =>
    obtain ⟨y, z⟩ := x
    obtain ⟨j, h1, h2, h3⟩ := ih1 y a b
    obtain ⟨j2, k1, k2, k3⟩ := ih2 z (a + j) (b + j)
    simp only [upC]
    generalize up tb st hd y a = u at h1 h3
    generalize up tb st' hd y b = u' at h2 h3
    obtain ⟨as, σ, c⟩ := u
    obtain ⟨as', σ', c'⟩ := u'
    simp only at h1 h2 h3
    subst h1 h2
    simp only
    generalize up tb st r z (a + j) = u at k1 k3
    generalize up tb st' r z (b + j) = u' at k2 k3
    obtain ⟨bs, τ, c⟩ := u
    obtain ⟨bs', τ', c'⟩ := u'
    simp only at k1 k2 k3 ⊢
    subst k1 k2
    refine ⟨j + j2, by omega, by omega, fun η η' hη => ?_⟩
    obtain ⟨q1, q2⟩ := h3 η η' hη
    obtain ⟨r1, r2⟩ := k3 η η' (fun i v e => by rw [Nat.add_assoc] at e ⊢; exact hη _ v e)
    refine ⟨fun m vs h => ?_, fun m w F h => ?_⟩
    · obtain ⟨v1, v2, rfl, e1, e2⟩ := h.inv
      exact (q1 m v1 e1).app (r1 m v2 e2)
    · rw [its_app] at h ⊢
      obtain ⟨F1, F2, e1, e2, e3⟩ := Sep.app.1 h
      exact Sep.app.2 ⟨F1, F2, q2 m w F1 e1, r2 m w F2 e2, e3⟩
theorem upsh_flat {sh : Sh} {l : sh.ty tb.T → List (AV tb.T)} (h : ∀ st x c, up tb st sh x c = (l x, [], c)) (hf : ∀ x (η η' : List Value) m vs, RL tb η m (l x) vs → RL tb η' m (l x) vs) : UpSh tb st st' sh := by
  intro x a b
  refine ⟨0, by rw [h]; rfl, by rw [h]; rfl, fun η η' hη => ⟨fun m vs hh => ?_, fun m w F hh => ?_⟩⟩
  · rw [h] at hh ⊢; exact hf x η η' m vs hh
  · rw [h] at hh ⊢; exact hh
theorem upsh {tb : Tab} (T : TabOk tb) (st st' : Nat) : ∀ sh : Sh, UpSh tb st st' sh
  | .i64 => upsh_flat (l := fun x => [.i64 x]) (fun _ _ _ => rfl) (fun _ _ _ _ _ h => h)
  | .u8 => upsh_flat (l := fun x => [.u8 x]) (fun _ _ _ => rfl) (fun _ _ _ _ _ h => h)
  | .u32 => upsh_flat (l := fun x => [.u32 x]) (fun _ _ _ => rfl) (fun _ _ _ _ _ h => h)
  | .u64 => upsh_flat (l := fun x => [.u64 x]) (fun _ _ _ => rfl) (fun _ _ _ _ _ h => h)
  | .bool => upsh_flat (l := fun x => [.bool x]) (fun _ _ _ => rfl) (fun _ _ _ _ _ h => h)
  | .str => upsh_flat (l := fun x => [.str x]) (fun _ _ _ => rfl) (fun _ _ _ _ _ h => h)
  | .nilp => upsh_flat (l := fun x => [.nilp]) (fun _ _ _ => rfl) (fun _ _ _ _ _ h => h)
  | .sl n => upsh_flat (l := fun x => [.sl n x]) (fun _ _ _ => rfl) (fun _ _ _ _ _ h => h)
  | .row n t => upsh_row
  | .gen n => upsh_gen
  | .own t s => upsh_own (upsh T st st' s)
  | .agg s => upsh_agg (upsh T st st' s)
  | .fn f k s => upsh_fn (upsh T st st' s)
  | .alt a b => upsh_alt (upsh T st st' a) (upsh T st st' b)
  | .pt n => upsh_flat (l := fun x => [.cells 0 (tb.ex n x)]) (fun _ _ _ => rfl) (fun x η η' m vs h => let ⟨v, e, A, cs, e1, e2, e3⟩ := RL.one h; e ▸ RL.mk1 (a := .cells 0 (tb.ex n x)) ⟨A, cs, e1, e2, T.fl e3⟩)
  | .lit l => upsh_flat (l := fun x => [.str l]) (fun _ _ _ => rfl) (fun _ _ _ _ _ h => h)
  | .nil => upsh_flat (l := fun x => []) (fun _ _ _ => rfl) (fun _ _ _ _ _ h => h)
  | .cons h r => upsh_cons (upsh T st st' h) (upsh T st st' r)
theorem up_le (tb : Tab) (st : Nat) : ∀ (sh : Sh) (x : sh.ty tb.T) (c : Nat), c ≤ (up tb st sh x c).2.2
  | .i64, _, c => Nat.le_refl c
  | .u8, _, c => Nat.le_refl c
  | .u32, _, c => Nat.le_refl c
  | .u64, _, c => Nat.le_refl c
  | .bool, _, c => Nat.le_refl c
  | .str, _, c => Nat.le_refl c
  | .nilp, _, c => Nat.le_refl c
  | .lit _, _, c => Nat.le_refl c
  | .pt _, _, c => Nat.le_refl c
  | .sl _, _, c => Nat.le_refl c
  | .nil, _, c => Nat.le_refl c
  | .row n t, x, c => Nat.le_succ c
  | .gen n, x, c => Nat.le_succ c
  | .own t s, x, c => Nat.le_trans (Nat.le_succ c) (up_le tb st s x (c + 1))
  | .agg s, x, c => up_le tb st s x c
  | .fn _ _ s, x, c => up_le tb st s x c
  | .alt a b, x, c => match x with
    | .inl y => up_le tb st a y c
    | .inr y => up_le tb st b y c
  | .cons hd r, x, c => by
    unfold up
    simp only [Sh.ty] at x
    generalize hi : r.isNil = i at x ⊢
    cases i with
    | true => exact up_le tb st hd x c
    | false =>
      obtain ⟨y, z⟩ := x
      have h1 := up_le tb st hd y c
      simp only [upC]
      generalize up tb st hd y c = u at h1
      obtain ⟨as, σ, c1⟩ := u
      have h2 := up_le tb st r z c1
      simp only
      generalize up tb st r z c1 = u at h2
      obtain ⟨bs, τ, c2⟩ := u
      exact Nat.le_trans h1 h2
/-- All that is new has the stamp. -/
theorem up_st (tb : Tab) (st : Nat) : ∀ (sh : Sh) (x : sh.ty tb.T) (c : Nat), ∀ e ∈ (up tb st sh x c).2.1, e.2.1 = st
  | .i64, _, _ => by intro e h; cases h
  | .u8, _, _ => by intro e h; cases h
  | .u32, _, _ => by intro e h; cases h
  | .u64, _, _ => by intro e h; cases h
  | .bool, _, _ => by intro e h; cases h
  | .str, _, _ => by intro e h; cases h
  | .nilp, _, _ => by intro e h; cases h
  | .lit _, _, _ => by intro e h; cases h
  | .pt _, _, _ => by intro e h; cases h
  | .sl _, _, _ => by intro e h; cases h
  | .nil, _, _ => by intro e h; cases h
  | .row n t, x, c => by
    intro e h
    have h : e ∈ [(c, st, DI.row n t x)] := h
    rw [List.mem_singleton] at h; rw [h]
  | .gen n, x, c => by
    intro e h
    have h : e ∈ [(c, st, DI.gen n x c)] := h
    rw [List.mem_singleton] at h; rw [h]
  | .own t s, x, c => by
    intro e h
    have h : e ∈ (c, st, DI.blk t (up tb st s x (c + 1)).1) :: (up tb st s x (c + 1)).2.1 := h
    rw [List.mem_cons] at h
    exact h.elim (fun h => by rw [h]) (up_st tb st s x (c + 1) e)
  | .agg s, x, c => up_st tb st s x c
  | .fn _ _ s, x, c => up_st tb st s x c
  | .alt a b, x, c => match x with
    | .inl y => up_st tb st a y c
    | .inr y => up_st tb st b y c
  | .cons hd r, x, c => by
    unfold up
    simp only [Sh.ty] at x
    generalize hi : r.isNil = i at x ⊢
    cases i with
    | true => exact up_st tb st hd x c
    | false =>
      obtain ⟨y, z⟩ := x
      have h1 := up_st tb st hd y c
      simp only [upC]
      generalize up tb st hd y c = u at h1
      obtain ⟨as, σ, c1⟩ := u
      have h2 := up_st tb st r z c1
      simp only
      generalize up tb st r z c1 = u at h2
      obtain ⟨bs, τ, c2⟩ := u
      intro e h
      rw [List.mem_append] at h
      exact h.elim (h1 e) (h2 e)
theorem lk_mem {α : Type} : ∀ {l : List (Nat × Nat × α)} {t : Nat} {p : Nat × α}, lk l t = some p → (t, p) ∈ l
  | [], _, _, h => by cases h
  | (i, st, v) :: r, t, p, h => by
    simp only [lk] at h
    cases hb : Nat.beq i t with
    | true => rw [hb] at h; have := beq_t hb; subst this; cases h; exact List.mem_cons_self ..
    | false => rw [hb] at h; exact List.mem_cons_of_mem _ (lk_mem h)
theorem lk_app {α : Type} : ∀ {l r : List (Nat × Nat × α)} {t : Nat} {p : Nat × α}, lk (l ++ r) t = some p → lk l t = some p ∨ lk r t = some p
  | [], _, _, _, h => .inr h
  | (i, st, v) :: l, r, t, p, h => by
    simp only [List.cons_append, lk] at h ⊢
    cases hb : Nat.beq i t with
    | true => rw [hb] at h; exact .inl h
    | false => rw [hb] at h; exact lk_app h
/-- Packing takes out only. -/
theorem pk_sub : ∀ (sh : Sh) {as : List (AV tb.T)} {σ σ' : Sg tb.T} {x : sh.ty tb.T}, pk tb sh as σ = some (x, σ') → ∀ t p, lk σ' t = some p → lk σ t = some p
  | .i64, as, σ, σ', x, h => by unfold pk at h; split at h <;> cases h; exact fun _ _ e => e
  | .u8, as, σ, σ', x, h => by unfold pk at h; split at h <;> cases h; exact fun _ _ e => e
  | .u32, as, σ, σ', x, h => by unfold pk at h; split at h <;> cases h; exact fun _ _ e => e
  | .u64, as, σ, σ', x, h => by unfold pk at h; split at h <;> cases h; exact fun _ _ e => e
  | .bool, as, σ, σ', x, h => by unfold pk at h; split at h <;> cases h; exact fun _ _ e => e
  | .str, as, σ, σ', x, h => by unfold pk at h; split at h <;> cases h; exact fun _ _ e => e
  | .nilp, as, σ, σ', x, h => by unfold pk at h; split at h <;> cases h; exact fun _ _ e => e
  | .nil, as, σ, σ', x, h => by unfold pk at h; split at h <;> cases h; exact fun _ _ e => e
  | .sl n, as, σ, σ', x, h => by
    unfold pk at h
    split at h
    · split at h <;> cases h; exact fun _ _ e => e
    · cases h; exact fun _ _ e => e
    · cases h
  | .row n t, as, σ, σ', x, h => by
    unfold pk at h
    split at h
    · rename_i id
      split at h
      · rename_i n' t' l hl
        cases hb : Nat.beq t' t with
        | false => rw [hb] at h; cases h
        | true =>
          rw [hb] at h
          simp only [cond_true] at h
          split at h
          · obtain ⟨_, h'⟩ := Prod.mk.inj (Option.some.inj h)
            subst h'
            exact fun _ _ e => (lk_del e).2
          · cases h
      · rename_i t' k c hl
        cases hb : (Nat.beq t' t && Nat.ble k 137438953472) with
        | false => rw [hb] at h; cases h
        | true =>
          rw [hb] at h
          simp only [cond_true] at h
          split at h
          · obtain ⟨_, h'⟩ := Prod.mk.inj (Option.some.inj h)
            subst h'
            exact fun _ _ e => (lk_del e).2
          · cases h
      · cases h
    · cases h; exact fun _ _ e => e
    · cases h
  | .own t s, as, σ, σ', x, h => by
    obtain ⟨id, st', c, rfl, hl, h⟩ := pkOwn_some tb (show pkOwn tb t as σ (pk tb s) = some (x, σ') from h)
    exact fun t p e => (lk_del (pk_sub s h t p e)).2
  | .agg s, as, σ, σ', x, h => by
    obtain ⟨c, rfl, h⟩ := pkAgg_some tb (show pkAgg tb as (fun c => pk tb s c σ) = some (x, σ') from h)
    exact pk_sub s h
  | .fn f k s, as, σ, σ', x, h => by
    obtain ⟨l, c, rfl, hk, h⟩ := pkFn_some tb (show pkFn tb f k as (fun c => pk tb s c σ) = some (x, σ') from h)
    exact pk_sub s h
  | .gen n, as, σ, σ', x, h => by
    rcases pkGen_some tb (show pkGen tb n as σ = some (x, σ') from h) with ⟨id, st', rfl, hl, h2⟩ | ⟨d, rfl, hd, h1, h2⟩
    · have h2 : σ' = del σ id := h2
      subst h2
      exact fun _ _ e => (lk_del e).2
    · have h2 : σ' = σ := h2
      subst h2
      exact fun _ _ e => e
  | .pt n, as, σ, σ', x, h => by
    obtain ⟨l, rfl, hy, h2⟩ := pkPt_some tb (show pkPt tb n as σ = some (x, σ') from h)
    have h2 : σ' = σ := h2
    subst h2
    exact fun _ _ e => e
  | .lit l, as, σ, σ', x, h => by
    unfold pk at h; split at h
    · rename_i y
      cases hb : (y == l) with
      | false => rw [hb] at h; cases h
      | true => rw [hb] at h; cases h; exact fun _ _ e => e
    · cases h
  | .alt a b, as, σ, σ', x, h => by
    rcases pkAlt_some (show pkAlt (pk tb a as σ) (fun _ => pk tb b as σ) = some (x, σ') from h) with ⟨y, h1, _⟩ | ⟨y, h1, _⟩
    · exact pk_sub a h1
    · exact pk_sub b h1
  | .cons hd r, as, σ, σ', x, h => by
    obtain ⟨a, as, rfl, hh⟩ := pkCons_some tb (show pkCons tb r.isNil as σ (pk tb hd) (pk tb r) = some (x, σ') from h)
    clear h
    have h := hh
    clear hh
    unfold pkC at h
    cases h1 : pk tb hd [a] σ with
    | none => rw [h1] at h; cases h
    | some q =>
      obtain ⟨y, σ1⟩ := q
      rw [h1] at h
      simp only [Sh.ty] at x h
      generalize hi : r.isNil = i at x h
      cases i with
      | true =>
        cases hb : as.isEmpty with
        | false => simp only [hb] at h; cases h
        | true =>
          simp only [hb, cond_true, Option.some.injEq, Prod.mk.injEq] at h
          obtain ⟨_, rfl⟩ := h
          exact pk_sub hd h1
      | false =>
        simp only at h
        cases h2 : pk tb r as σ1 with
        | none => rw [h2] at h; cases h
        | some q2 =>
          obtain ⟨z, σ2⟩ := q2
          rw [h2] at h
          simp only [Option.some.injEq, Prod.mk.injEq] at h
          obtain ⟨_, rfl⟩ := h
          exact fun t p e => pk_sub hd h1 t p (pk_sub r h2 t p e)
end
/-! ### What is asked to be fixed is made so -/
section
variable (tb : Tab)
def needF : Sh → List (AV tb.T) → Sg tb.T → Option Nat
  | .sl _, as, _ => match as with
    | [.row id] => some id
    | _ => none
  | .agg s, as, σ => match as with
    | [.agg l] => needF s l σ
    | _ => none
  | .fn _ _ s, as, σ => match as with
    | [.fn _ l c] => needF s (l ++ c) σ
    | _ => none
  | .own _ s, as, σ => match as with
    | [.ptr id _] => match lk σ id with
      | some (_, .blk _ c) => needF s c σ
      | _ => none
    | _ => none
  | .alt a b, as, σ => match needF a as σ with
    | some id => some id
    | none => needF b as σ
  | .cons h r, as, σ => match as with
    | [] => none
    | a :: as => match needF h [a] σ with
      | some id => some id
      | none => needF r as σ
  | _, _, _ => none
/-- Literals that are to be rows of a kind. -/
def needG : Sh → List (AV tb.T) → Sg tb.T → Option Nat
  | .gen _, as, σ => match as with
    | [.row id] => match lk σ id with
      | some (_, .lit _ _ _) => some id
      | _ => none
    | _ => none
  | .agg s, as, σ => match as with
    | [.agg l] => needG s l σ
    | _ => none
  | .own _ s, as, σ => match as with
    | [.ptr id _] => match lk σ id with
      | some (_, .blk _ c) => needG s c σ
      | _ => none
    | _ => none
  | .cons h r, as, σ => match as with
    | [] => none
    | a :: as => match needG h [a] σ with
      | some id => some id
      | none => needG r as σ
  | _, _, _ => none
def prepF0 (sh : Sh) : Nat → List (AV tb.T) → S tb.T → Option (List (AV tb.T) × S tb.T)
  | 0, _, _ => none
  | f + 1, as, s => match needG tb sh as s.σ with
    | some id => match litD tb s id with
      | some s' => prepF0 sh f as s'
      | none => none
    | none => match needF tb sh as s.σ with
      | none => some (as, s)
      | some id => match frz tb s id with
        | some (b, s') => prepF0 sh f (subL id b as) s'
        | none => none
def prepF (sh : Sh) (f : Nat) (as : List (AV tb.T)) (s : S tb.T) : Option (List (AV tb.T) × S tb.T) := prepF0 tb sh f as (closeAll tb s)
variable {tb} {bs : Bs} {w : World} {κc : Kn}
theorem prepF0_ok (T : TabOk tb) (sh : Sh) : ∀ (f : Nat) {a a' : List (AV tb.T)} {s s' : S tb.T} {η : List Value} {m : Mem}, prepF0 tb sh f a s = some (a', s') → Wd tb bs η m s w → KR tb η m s.κ κc → ∀ {vs : List Value}, RL tb η m a vs → FzPost tb bs s s' η m κc w a' vs
  | 0, a, a', s, s', η, m, h, hw, hk, vs, hr => by cases h
  | f + 1, a, a', s, s', η, m, h, hw, hk, vs, hr => by
    simp only [prepF0] at h
    split at h
    · rename_i id hid
      split at h
      · rename_i s1 hl
        obtain ⟨e1, e2, e3⟩ := litD_ok T hl hw
        have hk1 : KR tb η m s1.κ κc := by rw [e1]; exact hk
        exact FzPost.step e2 (Sub.refl _) (prepF0_ok T sh f h e3 hk1 hr)
      · cases h
    · split at h
      · cases h; exact ⟨Ext.refl _, m, Sub.refl _, hk, hw, hr⟩
      · rename_i id hid
        split at h
        · rename_i b s1 hf
          obtain ⟨h1, m1, h2, h3, h4, h5⟩ := frz_ok T hf hw hk
          exact FzPost.step h1 h2 (prepF0_ok T sh f h h4 h3 (subL_ok (Le.refl _) h2 h5 a hr))
        · cases h
theorem prepF_ok (T : TabOk tb) (sh : Sh) (f : Nat) {a a' : List (AV tb.T)} {s s' : S tb.T} {η : List Value} {m : Mem} (h : prepF tb sh f a s = some (a', s')) (hw : Wd tb bs η m s w) (hk : KR tb η m s.κ κc) {vs : List Value} (hr : RL tb η m a vs) : FzPost tb bs s s' η m κc w a' vs := by
  obtain ⟨e1, e2, e3⟩ := closeL_ok T (holesL tb s.σ) hw
  have hk1 : KR tb η m (closeAll tb s).κ κc := by unfold closeAll; rw [e1]; exact hk
  exact FzPost.step e2 (Sub.refl _) (prepF0_ok T sh f h e3 hk1 hr)
end

/-! ### Contracts -/
structure Con (T : Nat → Type) where
  f : FuncId
  ar : Sh
  os : Sh
  nr : Nat
  bk : List (Nat × TypeId)
  rk : List Nat
  F : ar.ty T → Option (os.ty T)
def resA {T : Nat → Type} (l : List (AV T)) : AV T := match l with
  | [a] => a
  | l => .tup l
/-- The blocks that come back. -/
def bkI {T : Nat → Type} (as : List (AV T)) (st : Nat) : List (Nat × TypeId) → List (AV T) → Sg T
  | (j, t) :: bk, b :: bs => match as[j]?, b with
    | some (.ptr id _), .agg c => (id, st, .blk t c) :: bkI as st bk bs
    | _, _ => bkI as st bk bs
  | _, _ => []
def ptrOf : Value → Option Nat
  | .pointer (some a) => some a.block
  | _ => none
/-- The same, of the machine's. -/
def bkV (vs : List Value) : List (Nat × TypeId) → List Value → List Item
  | (j, t) :: bk, b :: bs => match vs[j]?.bind ptrOf, b with
    | some g, .agg cs => blkI g cs.toList t :: bkV vs bk bs
    | _, _ => bkV vs bk bs
  | _, _ => []
/-- A call, carried out: its result, the world. -/
def CallTo (P : Program) (f : FuncId) (args : Array Value) (w : World) (Φ : Value → World → Prop) : Prop :=
  ((callFunc f args).run P w = .ok (.enter f args) w ∧ Calls P f args w fun e w' => ∃ v, e = .returned v ∧ Φ v w') ∨ ∃ v w', (callFunc f args).run P w = .ok (.value v) w' ∧ Φ v w'
def ConOk (P : Program) (tb : Tab) (cn : Con tb.T) : Prop := ∀ (st : Nat) (x : cn.ar.ty tb.T) (y : cn.os.ty tb.T), cn.F x = some y → ∀ (η : List Value) (m : Mem) (w : World) (F : Nat → Prop) (vals : List Value),
  RL tb η m (up tb st cn.ar x 0).1 vals → η.length = (up tb st cn.ar x 0).2.2 → Has m w → Glob tb m → Sep m w (its tb η (up tb st cn.ar x 0).2.1) F → (∀ k, F k → m k = none) →
  CallTo P cn.f vals.toArray w fun v w' => ∃ (η2 : List Value) (m' : Mem) (rv bv : List Value), v = packV rv ∧ rv.length = cn.nr ∧ RL tb (η ++ η2) m' (up tb st cn.os y η.length).1 (rv ++ bv) ∧ (η ++ η2).length = (up tb st cn.os y η.length).2.2 ∧
    St w F m m' (bkV vals cn.bk bv ++ its tb (η ++ η2) (up tb st cn.os y η.length).2.1) w' ∧ bv.drop cn.bk.length = cn.rk.map (fun j => vals[j]?.getD undef)
/-- Rows that come back: they are known by their new numbers. -/
def backS {T : Nat → Type} (avs : List (AV T)) : List Nat → List (AV T) → S T → S T
  | j :: rk, a :: as, s => match avs[j]?, a with
    | some (.row id), .row id' => backS avs rk as (chg s id (.row id'))
    | _, _ => backS avs rk as s
  | _, _, s => s
section
variable (tb : Tab) {ρ : Type}
def runC (cn : Con tb.T) (avs : List (AV tb.T)) (s : S tb.T) (x : cn.ar.ty tb.T) (σ' : Sg tb.T) (k : KO tb.T ρ) : Option ρ := (cn.F x).bind fun y => split cn.os y fun y => match up tb s.d cn.os y s.c with
  | (as, σo, c') => k (resA (as.take cn.nr)) (backS avs cn.rk (as.drop (cn.nr + cn.bk.length)) { κ := s.κ, σ := bkI avs s.d cn.bk (as.drop cn.nr) ++ (σo ++ σ'), c := c', d := s.d + 1 })
def tryC (f : FuncId) (avs : List (AV tb.T)) (s : S tb.T) (k : KO tb.T ρ) : List (Con tb.T) → Option ρ
  | [] => none
  | cn :: r => cond (Nat.beq cn.f f) (match prepF0 tb cn.ar 20 avs s with
    | some (avs', s') => match pk tb cn.ar avs' s'.σ with
      | some (x, σ') => runC tb cn avs' s' x σ' k
      | none => tryC f avs s k r
    | none => tryC f avs s k r) (tryC f avs s k r)
end
section
variable {P : Program} {tb : Tab} {bs : Bs} {η : List Value} {m : Mem} {s : S tb.T} {w : World} {κc : Kn} {B : Code} {n : Cx} {p : List Nat} {i : Nat} {d : Option Nat} {ρ' : Type} {k : KO tb.T ρ'} {ans : ρ'}
theorem bk_ok {η : List Value} {m m' : Mem} {w : World} {as : List (AV tb.T)} {vs : List Value} {st : Nat} (h : RL tb η m as vs) {η' : List Value} (hη : Le η η') : ∀ (bk : List (Nat × TypeId)) {bs : List (AV tb.T)} {bv : List Value}, RL tb η' m' bs bv → ∀ {F : Nat → Prop}, Sep m' w (bkV vs bk bv) F → ∃ F', (∀ k, F' k → F k) ∧ Sep m' w (its tb η' (bkI as st bk bs)) F'
  | [], bs, bv, hr, F, hs => ⟨fun _ => False, fun _ e => e.elim, fun _ e => e⟩
  | (j, t) :: bk, [], bv, hr, F, hs => ⟨fun _ => False, fun _ e => e.elim, fun _ e => e⟩
  | (j, t) :: bk, b :: bs, bv, ⟨v, r, h1, h2, h3⟩, F, hs => by
    subst h1
    simp only [bkI]
    have skip : ∀ {F : Nat → Prop}, Sep m' w (bkV vs ((j, t) :: bk) (v :: r)) F → ∃ F1, (∀ k, F1 k → F k) ∧ Sep m' w (bkV vs bk r) F1 := by
      intro F hs
      simp only [bkV] at hs
      split at hs
      · obtain ⟨F1, F2, e1, e2, e3, e4⟩ := hs
        exact ⟨F2, fun k e => (e4 k).2 (.inr e), e2⟩
      · exact ⟨F, fun _ e => e, hs⟩
    split
    · rename_i id o c hj
      obtain ⟨u, hu, g, e1, e2⟩ := h.get hj
      obtain ⟨cs, e3, e4⟩ := h2
      subst e3
      simp only [bkV, hu, e2, Option.bind_some, ptrOf] at hs
      obtain ⟨F1, F2, k1, k2, k3, k4⟩ := hs
      obtain ⟨F', q1, q2⟩ := bk_ok h hη bk h3 k2
      exact ⟨fun k => F1 k ∨ F' k, fun k e => (k4 k).2 (e.elim .inl (fun e => .inr (q1 k e))), F1, F', ⟨g, cs, hη _ _ e1, e4, by simpa using k1⟩, q2, fun k a b => k3 k a (q1 k b), fun k => Iff.rfl⟩
    · obtain ⟨F1, q1, q2⟩ := skip hs
      obtain ⟨F', r1, r2⟩ := bk_ok h hη bk h3 q2
      exact ⟨F', fun k e => q1 k (r1 k e), r2⟩
theorem bk_lk {as : List (AV tb.T)} {st : Nat} : ∀ (bk : List (Nat × TypeId)) (bs : List (AV tb.T)) {t : Nat} {p : Nat × DI tb.T}, lk (bkI as st bk bs) t = some p → p.1 = st
  | [], _, _, _, h => by cases h
  | (j, ty) :: bk, [], _, _, h => by cases h
  | (j, ty) :: bk, b :: bs, t, p, h => by
    simp only [bkI] at h
    split at h
    · rename_i id o c _
      simp only [lk] at h
      cases hb : Nat.beq id t with
      | true => rw [hb] at h; cases h; rfl
      | false => rw [hb] at h; exact bk_lk bk bs h
    · exact bk_lk bk bs h
theorem resA_ok {l : List (AV tb.T)} {vs : List Value} (h : RL tb η m l vs) : R tb η m (resA l) (packV vs) := by
  unfold resA
  split
  · obtain ⟨v, rfl, hv⟩ := h.one
    exact hv
  · rename_i hne
    refine ⟨vs, ?_, h⟩
    have hl := h.len
    match vs with
    | [] => rfl
    | [v] =>
      exfalso
      match l with
      | [] => simp at hl
      | [a] => exact hne a rfl
      | a :: b :: r => simp at hl
    | u :: v :: r => rfl
theorem backS_ok {avs : List (AV tb.T)} {vals : List Value} (ha : RL tb η m avs vals) {w' : World} : ∀ (rk : List Nat) {as : List (AV tb.T)} {vs : List Value} {s : S tb.T}, RL tb η m as vs → vs = rk.map (fun j => vals[j]?.getD undef) → Wd tb bs η m s w' → KR tb η m s.κ κc →
    Ext s (backS avs rk as s) ∧ Wd tb bs η m (backS avs rk as s) w' ∧ KR tb η m (backS avs rk as s).κ κc
  | [], as, vs, s, _, _, hw, hk => by cases as <;> exact ⟨Ext.refl _, hw, hk⟩
  | j :: rk, [], vs, s, _, _, hw, hk => ⟨Ext.refl _, hw, hk⟩
  | j :: rk, a :: as, vs, s, ⟨v, r, e1, e2, e3⟩, h, hw, hk => by
    subst e1
    rw [List.map_cons, List.cons.injEq] at h
    obtain ⟨h1, h2⟩ := h
    unfold backS
    split
    · rename_i id id' hj
      obtain ⟨u, hu, hr⟩ := ha.get hj
      rw [hu, Option.getD_some] at h1
      subst h1
      have hx : St bs.w0 bs.F0 bs.m0 m (its tb η (del s.σ id)) w' := St_sub hw.st fun F hF => its_del s.σ id hF
      obtain ⟨k1, k2⟩ := chg_ok (b := .row id') hw hk (Sub.refl _) hx (fun u ⟨q1, q2⟩ => by
        have := hr.1
        rw [this] at q1
        cases q1
        exact e2)
      obtain ⟨g1, g2, g3⟩ := backS_ok ha rk e3 h2 k2 k1
      exact ⟨chg_ext.trans g1, g2, g3⟩
    · exact backS_ok ha rk e3 h2 hw hk
/-- One call, by one contract. -/
theorem runC_step (T : TabOk tb) (hw : Wd tb bs η m s w) (hk : KR tb η m s.κ κc) {cn : Con tb.T} (hok : ConOk P tb cn) {avs : List (AV tb.T)} {vals : List Value} (fo : fetch B n p i κc = some (d, callFunc cn.f vals.toArray)) (ha : RL tb η m avs vals)
    {x : cn.ar.ty tb.T} {σ' : Sg tb.T} (hp : pk tb cn.ar avs s.σ = some (x, σ')) (h : runC tb cn avs s x σ' k = some ans) : Step P B n p i κc w (YX tb bs η m d s k ans κc) := by
  unfold runC at h
  obtain ⟨y, hy, h⟩ := bindE h
  rw [split_eq] at h
  obtain ⟨F, f1, f2, f3⟩ := hw.st.sep
  obtain ⟨η1, e1, e2, F1, F2, e3, e4, e5, e6⟩ := pk_ok T s.d cn.ar hp ha f1 []
  simp only [List.nil_append] at e1 e2 e3
  have H0 : St bs.w0 bs.F0 bs.m0 m (its tb η1 (up tb s.d cn.ar x 0).2.1 ++ its tb η σ') w :=
    ⟨hw.st.kp, hw.st.sub, hw.st.has, hw.st.new, fun k => F1 k ∨ F2 k, Sep.app.2 ⟨F1, F2, e3, e4, e5, fun k => Iff.rfl⟩, fun k e => f2 k (e6 k e), fun k e => f3 k (e6 k e)⟩
  obtain ⟨F', g1, g2, g3⟩ := St.call _ H0
  have hc := hok s.d x y hy η1 m w F' vals e2 e1.symm hw.st.has hw.gl g1 g2
  have fin : ∀ v w', (∃ (η2 : List Value) (m' : Mem) (rv bv : List Value), v = packV rv ∧ rv.length = cn.nr ∧ RL tb (η1 ++ η2) m' (up tb s.d cn.os y η1.length).1 (rv ++ bv) ∧ (η1 ++ η2).length = (up tb s.d cn.os y η1.length).2.2 ∧
      St w F' m m' (bkV vals cn.bk bv ++ its tb (η1 ++ η2) (up tb s.d cn.os y η1.length).2.1) w' ∧ bv.drop cn.bk.length = cn.rk.map (fun j => vals[j]?.getD undef)) → YX tb bs η m d s k ans κc (putk d v κc) w' := by
    rintro v w' ⟨η2, m', rv, bv, rfl, hn, q1, q2, q3, q4⟩
    have H2 := g3 m' _ w' q3
    obtain ⟨j, j1, j2, j3⟩ := upsh T s.d s.d cn.os y η1.length s.c
    obtain ⟨k1, k2⟩ := j3 (η1 ++ η2) (η ++ η2) (fun i v e => by
      rw [List.getElem?_append_right (by omega), Nat.add_sub_cancel_left] at e
      rw [← hw.len, List.getElem?_append_right (by omega), Nat.add_sub_cancel_left]
      exact e)
    have hr := k1 m' _ q1
    rw [List.length_append, j1] at q2
    have hsub : Sub m m' := q3.sub
    generalize hu : up tb s.d cn.os y s.c = u at h hr j2 k2
    obtain ⟨as, σo, c'⟩ := u
    simp only at h hr j2 k2
    obtain ⟨v1, v2, ev, hr1, hr2⟩ : ∃ v1 v2, rv ++ bv = v1 ++ v2 ∧ RL tb (η ++ η2) m' (as.take cn.nr) v1 ∧ RL tb (η ++ η2) m' (as.drop cn.nr) v2 := RL.inv (by rw [List.take_append_drop]; exact hr)
    have hlen := hr.len
    have hl1 := hr1.len
    rw [List.length_take] at hl1
    have hv : v1 = rv ∧ v2 = bv := by
      rw [List.length_append, hn] at hlen
      have : v1.length = rv.length := by omega
      exact (List.append_inj ev.symm this)
    obtain ⟨rfl, rfl⟩ := hv
    have hS : Ext s { κ := s.κ, σ := bkI avs s.d cn.bk (as.drop cn.nr) ++ (σo ++ σ'), c := c', d := s.d + 1 } := by
      refine ⟨?_, Nat.le_succ _, fun _ _ _ e _ => e, ?_⟩
      · show s.c ≤ c'; omega
      · intro t st v e l
        rcases lk_app e with e | e
        · have := bk_lk _ _ e
          simp only at this
          omega
        · rcases lk_app e with e | e
          · have h9 := up_st tb s.d cn.os y s.c
            rw [hu] at h9
            have := h9 _ (lk_mem e)
            simp only at this
            omega
          · exact pk_sub cn.ar hp _ _ e
    have hW : Wd tb bs (η ++ η2) m' { κ := s.κ, σ := bkI avs s.d cn.bk (as.drop cn.nr) ++ (σo ++ σ'), c := c', d := s.d + 1 } w' := by
      refine ⟨?_, hw.le.trans (Le.app _ _), ?_, Glob.mono hw.gl hsub⟩
      · show (η ++ η2).length = c'
        rw [List.length_append, hw.len]; omega
      · refine St_sub H2 fun F hF => ?_
        obtain ⟨G1, G2, t1, t2, t3, t4⟩ := Sep.app.1 hF
        obtain ⟨G3, G4, t5, t6, t7, t8⟩ := Sep.app.1 t1
        obtain ⟨G5, t9, t10⟩ := bk_ok (st := s.d) ha (Le.app η η2) cn.bk hr2 t5
        have t11 := k2 m' w' G4 t6
        have t12 := its_le (Le.app η η2) σ' t2
        refine ⟨fun k => G5 k ∨ (G4 k ∨ G2 k), fun k e => (t4 k).2 (e.elim (fun e => .inl ((t8 k).2 (.inl (t9 k e)))) (fun e => e.elim (fun e => .inl ((t8 k).2 (.inr e))) .inr)), ?_⟩
        rw [its_app, its_app]
        refine Sep.app.2 ⟨G5, fun k => G4 k ∨ G2 k, t10, Sep.app.2 ⟨G4, G2, t11, t12, fun k a b => t3 k ((t8 k).2 (.inr a)) b, fun k => Iff.rfl⟩, ?_, fun k => Iff.rfl⟩
        intro k a b
        exact b.elim (t7 k (t9 k a)) (t3 k ((t8 k).2 (.inl (t9 k a))))
    have hr3 : RL tb (η ++ η2) m' (as.drop (cn.nr + cn.bk.length)) (v2.drop cn.bk.length) := by
      rw [← List.drop_drop]; exact hr2.drop _
    obtain ⟨z1, z2, z3⟩ := backS_ok (κc := κc) (RL.mono (Le.app η η2) hsub avs ha) cn.rk hr3 q4 hW (hk.mono (Le.app _ _) hsub)
    exact ⟨_, _, packV v1, η ++ η2, m', h, hS.trans z1, rfl, Le.app _ _, hsub, resA_ok hr1, z3, z2⟩
  rcases hc with ⟨r1, r2⟩ | ⟨v, w', r1, r2⟩
  · exact enterR fo r1 r2 fin
  · exact runR fo r1 (fin v w' r2)
theorem tryC_step (T : TabOk tb) (hw : Wd tb bs η m s w) (hk : KR tb η m s.κ κc) {f : FuncId} {avs : List (AV tb.T)} {vals : List Value} (fo : fetch B n p i κc = some (d, callFunc f vals.toArray)) (ha : RL tb η m avs vals) : ∀ (cs : List (Con tb.T)), (∀ cn ∈ cs, ConOk P tb cn) → tryC tb f avs s k cs = some ans → Step P B n p i κc w (YX tb bs η m d s k ans κc)
  | [], _, h => by cases h
  | cn :: r, hc, h => by
    have next := tryC_step T hw hk fo ha r (fun c hm => hc c (List.mem_cons_of_mem _ hm))
    simp only [tryC] at h
    cases hb : Nat.beq cn.f f with
    | false => rw [hb] at h; exact next h
    | true =>
      have := beq_t hb
      subst this
      rw [hb] at h
      simp only [cond_true] at h
      split at h
      · rename_i avs' s1 hp
        split at h
        · rename_i x σ' hpk
          obtain ⟨h1, m1, h2, h3, h4, h5⟩ := prepF0_ok T cn.ar 20 hp hw hk ha
          exact Step.imp (runC_step T h4 h3 (hc cn (List.mem_cons_self ..)) fo h5 hpk h) (YX.pre h1 h2)
        · exact next h
      · exact next h
end
end Go.Proofs.YtbldeodchhfjfaaGreatDoor.K.E
