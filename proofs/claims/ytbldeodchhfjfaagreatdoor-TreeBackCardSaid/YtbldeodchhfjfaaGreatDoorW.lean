/- Words of the printed functions: laws for plain proofs. -/
import Derived.Test.YtbldeodchhfjfaaGreatDoorM2
set_option linter.unusedVariables false
set_option linter.unusedSimpArgs false
namespace Go.Proofs.YtbldeodchhfjfaaGreatDoor.K
open Go Go.RowKit

theorem chk_t {b : Bool} (h : b = true) : chk b = some () := by rw [h]; rfl
theorem chk_d {p : Prop} [Decidable p] (h : p) : chk (decide p) = some () := chk_t (decide_eq_true h)
theorem app_ok {α : Type} {l x : List α} (h : l.length + x.length ≤ 137438953472) : app l x = some (l ++ x) := if_pos h
theorem cat_ok {l x : List UInt8} (h : l.length + x.length ≤ 9223372036854775807) : cat l x = some (l ++ x) := if_pos h
theorem slc_ok {α : Type} {l : List α} {a b : Int} (h : 0 ≤ a ∧ a ≤ b ∧ b ≤ l.length) : slc l a b = some ((l.take b.toNat).drop a.toNat) := if_pos h
theorem idx_ok {α : Type} {l : List α} {i : Nat} {x : α} (h : l[i]? = some x) : idx l (i : Int) = some x := by unfold idx; rw [if_pos (by omega)]; exact h
theorem idx_nat {α : Type} (l : List α) (i : Nat) : idx l (i : Int) = l[i]? := by unfold idx; rw [if_pos (by omega)]; rfl
theorem wI {x : Int} (h : -9223372036854775808 ≤ x ∧ x ≤ 9223372036854775807) : IntKind.i64.wrap x = x := w64 h
theorem bnd_inl {ρ σ : Type} (s : σ) (k : σ → Option ρ) : bnd (some (.inl s)) k = k s := rfl
theorem bnd_inr {ρ σ : Type} (r : ρ) (k : σ → Option ρ) : bnd (some (.inr r)) k = some r := rfl
theorem lt_eq {α β : Type} (x : α) (k : α → β) : lt_ x k = k x := rfl

theorem loop_next {σ ρ : Type} {body : σ → Option (Sum σ ρ)} {s s' : σ} (h : body s = some (.inl s')) : loopO body s = loopO body s' := by rw [loopO_eq, h]
theorem loop_end {σ ρ : Type} {body : σ → Option (Sum σ ρ)} {s : σ} {r : ρ} (h : body s = some (.inr r)) : loopO body s = some r := by rw [loopO_eq, h]
/-- A loop over a list's places that looks for the first of some. -/
theorem loop_find {α ρ : Type} (l : List α) (body : Nat → Option (Sum Nat (Sum Unit ρ))) (p : Nat → α → Option ρ)
    (h : ∀ t x, l[t]? = some x → body t = some (match p t x with | some v => .inr (.inr v) | none => .inl (t + 1))) (hend : body l.length = some (.inr (.inl ()))) :
    ∀ k t, l.length - t = k → t ≤ l.length → loopO body t = some (match (l.drop t).zipIdx t |>.findSome? (fun y => p y.2 y.1) with | some v => .inr v | none => .inl ()) := by
  intro k
  induction k with
  | zero =>
    intro t h1 h2
    have : t = l.length := by omega
    subst this
    rw [loopO_eq, hend]
    simp
  | succ k ih =>
    intro t h1 h2
    have hlt : t < l.length := by omega
    rw [loopO_eq, h t _ (List.getElem?_eq_getElem hlt), List.drop_eq_getElem_cons hlt, List.zipIdx_cons, List.findSome?_cons]
    cases hp : p t l[t] with
    | some v => rfl
    | none =>
      show loopO body (t + 1) = _
      rw [ih (t + 1) (by omega) (by omega)]
theorem zipIdx_all {α ρ : Type} (p : α → Option ρ) : ∀ (l : List α) (t : Nat), (l.zipIdx t).findSome? (fun y => p y.1) = l.findSome? p
  | [], t => rfl
  | x :: l, t => by
    rw [List.zipIdx_cons, List.findSome?_cons, List.findSome?_cons]
    cases p x with
    | some v => rfl
    | none => exact zipIdx_all p l (t + 1)
/-- The same, where the place plays no part. -/
theorem loop_any {α ρ : Type} (l : List α) (body : Nat → Option (Sum Nat (Sum Unit ρ))) (p : α → Option ρ)
    (h : ∀ t x, l[t]? = some x → body t = some (match p x with | some v => .inr (.inr v) | none => .inl (t + 1))) (hend : body l.length = some (.inr (.inl ()))) :
    loopO body 0 = some (match l.findSome? p with | some v => .inr v | none => .inl ()) := by
  have := loop_find l body (fun _ x => p x) h hend l.length 0 (by omega) (by omega)
  rw [List.drop_zero, zipIdx_all] at this
  exact this
theorem find_if {α ρ : Type} (q : α → Bool) (v : ρ) : ∀ l : List α, l.findSome? (fun x => if q x then some v else none) = if l.any q then some v else none
  | [] => rfl
  | x :: l => by
    rw [List.findSome?_cons, List.any_cons]
    cases h : q x
    · simpa using find_if q v l
    · simp
/-- A loop over a list that gathers. -/
theorem loop_fold {α σ ρ : Type} (l : List α) (body : σ × Nat → Option (Sum (σ × Nat) ρ)) (f : σ → α → σ) (fin : σ → ρ) (I : σ → List α → Prop)
    (h : ∀ s t x, l[t]? = some x → I s (l.drop t) → body (s, t) = some (.inl (f s x, t + 1)) ∧ I (f s x) (l.drop (t + 1))) (hend : ∀ s, I s [] → body (s, l.length) = some (.inr (fin s))) :
    ∀ k t s, l.length - t = k → t ≤ l.length → I s (l.drop t) → loopO body (s, t) = some (fin ((l.drop t).foldl f s)) := by
  intro k
  induction k with
  | zero =>
    intro t s h1 h2 hI
    have : t = l.length := by omega
    subst this
    rw [List.drop_length] at hI
    rw [loopO_eq, hend s hI]
    simp
  | succ k ih =>
    intro t s h1 h2 hI
    have hlt : t < l.length := by omega
    obtain ⟨h3, h4⟩ := h s t _ (List.getElem?_eq_getElem hlt) hI
    rw [loopO_eq, h3]
    show loopO body (f s l[t], t + 1) = _
    rw [ih (t + 1) _ (by omega) (by omega) h4, List.drop_eq_getElem_cons hlt, List.foldl_cons]

end Go.Proofs.YtbldeodchhfjfaaGreatDoor.K
