/- E, part 18: twins that the kernel can run. -/
import Derived.Test.YtbldeodchhfjfaaGreatDoorE17
set_option linter.unusedVariables false
set_option linter.unusedSimpArgs false
set_option linter.unusedSectionVars false
namespace Go.Proofs.YtbldeodchhfjfaaGreatDoor.K.E
open Go Go.RowKit

/-- What the one tells, the other tells. -/
def Tw {α : Type} (a b : Option α) : Prop := ∀ r, a = some r → b = some r
theorem Tw.rfl {α : Type} (a : Option α) : Tw a a := fun _ h => h
theorem Tw.cond {α : Type} (c : Bool) {a b a' b' : Option α} (h : Tw a b) (h' : Tw a' b') : Tw (cond c a a') (cond c b b') := by cases c <;> assumption
theorem Tw.bind {α β : Type} {a b : Option α} {f g : α → Option β} (h : Tw a b) (h' : ∀ x, Tw (f x) (g x)) : Tw (Option.bind a f) (Option.bind b g) := by
  intro r hr
  cases ha : a with
  | none => rw [ha] at hr; cases hr
  | some x => rw [ha] at hr; rw [h x ha]; exact h' x r hr
theorem Tw.bnd {σ ρ : Type} {a b : Option (Sum σ ρ)} {f g : σ → Option ρ} (h : Tw a b) (h' : ∀ x, Tw (f x) (g x)) : Tw (bnd a f) (bnd b g) := by
  intro r hr
  cases ha : a with
  | none => rw [ha] at hr; cases hr
  | some x =>
    rw [ha] at hr; rw [h x ha]
    cases x with
    | inl y => exact h' y r hr
    | inr y => exact hr
def loopF {σ ρ : Type} : Nat → (σ → Option (Sum σ ρ)) → σ → Option ρ
  | 0, _, _ => none
  | n + 1, f, s => match f s with
    | none => none
    | some (.inl s') => loopF n f s'
    | some (.inr r) => some r
theorem Tw.loop {σ ρ : Type} {f g : σ → Option (Sum σ ρ)} : ∀ (n : Nat) (s : σ), (∀ x, Tw (f x) (g x)) → Tw (loopF n f s) (loopO g s)
  | 0, s, h => fun r hr => by cases hr
  | n + 1, s, h => fun r hr => by
    unfold loopF at hr
    rw [loopO_eq]
    cases hf : f s with
    | none => rw [hf] at hr; cases hr
    | some x =>
      rw [hf] at hr
      rw [h s x hf]
      cases x with
      | inl s' => exact Tw.loop n s' h r hr
      | inr y => exact hr
theorem Tw.alt {A B C : Type} (x : A ⊕ B) {f f' : A → Option C} {g g' : B → Option C} (h : ∀ y, Tw (f y) (f' y)) (h' : ∀ y, Tw (g y) (g' y)) : Tw (altE x f g) (altE x f' g') := by
  cases x with
  | inl y => exact h y
  | inr y => exact h' y
theorem Tw.dup {α : Type} (t : Dp) {a b : Option α} (h : Tw a b) : Tw a (dup t b) := by rw [dup_eq]; exact h
theorem Tw.fork {α : Type} {a b c : Option α} (h : Tw a b) (h' : Tw a c) : Tw a (fork b c) := fun r hr => by rw [h r hr, h' r hr, fork_same]
theorem Tw.elim {A B C : Type} (x : A ⊕ B) {f f' : A → Option C} {g g' : B → Option C} (h : ∀ y, Tw (f y) (f' y)) (h' : ∀ y, Tw (g y) (g' y)) : Tw (Sum.elim f g x) (Sum.elim f' g' x) := by
  cases x with
  | inl y => exact h y
  | inr y => exact h' y
theorem Tw.map {α β : Type} (f : α → β) {a b : Option α} (h : Tw a b) : Tw (Option.map f a) (Option.map f b) := by
  intro r hr
  cases ha : a with
  | none => rw [ha] at hr; cases hr
  | some x => rw [ha] at hr; rw [h x ha]; exact hr
end Go.Proofs.YtbldeodchhfjfaaGreatDoor.K.E
