/- E, part 21: twins of sorts. -/
import Derived.Test.YtbldeodchhfjfaaGreatDoorE18
import Derived.Test.YtbldeodchhfjfaaGreatDoorE19
set_option linter.unusedVariables false
namespace Go.Proofs.YtbldeodchhfjfaaGreatDoor.K.E

theorem all_congr {α : Type} {f g : α → Bool} : ∀ {l : List α}, (∀ x ∈ l, f x = g x) → l.all f = l.all g
  | [], _ => rfl
  | x :: l, h => by rw [List.all_cons, List.all_cons, h x (List.mem_cons_self ..), all_congr fun y hy => h y (List.mem_cons_of_mem _ hy)]
theorem insC_congr {α : Type} {f g : α → α → Bool} {x : α} : ∀ {l : List α}, (∀ y ∈ l, f y x = g y x) → insC f x l = insC g x l
  | [], _ => rfl
  | y :: l, h => by
    unfold insC
    rw [h y (List.mem_cons_self ..), insC_congr fun z hz => h z (List.mem_cons_of_mem _ hz)]
theorem isort_congr {α : Type} {f g : α → α → Bool} : ∀ {l : List α}, (∀ x ∈ l, ∀ y ∈ l, f y x = g y x) → isort f l = isort g l
  | [], _ => rfl
  | x :: l, h => by
    unfold isort
    rw [isort_congr fun a ha b hb => h a (List.mem_cons_of_mem _ ha) b (List.mem_cons_of_mem _ hb)]
    exact insC_congr fun y hy => h x (List.mem_cons_self ..) y (List.mem_cons_of_mem _ ((isort_perm g l).mem_iff.1 hy))
theorem Tw.sort {α : Type} [DecidableEq α] {c d : α → α → Option Int} (l : List α) (h : ∀ x y, Tw (c x y) (d x y)) : Tw (sortBy c l) (sortBy d l) := by
  intro r hr
  have hs := sortBy_spec hr
  have e : ∀ x ∈ l, ∀ y ∈ l, d x y = c x y := fun x hx y hy => by
    have := hs.all x hx y hy
    cases hc : c x y with
    | none => rw [hc] at this; cases this
    | some v => exact h x y v hc
  have e2 : ∀ x ∈ l, ∀ y ∈ l, ltC d x y = ltC c x y := fun x hx y hy => by unfold ltC; rw [e x hx y hy]
  have e3 : sortOk d l = sortOk c l := by
    unfold sortOk
    refine all_congr fun x hx => ?_
    rw [e2 x hx x hx]
    congr 1
    refine all_congr fun y hy => ?_
    rw [e x hx y hy, e2 x hx y hy, e2 y hy x hx]
    congr 2
    refine all_congr fun z hz => ?_
    rw [e2 y hy z hz, e2 x hx z hz]
  unfold sortBy at hr ⊢
  rw [e3, isort_congr fun x hx y hy => e2 y hy x hx]
  exact hr
end Go.Proofs.YtbldeodchhfjfaaGreatDoor.K.E
