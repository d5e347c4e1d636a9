/- E, part 19: sorting, in plain Lean. -/
set_option linter.unusedVariables false
namespace Go.Proofs.YtbldeodchhfjfaaGreatDoor.K.E

def ltC {α : Type} (cmp : α → α → Option Int) (x y : α) : Bool := match cmp x y with
  | some v => decide (v < 0)
  | none => false
def insC {α : Type} (lt : α → α → Bool) (x : α) : List α → List α
  | [] => [x]
  | y :: l => cond (lt y x) (y :: insC lt x l) (x :: y :: l)
def isort {α : Type} (lt : α → α → Bool) : List α → List α
  | [] => []
  | x :: l => insC lt x (isort lt l)
def sortOk {α : Type} [DecidableEq α] (cmp : α → α → Option Int) (l : List α) : Bool := l.all fun x => !ltC cmp x x && l.all fun y => (cmp x y).isSome && ((ltC cmp x y || (ltC cmp y x || decide (x = y))) && l.all fun z => (!(ltC cmp x y && ltC cmp y z) || ltC cmp x z) && (ltC cmp x y || (ltC cmp y z || !ltC cmp x z)))
/-- Sorted; where no two are alike that can be told apart. -/
def sortBy {α : Type} [DecidableEq α] (cmp : α → α → Option Int) (l : List α) : Option (List α) := cond (Nat.blt l.length 4611686018427387904 && sortOk cmp l) (some (isort (ltC cmp) l)) none
structure SortSpec {α : Type} (cmp : α → α → Option Int) (l l' : List α) : Prop where
  len : l.length < 4611686018427387904
  all : ∀ x ∈ l, ∀ y ∈ l, (cmp x y).isSome = true
  irr : ∀ x ∈ l, ltC cmp x x = false
  tr : ∀ x ∈ l, ∀ y ∈ l, ∀ z ∈ l, ltC cmp x y = true → ltC cmp y z = true → ltC cmp x z = true
  ntr : ∀ x ∈ l, ∀ y ∈ l, ∀ z ∈ l, ltC cmp x y = false → ltC cmp y z = false → ltC cmp x z = false
  uniq : ∀ l'', l''.Perm l → l''.Pairwise (fun a b => ltC cmp b a = false) → l'' = l'
theorem insC_perm {α : Type} (lt : α → α → Bool) (x : α) : ∀ l : List α, (insC lt x l).Perm (x :: l)
  | [] => List.Perm.refl _
  | y :: l => by
    unfold insC
    cases lt y x with
    | true => exact ((insC_perm lt x l).cons y).trans (List.Perm.swap x y l)
    | false => exact List.Perm.refl _
theorem isort_perm {α : Type} (lt : α → α → Bool) : ∀ l : List α, (isort lt l).Perm l
  | [] => List.Perm.refl _
  | x :: l => (insC_perm lt x _).trans ((isort_perm lt l).cons x)
theorem insC_sorted {α : Type} {lt : α → α → Bool} {p : α → Prop} (irr : ∀ x, p x → lt x x = false) (tr : ∀ x y z, p x → p y → p z → lt x y = true → lt y z = true → lt x z = true) (ntr : ∀ x y z, p x → p y → p z → lt x y = false → lt y z = false → lt x z = false) {x : α} (hx : p x) : ∀ {l : List α}, (∀ y ∈ l, p y) → l.Pairwise (fun a b => lt b a = false) → (insC lt x l).Pairwise (fun a b => lt b a = false)
  | [], _, _ => by simp [insC]
  | y :: l, hp, h => by
    rw [List.pairwise_cons] at h
    have hy := hp y (List.mem_cons_self ..)
    unfold insC
    cases hb : lt y x with
    | true =>
      simp only [cond_true, List.pairwise_cons]
      refine ⟨fun z hz => ?_, insC_sorted irr tr ntr hx (fun z hz => hp z (List.mem_cons_of_mem _ hz)) h.2⟩
      rcases List.mem_cons.1 ((insC_perm lt x l).mem_iff.1 hz) with rfl | hz
      · cases hc : lt z y with
        | false => rfl
        | true => have := tr _ _ _ hy hx hy hb hc; rw [irr y hy] at this; cases this
      · exact h.1 z hz
    | false =>
      simp only [cond_false, List.pairwise_cons]
      refine ⟨fun z hz => ?_, h.1, h.2⟩
      rcases List.mem_cons.1 hz with rfl | hz
      · exact hb
      · exact ntr z y x (hp z (List.mem_cons_of_mem _ hz)) hy hx (h.1 z hz) hb
theorem isort_sorted {α : Type} {lt : α → α → Bool} {p : α → Prop} (irr : ∀ x, p x → lt x x = false) (tr : ∀ x y z, p x → p y → p z → lt x y = true → lt y z = true → lt x z = true) (ntr : ∀ x y z, p x → p y → p z → lt x y = false → lt y z = false → lt x z = false) : ∀ {l : List α}, (∀ y ∈ l, p y) → (isort lt l).Pairwise (fun a b => lt b a = false)
  | [], _ => by simp [isort]
  | x :: l, hp => by
    unfold isort
    refine insC_sorted irr tr ntr (hp x (List.mem_cons_self ..)) (fun y hy => hp y (List.mem_cons_of_mem _ ((isort_perm lt l).mem_iff.1 hy))) (isort_sorted irr tr ntr (fun y hy => hp y (List.mem_cons_of_mem _ hy)))
theorem sorted_uniq {α : Type} {lt : α → α → Bool} : ∀ {l l' : List α}, (∀ x ∈ l, ∀ y ∈ l, lt x y = false → lt y x = false → x = y) → l.Perm l' → l.Pairwise (fun a b => lt b a = false) → l'.Pairwise (fun a b => lt b a = false) → l = l'
  | [], l', _, hp, _, _ => (List.Perm.nil_eq hp).symm ▸ rfl
  | x :: l, [], _, hp, _, _ => by have := hp.length_eq; simp at this
  | x :: l, y :: l', ha, hp, h1, h2 => by
    rw [List.pairwise_cons] at h1 h2
    have hxy : x = y := by
      have hy : y ∈ x :: l := hp.mem_iff.2 (List.mem_cons_self ..)
      have hx : x ∈ y :: l' := hp.mem_iff.1 (List.mem_cons_self ..)
      rcases List.mem_cons.1 hy with e | hy'
      · exact e.symm
      · rcases List.mem_cons.1 hx with e | hx'
        · exact e
        · exact ha x (List.mem_cons_self ..) y hy (h2.1 x hx') (h1.1 y hy')
    subst hxy
    rw [sorted_uniq (fun a h b h' => ha a (List.mem_cons_of_mem _ h) b (List.mem_cons_of_mem _ h')) (List.perm_cons x |>.1 hp) h1.2 h2.2]
theorem sortBy_spec {α : Type} [DecidableEq α] {cmp : α → α → Option Int} {l l' : List α} (h : sortBy cmp l = some l') : SortSpec cmp l l' := by
  unfold sortBy at h
  cases hb0 : (Nat.blt l.length 4611686018427387904 && sortOk cmp l) with
  | false => rw [hb0] at h; cases h
  | true =>
    rw [hb0] at h
    cases h
    rw [Bool.and_eq_true] at hb0
    have hb := hb0.2
    have hlen : l.length < 4611686018427387904 := Nat.le_of_ble_eq_true hb0.1
    have key : ∀ x ∈ l, ltC cmp x x = false ∧ ∀ y ∈ l, (cmp x y).isSome = true ∧ (ltC cmp x y = true ∨ ltC cmp y x = true ∨ x = y) ∧ ∀ z ∈ l, ((ltC cmp x y = true → ltC cmp y z = true → ltC cmp x z = true) ∧ (ltC cmp x y = false → ltC cmp y z = false → ltC cmp x z = false)) := by
      intro x hx
      have h1 := List.all_eq_true.1 hb x hx
      simp only [Bool.and_eq_true, Bool.not_eq_true'] at h1
      refine ⟨h1.1, fun y hy => ?_⟩
      have h2 := List.all_eq_true.1 h1.2 y hy
      simp only [Bool.and_eq_true, Bool.or_eq_true, decide_eq_true_eq] at h2
      refine ⟨h2.1, h2.2.1, fun z hz => ?_⟩
      have h3 := List.all_eq_true.1 h2.2.2 z hz
      clear h1 h2 hb hb0
      generalize ltC cmp x y = a at h3 ⊢
      generalize ltC cmp y z = b at h3 ⊢
      generalize ltC cmp x z = c at h3 ⊢
      cases a <;> cases b <;> cases c <;> simp_all
    have hp := isort_perm (ltC cmp) l
    refine ⟨hlen, fun x hx y hy => ((key x hx).2 y hy).1, fun x hx => (key x hx).1, fun x hx y hy z hz => (((key x hx).2 y hy).2.2 z hz).1, fun x hx y hy z hz => (((key x hx).2 y hy).2.2 z hz).2, fun l'' h1 h2 => ?_⟩
    refine sorted_uniq (lt := ltC cmp) ?_ (h1.trans hp.symm) h2 (isort_sorted (p := fun x => x ∈ l) (fun x hx => (key x hx).1) (fun x y z hx hy hz => (((key x hx).2 y hy).2.2 z hz).1) (fun x y z hx hy hz => (((key x hx).2 y hy).2.2 z hz).2) (fun y hy => hy))
    intro x hx y hy e1 e2
    rcases ((key x (h1.mem_iff.1 hx)).2 y (h1.mem_iff.1 hy)).2.1 with h | h | h
    · rw [e1] at h; cases h
    · rw [e2] at h; cases h
    · exact h
end Go.Proofs.YtbldeodchhfjfaaGreatDoor.K.E
