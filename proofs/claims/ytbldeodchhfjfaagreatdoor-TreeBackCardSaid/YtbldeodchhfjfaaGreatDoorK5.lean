/- Deep values: slices, structs, strings as Lean's own data; their cells, and that memory holds them. -/
import Derived.Test.YtbldeodchhfjfaaGreatDoorK2
set_option linter.unusedVariables false
set_option linter.unusedSimpArgs false
namespace Go.Proofs.YtbldeodchhfjfaaGreatDoor.K
open Go Go.RowKit

class Dat (α : Type) where
  cells : α → List Value
  sz : Nat
  ok : Nat → Nat → World → α → Prop
  len : ∀ a, (cells a).length = sz
  kp : ∀ {S : Nat → Prop} {lo hi : Nat} {w w' : World} {a : α}, ok lo hi w a → Kp S w w' → (∀ k, S k → k < lo ∨ hi ≤ k) → ok lo hi w' a
  mono : ∀ {lo hi lo' hi' : Nat} {w : World} {a : α}, ok lo hi w a → lo' ≤ lo → hi ≤ hi' → ok lo' hi' w a
  old : ∀ {lo hi : Nat} {w : World} {a : α}, ok lo hi w a → ok 0 w.heap.size w a
  one : ∀ a, ∀ u ∈ cells a, u.oneCell' = true

/-- A slice. -/
structure Sls (α : Type) where
  A : Option Addr
  c : Nat
  l : List α

abbrev Sls.nil {α : Type} : Sls α := ⟨none, 0, []⟩

structure Sls.Ok {α : Type} [Dat α] (lo hi : Nat) (w : World) (s : Sls α) : Prop where
  le : s.l.length ≤ s.c
  max : s.c ≤ maxLen
  cs : Cs lo hi w s.A (s.l.flatMap Dat.cells)
  el : ∀ a ∈ s.l, Dat.ok lo hi w a

theorem Sls.Ok.kp {α : Type} [Dat α] {S : Nat → Prop} {lo hi : Nat} {w w' : World} {s : Sls α} (h : s.Ok lo hi w) (hk : Kp S w w') (hs : ∀ k, S k → k < lo ∨ hi ≤ k) : s.Ok lo hi w' :=
  ⟨h.le, h.max, h.cs.kp hk hs, fun a ha => Dat.kp (h.el a ha) hk hs⟩
theorem Sls.Ok.ex {α : Type} [Dat α] {lo hi : Nat} {w w' : World} {s : Sls α} (h : s.Ok lo hi w) (hk : Ex w w') : s.Ok lo hi w' := h.kp hk (fun _ e => e.elim)
theorem Sls.Ok.mono {α : Type} [Dat α] {lo hi lo' hi' : Nat} {w : World} {s : Sls α} (h : s.Ok lo hi w) (h1 : lo' ≤ lo) (h2 : hi ≤ hi') : s.Ok lo' hi' w :=
  ⟨h.le, h.max, h.cs.mono h1 h2, fun a ha => Dat.mono (h.el a ha) h1 h2⟩
theorem Sls.Ok.old {α : Type} [Dat α] {lo hi : Nat} {w : World} {s : Sls α} (h : s.Ok lo hi w) : s.Ok 0 w.heap.size w :=
  ⟨h.le, h.max, h.cs.old, fun a ha => Dat.old (h.el a ha)⟩
theorem Dat.ex {α : Type} [Dat α] {lo hi : Nat} {w w' : World} {a : α} (h : Dat.ok lo hi w a) (hk : Ex w w') : Dat.ok lo hi w' a := Dat.kp h hk (fun _ e => e.elim)

instance {α : Type} [Dat α] : Dat (Sls α) where
  cells s := [.slice s.A s.l.length s.c]
  sz := 1
  ok lo hi w s := s.Ok lo hi w
  len _ := rfl
  kp h hk hs := h.kp hk hs
  mono h h1 h2 := h.mono h1 h2
  old h := h.old
  one a u h := by
    simp only [List.mem_singleton] at h
    subst h
    rfl
instance : Dat UInt8 where
  cells b := [.int .u8 (b.toNat : Int)]
  sz := 1
  ok _ _ _ _ := True
  len _ := rfl
  kp _ _ _ := trivial
  mono _ _ _ := trivial
  old _ := trivial
  one a u h := by
    simp only [List.mem_singleton] at h
    subst h
    rfl
instance : Dat Int where
  cells n := [.int .i64 n]
  sz := 1
  ok _ _ _ n := -9223372036854775808 ≤ n ∧ n ≤ 9223372036854775807
  len _ := rfl
  kp h _ _ := h
  mono h _ _ := h
  old h := h
  one a u h := by
    simp only [List.mem_singleton] at h
    subst h
    rfl
instance : Dat Nat where
  cells n := [.int .u64 (n : Int)]
  sz := 1
  ok _ _ _ n := n < 18446744073709551616
  len _ := rfl
  kp h _ _ := h
  mono h _ _ := h
  old h := h
  one a u h := by
    simp only [List.mem_singleton] at h
    subst h
    rfl
instance : Dat Bool where
  cells b := [.bool b]
  sz := 1
  ok _ _ _ _ := True
  len _ := rfl
  kp _ _ _ := trivial
  mono _ _ _ := trivial
  old _ := trivial
  one a u h := by
    simp only [List.mem_singleton] at h
    subst h
    rfl
instance : Dat (List UInt8) where
  cells l := [.string ⟨l.toArray⟩]
  sz := 1
  ok _ _ _ l := l.length ≤ maxLen
  len _ := rfl
  kp h _ _ := h
  mono h _ _ := h
  old h := h
  one a u h := by
    simp only [List.mem_singleton] at h
    subst h
    rfl

theorem bs_flat : ∀ l : List UInt8, l.flatMap Dat.cells = bs l
  | [] => rfl
  | b :: l => by
    rw [List.flatMap_cons, bs_flat l]
    rfl
theorem Sls.Ok.bcs {lo hi : Nat} {w : World} {s : Sls UInt8} (h : s.Ok lo hi w) : Cs lo hi w s.A (bs s.l) := by
  rw [← bs_flat]
  exact h.cs

theorem flat_get {α : Type} [Dat α] {n : Nat} (hn : Dat.sz α = n) (j : Nat) (hj : j < n) : ∀ (l : List α) (i : Nat) (x : α), l[i]? = some x → (l.flatMap Dat.cells)[i * n + j]? = (Dat.cells x)[j]?
  | [], i, x, h => by simp at h
  | y :: l, 0, x, h => by
    simp at h
    subst h
    rw [List.flatMap_cons, List.getElem?_append_left (by rw [Dat.len, hn]; omega)]
    simp
  | y :: l, i + 1, x, h => by
    rw [List.flatMap_cons, List.getElem?_append_right (by rw [Dat.len, hn, Nat.add_mul]; omega), Dat.len, hn, Nat.add_mul, show i * n + 1 * n + j - n = i * n + j by omega]
    exact flat_get hn j hj l i x (by simpa using h)
theorem flat_len {α : Type} [Dat α] : ∀ l : List α, (l.flatMap Dat.cells).length = l.length * Dat.sz α
  | [] => by simp
  | y :: l => by rw [List.flatMap_cons, List.length_append, flat_len l, Dat.len, List.length_cons, Nat.add_mul]; omega
theorem flat_one {α : Type} [Dat α] (l : List α) : ∀ u ∈ l.flatMap Dat.cells, u.oneCell' = true := by
  intro u hu
  obtain ⟨a, _, h⟩ := List.mem_flatMap.1 hu
  exact Dat.one a u h
theorem cells_one {α : Type} [Dat α] (a : α) : ∀ u ∈ Dat.cells a, u.oneCell' = true := Dat.one a

/-- An element's cells in memory. -/
theorem Cs.row {α : Type} [Dat α] {lo hi : Nat} {w : World} {A : Option Addr} {l : List α} (h : Cs lo hi w A (l.flatMap Dat.cells)) {n : Nat} (hn : Dat.sz α = n) (h0 : 0 < n) {i : Nat} {x : α} (hx : l[i]? = some x) :
    ∃ ad, A = some ad ∧ lo ≤ ad.block ∧ ad.block < hi ∧ ∀ j v, (Dat.cells x)[j]? = some v → w.cell? ((ad.add (i * n)).add j) = some v := by
  have hl := Dat.len x
  have h1 := flat_get hn 0 h0 l i x hx
  rw [List.getElem?_eq_getElem (show 0 < (Dat.cells x).length by omega)] at h1
  obtain ⟨ad, rfl, hl1, hl2, _⟩ := h _ _ h1
  refine ⟨ad, rfl, hl1, hl2, fun j v hv => ?_⟩
  have hj : j < n := by
    have := (List.getElem?_eq_some_iff.1 hv).1
    omega
  have h2 := flat_get hn j hj l i x hx
  rw [hv] at h2
  obtain ⟨ad', e, _, _, h3⟩ := h _ _ h2
  cases e
  rw [add_add]
  exact h3
end Go.Proofs.YtbldeodchhfjfaaGreatDoor.K
