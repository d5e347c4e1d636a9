/- The library's sort of whole numbers, by its contract. -/
import Derived.Test.YtgoedcjjckdlpaaM7
import Derived.Sort.OwnSortedInts
import Derived.Shelf.Sort.Plain
import Derived.Shelf.Slices.In.SortNone
set_option linter.unusedVariables false
set_option linter.unusedSimpArgs false
set_option linter.unusedSectionVars false
namespace Go.Proofs.Ytgoedcjjckdlpaa.K
open Go Go.RowKit Go.Op
def sortI (l : List Int) : List Int := l.mergeSort fun x y => decide (x ≤ y)
theorem sortI_len (l : List Int) : (sortI l).length = l.length := List.length_mergeSort l
theorem Rows.i64 {m : Mem} : ∀ {l : List Int} {xs : List Value}, Rows rI64 m xs l ↔ xs = l.map (Value.int .i64)
  | [], xs => Iff.rfl
  | b :: l, xs => by
    constructor
    · rintro ⟨cs, ys, h1, h2, h3⟩
      rw [h1, show cs = _ from h2, Rows.i64.1 h3]
      rfl
    · intro h
      exact ⟨_, l.map (Value.int .i64), by rw [h]; rfl, rfl, Rows.i64.2 rfl⟩
section
variable {P : Program} {B : Code} {n : Cx} {p : List Nat} {i : Nat} {κ : Kn} {w : World} {Z : Kn → World → Prop} {w0 : World} {F0 : Nat → Prop} {m0 m : Mem} {σ : List Item}
theorem sortS {ρ : Go.Shelf.Ren} (Ly : Go.Proofs.Lays.n189 P ρ) (d : Option Nat) (f n' e : Nat) (A : Option Addr) (c : Nat) (l : List Int) (hf : ρ.f 189 = f) (hsz : l.length < 4611686018427387904) (H : St w0 F0 m0 m σ w) (hn : σ[n']? = some (rowI rI64 e A c l))
    (hcall : ∀ args w, (callFunc f args).run P w = .ok (.enter f args) w) (ho : fetch B n p i κ = some (d, callFunc f #[.slice A l.length c]))
    (hk : ∀ w1, St w0 F0 m0 m (σ.set n' (rowI rI64 e A c (sortI l))) w1 → Z (putk d (.tuple #[]) κ) w1) : Step P B n p i κ w Z := by
  subst hf
  obtain ⟨F, ⟨⟨xs, h1, hown⟩, hF⟩, h2, h3⟩ := H.upd n' hn
  have hx := Rows.i64.1 h1
  subst hx
  rcases hown.2 with ⟨hv, h0⟩ | ⟨g, cap, cur, hv, hb, hg, hle, hmax, hcs, ht⟩
  · have hl : l = [] := List.eq_nil_of_length_eq_zero h0
    subst hl
    cases hv
    refine callR (Φ := fun v w' => v = .tuple #[] ∧ w' = w) d (ρ.f 189) #[.slice none 0 0] hcall ((Go.Proofs.Any.slices_Sort_int_none Ly none 0 w).mono ?_) ho ?_
    · rintro e' w' ⟨h4, h5⟩
      exact ⟨_, h4, rfl, h5⟩
    · rintro v w' ⟨rfl, rfl⟩
      refine hk w' ?_
      have : σ.set n' (rowI rI64 e none 0 (sortI [])) = σ := by
        apply List.ext_getElem?
        intro j
        rw [List.getElem?_set]
        split
        · rename_i e1; subst e1
          split
          · rw [hn, show sortI [] = [] from by simp [sortI]]
          · rename_i h; rw [List.getElem?_eq_none (by omega)]
        · rfl
      rw [this]
      exact H
  · cases hv
    have ht' : cur.toList.take l.length = l.map (Value.int .i64) := by rw [show l.length = l.length * rI64.sz from (Nat.mul_one _).symm]; exact ht
    have hblk : g < w.heap.size := blk_lt hg
    refine callR (Φ := fun v w' => v = .tuple #[] ∧ ∃ k os, w' = Go.Sort.grow (Go.Sort.putRow (Value.int .i64) (Go.Sort.ahead w k) g 0 (sortI l).toArray) os) d (ρ.f 189) #[.slice (some ⟨g, 0, none⟩) l.length c] hcall
      ((Go.Proofs.Any.slices_Sort_int Ly g 0 c l w (holds_of_blockI hg ht') hblk hsz).mono ?_) ho ?_
    · rintro e' w' ⟨h4, h5⟩
      exact ⟨_, h4, rfl, h5⟩
    · rintro v w' ⟨rfl, k, os, rfl⟩
      have hgr := Go.grownBy_sortedI (w := w) (g := g) (n := k) (os := os) (sortI l).toArray
      have how := Go.ownsRow_sortedI (n := k) (os := os) (sortI_len l) hb hg hle hmax hcs
      refine hk _ (h3 _ (rowI rI64 e (some ⟨g, 0, none⟩) c (sortI l)) F ?_ ⟨⟨_, Rows.i64.2 rfl, ?_⟩, ?_⟩ (fun k hk => .inl hk))
      · obtain ⟨a1, a2, a3, a4, a5⟩ := hgr
        exact ⟨a1, a2, a3, a4, fun j hj hnF => a5 j hj (fun e => hnF ((hF j).2 (by cases e; rfl)))⟩
      · rw [sortI_len]; exact how
      · intro j; rw [sortI_len]; exact hF j
end
end Go.Proofs.Ytgoedcjjckdlpaa.K
