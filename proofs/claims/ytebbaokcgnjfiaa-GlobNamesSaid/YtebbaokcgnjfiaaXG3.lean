import Derived.Test.YtebbaokcgnjfiaaXG2
import Derived.Test.YtebbaokcgnjfiaaXG0
set_option linter.unusedVariables false
set_option linter.unusedSimpArgs false
namespace Go.Proofs.Ytebbaokcgnjfiaa.F
open Go Go.RowKit Go.Proofs.Ytebbaokcgnjfiaa.K Go.Proofs.Ytebbaokcgnjfiaa.K.E
theorem slc_all {α : Type} (l : List α) : slc l 0 (l.length : Int) = some l := by
  rw [slc_ok ⟨by omega, by omega, by omega⟩]; simp
theorem part_of {s : List UInt8} {ps : List TGlobPiece} (h1 : s ≠ []) (h2 : s ≠ [42, 42]) (h : loopO (fun t => glob_reader_part_l1 t.1.1 t.1.2.1 t.1.2.2 t.2.1 t.2.2) ((s, (0 : Int), 0), (false, [])) = some (.inl ((s, (s.length : Int), 0), (false, ps)))) :
    glob_reader_part s 0 0 = some ((false, ps), (s, (s.length : Int), 0)) := by
  have hne : ((s.length : Int) == 0) = false := by
    rw [beq_eq_false_iff_ne]
    intro e
    exact h1 (List.length_eq_zero_iff.1 (by omega))
  unfold glob_reader_part
  rw [h]
  show bnd (cond ((s.length : Int) == 0) _ _) _ = _
  rw [hne]
  show Option.bind (slc s 0 (s.length : Int)) _ = _
  rw [slc_all]
  show some ((s == [42, 42], ps), _) = _
  rw [show (s == ([42, 42] : List UInt8)) = false from by rw [beq_eq_false_iff_ne]; exact h2]
theorem l1_next {s : List UInt8} {i : Int} {g : Bool} {ps : List TGlobPiece} {st : ((List UInt8) × Int × Int) × (Bool × (List TGlobPiece))} (h : glob_reader_part_l1 s i 0 g ps = some (.inl st)) :
    loopO (fun t => glob_reader_part_l1 t.1.1 t.1.2.1 t.1.2.2 t.2.1 t.2.2) ((s, i, 0), (g, ps)) = loopO (fun t => glob_reader_part_l1 t.1.1 t.1.2.1 t.1.2.2 t.2.1 t.2.2) st := loop_next h
theorem part_esc {a : List UInt8} (h1 : a ≠ []) (h2 : a.length ≤ 255) (ha : ∀ c ∈ a, okc c) : glob_reader_part (esc a) 0 0 = some ((false, a.map pcB), (esc a, ((esc a).length : Int), 0)) := by
  have hl := esc_len a
  obtain ⟨c, a', rfl⟩ := List.exists_cons_of_ne_nil h1
  refine part_of (by simp [esc]) (by simp [esc]) ?_
  have := loop_esc (s := esc (c :: a')) (by omega) (g := false) (c :: a') [] [] [] (by simp) ha (by simp only [List.length_nil]; omega)
  rw [show (([] : List UInt8).length : Int) = 0 from rfl] at this
  rw [this]
  exact loop_end l1_end
theorem part_star {a : List UInt8} (h1 : a ≠ []) (h2 : a.length ≤ 255) (ha : ∀ c ∈ a, okc c) : glob_reader_part (esc a ++ [42]) 0 0 = some ((false, a.map pcB ++ [starP]), (esc a ++ [42], ((esc a ++ [42]).length : Int), 0)) := by
  have hl := esc_len a
  have hl2 : (esc a ++ [42]).length = 2 * a.length + 1 := by rw [List.length_append, hl]; rfl
  obtain ⟨c, a', rfl⟩ := List.exists_cons_of_ne_nil h1
  refine part_of (by simp [esc]) (by simp [esc]) ?_
  have := loop_esc (s := esc (c :: a') ++ [42]) (by omega) (g := false) (c :: a') [] [42] [] (by simp) ha (by simp only [List.length_nil]; omega)
  rw [show (([] : List UInt8).length : Int) = 0 from rfl] at this
  rw [this]
  have h0 : (esc (c :: a') ++ [42])[([] ++ esc (c :: a')).length]? = some 42 := by simp
  rw [l1_next (l1_star (g := false) (ps := [] ++ (c :: a').map pcB) h0 (by omega) (by simp only [List.nil_append, List.length_map]; omega))]
  rw [show ((([] : List UInt8) ++ esc (c :: a')).length : Int) + 1 = ((esc (c :: a') ++ [42]).length : Int) by simp]
  exact loop_end l1_end
theorem bi {σ ρ : Type} (x : σ) (k : σ → Option ρ) : bnd (some (.inl x)) k = k x := rfl
theorem comp_of {s : List UInt8} {g : Bool} {ps : List TGlobPiece} (h1 : s.length ≤ 4096) (h : glob_reader_part s 0 0 = some ((g, ps), (s, (s.length : Int), 0))) : glob_Compile s = some (.inr (s, [⟨g, ps⟩]), 0, (s.length : Int)) := by
  unfold glob_Compile
  rw [show decide ((s.length : Int) > 4096) = false from decide_eq_false (by omega)]
  simp only [cond_false]
  have hb : glob_Compile_l1 s s 0 0 s [] = some (.inr (.inr (.inr (s, [⟨g, ps⟩]), 0, (s.length : Int)))) := by
    unfold glob_Compile_l1
    rw [show ((([] : List TGlobPart).length : Int) == 128) = false from rfl]
    simp only [cond_false, dup_eq, fork_same]
    rw [bi]
    dsimp only
    rw [show ((0 : Int) != 0) = false from rfl]
    simp only [cond_false]
    rw [h]
    simp only [Option.bind_some, app1 (l := ([] : List TGlobPart)) (by decide)]
    rw [bi]
    dsimp only
    rw [show ((0 : Int) != 0) = false from rfl, beq_self_eq_true]
    rfl
  rw [loop_end (s := ((s, 0, 0), (s, []))) hb]
  rfl
theorem comp_any : glob_Compile [42, 42] = some (.inr ([42, 42], [⟨true, [starP, starP]⟩]), 0, 2) := glob_Compile_le _ _ (by kernel_rfl)
end Go.Proofs.Ytebbaokcgnjfiaa.F
