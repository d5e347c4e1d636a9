import Derived.Test.YtebbaokcgnjfiaaXG4
set_option linter.unusedVariables false
set_option linter.unusedSimpArgs false
namespace Go.Proofs.Ytebbaokcgnjfiaa.F
open Go Go.RowKit Go.Proofs.Ytebbaokcgnjfiaa.K Go.Proofs.Ytebbaokcgnjfiaa.K.E
set_option maxRecDepth 100000
theorem all_one {t : List UInt8} {ps : List TGlobPiece} {b : List UInt8} {r : Bool} (h : glob_part_match ⟨false, ps⟩ b = some r) : glob_Pattern_all t [⟨false, ps⟩] [b] = some (r, (t, [⟨false, ps⟩])) := by
  have e0 : glob_Pattern_all_l2 [b] [true, false] ⟨false, ps⟩ [false, false] [false, false] 0 = some (.inl ([false, false], 1)) := by kernel_rfl
  have e1 : glob_Pattern_all_l2 [b] [true, false] ⟨false, ps⟩ [false, false] [false, false] 1 = Option.bind (glob_part_match ⟨false, ps⟩ b) fun r => some (.inl ([false, r], 2)) := by kernel_rfl
  have e2 : glob_Pattern_all_l2 [b] [true, false] ⟨false, ps⟩ [false, false] [false, r] 2 = some (.inr (.inl [false, r])) := by kernel_rfl
  rw [h] at e1
  have f0 : loopO (fun s => glob_Pattern_all_l2 [b] [true, false] ⟨false, ps⟩ [false, false] s.1 s.2) ([false, false], 0) = some (.inl [false, r]) := by
    rw [loop_next (s := ([false, false], 0)) e0, loop_next (s := ([false, false], 1)) e1]
    exact loop_end e2
  have g0 : glob_Pattern_all_l1 [⟨false, ps⟩] [b] [true, false] 0 = some (.inl ([false, r], 1)) := by
    have e : glob_Pattern_all_l1 [⟨false, ps⟩] [b] [true, false] 0 = bnd (loopO (fun s => glob_Pattern_all_l2 [b] [true, false] ⟨false, ps⟩ [false, false] s.1 s.2) ([false, false], 0)) (fun next_1 => some (.inl (next_1, 1))) := by kernel_rfl
    rw [e, f0]
    rfl
  have g1 : glob_Pattern_all_l1 [⟨false, ps⟩] [b] [false, r] 1 = some (.inr (.inl [false, r])) := by kernel_rfl
  have k0 : loopO (fun s => glob_Pattern_all_l1 [⟨false, ps⟩] [b] s.1 s.2) ([true, false], 0) = some (.inl [false, r]) := by
    rw [show loopO (fun s => glob_Pattern_all_l1 [⟨false, ps⟩] [b] s.1 s.2) ([true, false], 0) = loopO (fun s => glob_Pattern_all_l1 [⟨false, ps⟩] [b] s.1 s.2) ([false, r], 1) from loop_next (body := fun s => glob_Pattern_all_l1 [⟨false, ps⟩] [b] s.1 s.2) g0]
    exact loop_end (body := fun s => glob_Pattern_all_l1 [⟨false, ps⟩] [b] s.1 s.2) g1
  have e : glob_Pattern_all t [⟨false, ps⟩] [b] = bnd (loopO (fun s => glob_Pattern_all_l1 [⟨false, ps⟩] [b] s.1 s.2) ([true, false], 0)) (fun can1 => Option.bind (idx can1 1) fun x24 => Option.bind (idx can1 1) fun x25 => some (x25, (t, [⟨false, ps⟩]))) := by kernel_rfl
  rw [e, k0]
  rfl
theorem all_any2 (t : List UInt8) (ps : List TGlobPiece) (a b : List UInt8) : glob_Pattern_all t [⟨true, ps⟩] [a, b] = some (true, (t, [⟨true, ps⟩])) := glob_Pattern_all_le _ _ _ _ (by kernel_rfl)
theorem all_any0 (t : List UInt8) (ps : List TGlobPiece) : glob_Pattern_all t [⟨true, ps⟩] [] = some (true, (t, [⟨true, ps⟩])) := glob_Pattern_all_le _ _ _ _ (by kernel_rfl)
end Go.Proofs.Ytebbaokcgnjfiaa.F
