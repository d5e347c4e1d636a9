import Derived.Test.YtebbaokcgnjfiaaXG7
set_option linter.unusedVariables false
set_option linter.unusedSimpArgs false
namespace Go.Proofs.Ytebbaokcgnjfiaa.F
open Go Go.RowKit Go.Proofs.Ytebbaokcgnjfiaa.K Go.Proofs.Ytebbaokcgnjfiaa.K.E
theorem mat_of {t : List UInt8} {ps : List TGlobPiece} {b : List UInt8} {r : Bool} (hb : validP b) (h : glob_part_match ⟨false, ps⟩ b = some r) : glob_Pattern_Match t [⟨false, ps⟩] b = some (r, (t, [⟨false, ps⟩])) := by
  unfold glob_Pattern_Match
  rw [split_one hb]
  simp only [Option.bind_some]
  rw [show ((0 : Int) == 0) = true from rfl, cond_true, all_one h]
  rfl
theorem mat_of2 {t : List UInt8} {ps : List TGlobPiece} {b : List UInt8} {r : Bool} (hb : validP b) (h : glob_part_match ⟨false, ps⟩ b = some r) : glob_Pattern_Match_2 t [⟨false, ps⟩] b = some (r, (t, [⟨false, ps⟩])) := mat_of hb h
theorem mat_any {t : List UInt8} {ps : List TGlobPiece} {a b : List UInt8} (ha : validP a) (hb : validP b) : glob_Pattern_Match t [⟨true, ps⟩] (a ++ 47 :: b) = some (true, (t, [⟨true, ps⟩])) := by
  unfold glob_Pattern_Match
  rw [split_two ha hb]
  simp only [Option.bind_some]
  rw [show ((0 : Int) == 0) = true from rfl, cond_true, all_any2]
  rfl
theorem mat_any0 {t : List UInt8} {ps : List TGlobPiece} : glob_Pattern_Match_2 t [⟨true, ps⟩] [] = some (true, (t, [⟨true, ps⟩])) := by
  unfold glob_Pattern_Match_2
  rw [split_nil]
  simp only [Option.bind_some]
  rw [show ((0 : Int) == 0) = true from rfl, cond_true, all_any0]
  rfl
theorem part_pre {t : List UInt8} {ps : List TGlobPiece} {b : List UInt8} {r : Bool} (h : glob_part_match ⟨false, ps⟩ b = some r) : glob_Pattern_Part_2 t [⟨false, ps⟩] 0 b = some (r, (t, [⟨false, ps⟩])) := by
  unfold glob_Pattern_Part_2
  rw [show decide ((0 : Int) ≥ 0) = true from rfl, show decide ((0 : Int) < (([⟨false, ps⟩] : List TGlobPart).length : Int)) = true from rfl]
  simp only [cond_true]
  rw [show idx ([⟨false, ps⟩] : List TGlobPart) 0 = some ⟨false, ps⟩ from rfl]
  simp only [Option.bind_some]
  rw [h]
  rfl
theorem beg_eq (a b : List UInt8) : (cond (decide ((b.length : Int) ≥ (a.length : Int))) (Option.bind (slc b 0 (a.length : Int)) fun y => some (.inl (y == a))) (some (.inl false)) : Option (Sum Bool Bool)) = some (.inl (decide (a <+: b))) := by
  by_cases h : a.length ≤ b.length
  · rw [dT (show (b.length : Int) ≥ (a.length : Int) by omega), cond_true, slc_ok ⟨by omega, by omega, by omega⟩]
    simp only [Option.bind_some]
    rw [show ((a.length : Int)).toNat = a.length by omega, show ((0 : Int)).toNat = 0 from rfl, List.drop_zero]
    congr 2
    rw [Bool.eq_iff_iff, beq_iff_eq, decide_eq_true_eq, List.prefix_iff_eq_take]
    exact eq_comm
  · rw [dF (show ¬ ((b.length : Int) ≥ (a.length : Int)) by omega), cond_false, dF (fun e => h e.length_le)]
theorem GlobNames_pure (a : List UInt8) (ha : a.length ≤ 9223372036854775807) (b : List UInt8) (hb : b.length ≤ 9223372036854775807) : law28_GlobNames a b = some true := by
  obtain ⟨v, e1, v1⟩ := valid_of ha
  obtain ⟨u, e2, u1⟩ := valid_of hb
  unfold law28_GlobNames
  rw [e1]
  simp only [Option.bind_some]
  cases v with
  | false => simp only [Bool.not_false, cond_true, bi]; rw [live_eq]; rfl
  | true =>
    rw [e2]
    simp only [Bool.not_true, cond_false, Option.bind_some, bi]
    cases u with
    | false => simp only [Bool.not_false, cond_true]; rw [live_eq]; rfl
    | true =>
      have va := v1 rfl
      have vb := u1 rfl
      have la := va.len
      have lb := vb.len
      have le := esc_len a
      have okb : ∀ c ∈ a, okc c := va.ok
      simp only [Bool.not_true, cond_false]
      have t0 : loopO (fun s => law28_GlobNames_l1 a s.1 s.2) (([] : List UInt8), (0 : Int)) = some (.inl (esc a)) := text_loop la a [] rfl
      rw [t0]
      have c1 := comp_of (by omega) (part_esc va.ne la okb)
      have c2 := comp_of (s := esc a ++ [42]) (by simp only [List.length_append, List.length_singleton]; omega) (part_star va.ne la okb)
      show Option.bind (glob_Compile (esc a)) _ = _
      rw [c1]
      simp only [Option.bind_some]
      unfold altE
      dsimp only
      rw [cat_ok (by simp only [List.length_singleton]; omega)]
      simp only [Option.bind_some]
      rw [c2]
      simp only [Option.bind_some]
      rw [comp_any]
      simp only [Option.bind_some, law28_num]
      rw [show ((IntKind.i64.wrap ((IntKind.i64.wrap ((0 : Int) + 0)) + 0)) != 0) = false from rfl]
      simp only [cond_false]
      rw [beg_eq, bi]
      have m1 : glob_part_match ⟨false, a.map pcB⟩ a = some true := by rw [match_bytes (by omega) (by omega)]; simp
      have m2 : glob_part_match ⟨false, a.map pcB⟩ b = some (decide (b = a)) := match_bytes (by omega) (by omega)
      have m3 : glob_part_match ⟨false, a.map pcB ++ [starP]⟩ b = some (decide (a <+: b)) := match_pre (by omega) (by omega)
      rw [mat_of va m1]
      simp only [Option.bind_some, cond_true]
      rw [mat_of2 vb m2]
      simp only [Option.bind_some]
      rw [show (decide (b = a) == (a == b)) = true by rw [beq_iff_eq, Bool.eq_iff_iff, beq_iff_eq, decide_eq_true_eq]; exact eq_comm]
      simp only [cond_true]
      rw [part_pre m3]
      simp only [Option.bind_some, beq_self_eq_true, cond_true]
      rw [mat_of2 vb m3]
      simp only [Option.bind_some, beq_self_eq_true, cond_true]
      rw [cat_ok (by simp only [List.length_singleton]; omega)]
      simp only [Option.bind_some]
      rw [cat_ok (by simp only [List.length_append, List.length_singleton]; omega), show a ++ [47] ++ b = a ++ 47 :: b by simp]
      simp only [Option.bind_some]
      rw [mat_any va vb]
      simp only [Option.bind_some, cond_true]
      rw [mat_any0]
      simp only [Option.bind_some, cond_true]
      rw [live_eq]
      rfl
end Go.Proofs.Ytebbaokcgnjfiaa.F
