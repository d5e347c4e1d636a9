import Derived.Test.YtebbaokcgnjfiaaXG5
set_option linter.unusedVariables false
set_option linter.unusedSimpArgs false
namespace Go.Proofs.Ytebbaokcgnjfiaa.F
open Go Go.RowKit Go.Proofs.Ytebbaokcgnjfiaa.K Go.Proofs.Ytebbaokcgnjfiaa.K.E
theorem ix_no {c : UInt8} : ∀ {l : List UInt8}, (∀ x ∈ l, x ≠ c) → Lib.indexByte l c = -1
  | [], _ => rfl
  | b :: l, h => by
    have hb : (b == c) = false := by rw [beq_eq_false_iff_ne]; exact h b (List.mem_cons_self ..)
    unfold Lib.indexByte
    rw [hb, ix_no (fun x hx => h x (List.mem_cons_of_mem _ hx))]
    rfl
theorem ix_at {c : UInt8} : ∀ {a : List UInt8} {b : List UInt8}, (∀ x ∈ a, x ≠ c) → Lib.indexByte (a ++ c :: b) c = (a.length : Int)
  | [], b, _ => by show Lib.indexByte (c :: b) c = 0; unfold Lib.indexByte; rw [beq_self_eq_true]; rfl
  | x :: a, b, h => by
    have hb : (x == c) = false := by rw [beq_eq_false_iff_ne]; exact h x (List.mem_cons_self ..)
    have ih := ix_at (c := c) (a := a) (b := b) (fun x hx => h x (List.mem_cons_of_mem _ hx))
    show Lib.indexByte (x :: (a ++ c :: b)) c = _
    unfold Lib.indexByte
    rw [hb, ih]
    have : ((a.length : Int) == -1) = false := by rw [beq_eq_false_iff_ne]; omega
    rw [this]
    simp
theorem cut_no {l : List UInt8} (h : ∀ x ∈ l, x ≠ 47) : cutB l = (l, [], false) := by
  unfold cutB; rw [ix_no h]; rfl
theorem cut_at {a b : List UInt8} (h : ∀ x ∈ a, x ≠ 47) : cutB (a ++ 47 :: b) = (a, b, true) := by
  unfold cutB; rw [ix_at h, if_pos (by omega)]; simp
structure validP (s : List UInt8) : Prop where
  ne : s ≠ []
  len : s.length ≤ 255
  dot : s ≠ [46]
  ok : ∀ c ∈ s, okc c
noncomputable abbrev pl1 (t : List UInt8) (zs : List (List UInt8)) := name_parts_1_l1 (σs := List (List UInt8)) (ρs := Unit) name_Split_r1 t zs
theorem pl_name {t : List UInt8} {zs : List (List UInt8)} {v rest : List UInt8} {x : Bool} (ht : t ≠ []) (hc : cutB t = (v, rest, x)) (hv : validP v) (hz : zs.length ≤ 1000) : pl1 t zs = some (.inl (rest, zs ++ [v])) := by
  unfold pl1 name_parts_1_l1
  rw [hc]
  have h1 : (t != ([] : List UInt8)) = true := by rw [bne_iff_ne]; exact ht
  have h2 : (v != ([] : List UInt8)) = true := by rw [bne_iff_ne]; exact hv.ne
  have h3 : (v != ([46] : List UInt8)) = true := by rw [bne_iff_ne]; exact hv.dot
  have h4 := hv.len
  simp only [h1, h2, h3, cond_true]
  unfold name_Split_r1
  rw [dF (show ¬ ((v.length : Int) > 255) by omega)]
  simp only [cond_false, app1 hz, Option.bind_some]
  rfl
theorem pl_end (zs : List (List UInt8)) : pl1 [] zs = some (.inr (.inl ([], zs))) := rfl
theorem split_of {path : List UInt8} {l : List (List UInt8)} (h1 : path.length ≤ 4096) (h0 : ∀ x ∈ path, x ≠ 0) (hl : l.length ≤ 128) (h : loopO (fun s => pl1 s.1 s.2) (path, []) = some (.inl ([], l))) : name_Split path = some (l, 0) := by
  unfold name_Split
  rw [dF (show ¬ ((path.length : Int) > 4096) by omega), ix_no h0, dF (show ¬ ((-1 : Int) ≥ 0) by omega)]
  simp only [cond_false]
  have e : name_parts_1 name_Split_r1 [] (name_parts path) = some (.inl l) := by
    unfold name_parts_1 name_parts
    rw [h]
    rfl
  rw [e]
  simp only [Option.bind_some, Sum.elim_inl]
  rw [dF (show ¬ ((l.length : Int) > 128) by omega)]
  rfl
theorem split_nil : name_Split [] = some ([], 0) := split_of (by decide) (fun x hx => by cases hx) (by decide) (loop_end (pl_end []))
theorem split_one {b : List UInt8} (hb : validP b) : name_Split b = some ([b], 0) := by
  have := hb.len
  refine split_of (by omega) (fun x hx => (hb.ok x hx).1) (by simp) ?_
  rw [loop_next (s := (b, [])) (pl_name hb.ne (cut_no fun x hx => (hb.ok x hx).2) hb (by simp))]
  exact loop_end (pl_end _)
theorem split_two {a b : List UInt8} (ha : validP a) (hb : validP b) : name_Split (a ++ 47 :: b) = some ([a, b], 0) := by
  have h1 := ha.len
  have h2 := hb.len
  refine split_of (by simp only [List.length_append, List.length_cons]; omega) (fun x hx => ?_) (by simp) ?_
  · rcases List.mem_append.1 hx with hx | hx
    · exact (ha.ok x hx).1
    · rcases List.mem_cons.1 hx with rfl | hx
      · decide
      · exact (hb.ok x hx).1
  · rw [loop_next (s := (a ++ 47 :: b, [])) (pl_name (by simp) (cut_at fun x hx => (ha.ok x hx).2) ha (by simp)), loop_next (s := (b, [] ++ [a])) (pl_name hb.ne (cut_no fun x hx => (hb.ok x hx).2) hb (by simp))]
    exact loop_end (pl_end _)
end Go.Proofs.Ytebbaokcgnjfiaa.F
