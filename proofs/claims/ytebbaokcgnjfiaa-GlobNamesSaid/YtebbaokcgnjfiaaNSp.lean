/- name.Split: the plain functions. -/
import Derived.Test.YtebbaokcgnjfiaaM4
import Derived.Test.YtebbaokcgnjfiaaK8
set_option linter.unusedVariables false
set_option linter.unusedSimpArgs false
namespace Go.Proofs.Ytebbaokcgnjfiaa.F
open Go Go.RowKit Go.Proofs.Ytebbaokcgnjfiaa.K
/-- What strings.Cut tells at a slash. -/
def cutB (l : List UInt8) : List UInt8 × List UInt8 × Bool := if 0 ≤ Lib.indexByte l 47 then (l.take (Lib.indexByte l 47).toNat, l.drop ((Lib.indexByte l 47).toNat + 1), true) else (l, [], false)
theorem cutB_1 {l : List UInt8} (h : l.length ≤ 9223372036854775807) : (cutB l).1.length ≤ 9223372036854775807 := by
  unfold cutB
  split
  · simp only [List.length_take]; omega
  · exact h
theorem cutB_2 {l : List UInt8} (h : l.length ≤ 9223372036854775807) : (cutB l).2.1.length ≤ 9223372036854775807 := by
  unfold cutB
  split
  · simp only [List.length_drop]; omega
  · simp
def name_parts (path : (List UInt8)) : (List UInt8) :=
path
noncomputable def name_parts_1_l1 {σs ρs : Type} (yld : σs → (List UInt8) → Option (Sum σs ρs)) (t : (List UInt8)) (zs1 : σs) : Option (Sum ((List UInt8) × σs) (Sum ((List UInt8) × σs) (Sum σs ρs))) :=
(cond (t != ([] : List UInt8))
(cond ((cutB t).1 != ([] : List UInt8))
(cond ((cutB t).1 != ([46] : List UInt8))
(Option.bind (yld zs1 ((cutB t).1)) fun yy79 =>
Sum.elim (fun zs2 =>
some (.inl ((cutB t).2.1, zs2))) (fun q =>
some (.inr (.inr (.inr q)))) yy79)
(some (.inl ((cutB t).2.1, zs1))))
(some (.inl ((cutB t).2.1, zs1))))
(some (.inr (.inl (t, zs1)))))
noncomputable def name_parts_1 {σs ρs : Type} (yld : σs → (List UInt8) → Option (Sum σs ρs)) (zs : σs) (v_ : (List UInt8)) : Option (Sum σs ρs) :=
(bnd
(loopO (fun s => name_parts_1_l1 (σs := σs) (ρs := ρs) yld s.1 s.2) (v_, zs)) fun (v_1, zs1) =>
some (.inl zs1))
noncomputable def name_Split_r1 (l_ : (List (List UInt8))) (s_ : (List UInt8)) : Option (Sum (List (List UInt8)) Unit) :=
(cond (decide ((s_.length : Int) > 255))
(some (.inr ()))
(Option.bind (app l_ [s_]) fun b1 =>
some (.inl b1)))
noncomputable def name_Split (path : (List UInt8)) : Option ((List (List UInt8)) × Int) :=
(cond (decide ((path.length : Int) > 4096))
(some ([], 2))
(cond (decide ((Lib.indexByte path (0 : UInt8)) ≥ 0))
(some ([], 6))
(Option.bind (name_parts_1 name_Split_r1 [] (name_parts path)) fun yv =>
Sum.elim (fun l_ => cond (decide ((l_.length : Int) > 128))
(some ([], 3))
(some (l_, 0))) (fun _ => some ([], 1)) yv)))
end Go.Proofs.Ytebbaokcgnjfiaa.F
