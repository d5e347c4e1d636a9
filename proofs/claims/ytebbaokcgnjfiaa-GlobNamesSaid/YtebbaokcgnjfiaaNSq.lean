/- name.Split: twins that the kernel can run. -/
import Derived.Test.YtebbaokcgnjfiaaNSp
import Derived.Test.YtebbaokcgnjfiaaE18
set_option linter.unusedVariables false
set_option linter.unusedSimpArgs false
namespace Go.Proofs.Ytebbaokcgnjfiaa.F
open Go Go.RowKit Go.Proofs.Ytebbaokcgnjfiaa.K Go.Proofs.Ytebbaokcgnjfiaa.K.E
noncomputable def name_parts_1_l1_q {σs ρs : Type} (yld : σs → (List UInt8) → Option (Sum σs ρs)) (t : (List UInt8)) (zs1 : σs) : Option (Sum ((List UInt8) × σs) (Sum ((List UInt8) × σs) (Sum σs ρs))) :=
(cond (t != ([] : List UInt8))
(cond ((cutB t).1 != ([] : List UInt8))
(cond ((cutB t).1 != ([46] : List UInt8))
(Option.bind (yld zs1 ((cutB t).1)) fun yy79 =>
Sum.elim (fun zs2 =>
some (.inl ((cutB t).2.1, zs2))) (fun q =>
some (.inr (.inr (.inr q)))) yy79)
(some (.inl ((cutB t).2.1, zs1))))
(some (.inl ((cutB t).2.1, zs1))))
(some (.inr (.inl (t, zs1)))))
noncomputable def name_parts_1_q {σs ρs : Type} (yld : σs → (List UInt8) → Option (Sum σs ρs)) (zs : σs) (v_ : (List UInt8)) : Option (Sum σs ρs) :=
(bnd
(loopF 400 (fun s => name_parts_1_l1_q (σs := σs) (ρs := ρs) yld s.1 s.2) (v_, zs)) fun (v_1, zs1) =>
some (.inl zs1))
noncomputable def name_Split_q (path : (List UInt8)) : Option ((List (List UInt8)) × Int) :=
(cond (decide ((path.length : Int) > 4096))
(some ([], 2))
(cond (decide ((Lib.indexByte path (0 : UInt8)) ≥ 0))
(some ([], 6))
(Option.bind (name_parts_1_q name_Split_r1 [] (name_parts path)) fun yv =>
Sum.elim (fun l_ => cond (decide ((l_.length : Int) > 128))
(some ([], 3))
(some (l_, 0))) (fun _ => some ([], 1)) yv)))
theorem name_parts_1_le {σs ρs : Type} (yld : σs → (List UInt8) → Option (Sum σs ρs)) (zs : σs) (v_ : (List UInt8)) : Tw (name_parts_1_q yld zs v_) (name_parts_1 yld zs v_) := by
  unfold name_parts_1 name_parts_1_q
  refine Tw.bnd (Tw.loop _ _ fun _ => Tw.rfl _) fun _ => Tw.rfl _
theorem name_Split_le (path : List UInt8) : Tw (name_Split_q path) (name_Split path) := by
  unfold name_Split name_Split_q
  repeat (first | exact Tw.rfl _ | apply name_parts_1_le | refine Tw.cond _ ?_ ?_ | refine Tw.bind ?_ fun _ => ?_ | refine Tw.bnd ?_ fun _ => ?_ | refine Tw.loop _ _ fun _ => ?_ | refine Tw.elim _ (fun _ => ?_) (fun _ => ?_))
end Go.Proofs.Ytebbaokcgnjfiaa.F
