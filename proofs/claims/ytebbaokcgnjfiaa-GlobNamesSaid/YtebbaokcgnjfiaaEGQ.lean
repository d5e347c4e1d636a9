/- Twins that the kernel can run: printed by equick.py. -/
import Derived.Test.YtebbaokcgnjfiaaEGP
import Derived.Test.YtebbaokcgnjfiaaE18
import Derived.Test.YtebbaokcgnjfiaaNSq
set_option linter.unusedVariables false
set_option linter.unusedSimpArgs false
namespace Go.Proofs.Ytebbaokcgnjfiaa.F
open Go Go.RowKit Go.Proofs.Ytebbaokcgnjfiaa.K Go.Proofs.Ytebbaokcgnjfiaa.K.E
noncomputable def glob_reader_more_q (s_ : List UInt8) (at_ : Int) (e : Int) : Option (Bool × ((List UInt8) × Int × Int)) :=
(cond (e == 0)
(cond (decide (at_ < (s_.length : Int)))
(Option.bind (idx s_ at_) fun c =>
some (((c.toNat : Int) != 47), (s_, at_, e)))
(some (false, (s_, at_, e))))
(some (false, (s_, at_, e))))
theorem glob_reader_more_le (s_ : List UInt8) (at_ : Int) (e : Int) : Tw (glob_reader_more_q s_ at_ e) (glob_reader_more s_ at_ e) := by
  unfold glob_reader_more glob_reader_more_q
  repeat (first | exact Tw.rfl _ | refine Tw.cond _ ?_ ?_ | refine Tw.bnd ?_ fun _ => ?_ | refine Tw.bind ?_ fun _ => ?_ | refine Tw.loop _ _ fun _ => ?_ | refine Tw.alt _ (fun _ => ?_) (fun _ => ?_) | refine Tw.dup _ ?_ | refine Tw.fork ?_ ?_ | refine Tw.map _ ?_)
noncomputable def glob_reader_stars_q (s_ : List UInt8) (at_ : Int) (e : Int) : Option ((Int × UInt64 × UInt64 × UInt64 × UInt64) × ((List UInt8) × Int × Int)) :=
some ((0, (0 : UInt64), (0 : UInt64), (0 : UInt64), (0 : UInt64)), (s_, (IntKind.i64.wrap (at_ + 1)), e))
theorem glob_reader_stars_le (s_ : List UInt8) (at_ : Int) (e : Int) : Tw (glob_reader_stars_q s_ at_ e) (glob_reader_stars s_ at_ e) := by
  unfold glob_reader_stars glob_reader_stars_q
  repeat (first | exact Tw.rfl _ | refine Tw.cond _ ?_ ?_ | refine Tw.bnd ?_ fun _ => ?_ | refine Tw.bind ?_ fun _ => ?_ | refine Tw.loop _ _ fun _ => ?_ | refine Tw.alt _ (fun _ => ?_) (fun _ => ?_) | refine Tw.dup _ ?_ | refine Tw.fork ?_ ?_ | refine Tw.map _ ?_)
noncomputable def glob_reader_question_q (s_ : List UInt8) (at_ : Int) (e : Int) : Option ((Int × UInt64 × UInt64 × UInt64 × UInt64) × ((List UInt8) × Int × Int)) :=
some ((1, (0 : UInt64), (0 : UInt64), (0 : UInt64), (0 : UInt64)), (s_, (IntKind.i64.wrap (at_ + 1)), e))
theorem glob_reader_question_le (s_ : List UInt8) (at_ : Int) (e : Int) : Tw (glob_reader_question_q s_ at_ e) (glob_reader_question s_ at_ e) := by
  unfold glob_reader_question glob_reader_question_q
  repeat (first | exact Tw.rfl _ | refine Tw.cond _ ?_ ?_ | refine Tw.bnd ?_ fun _ => ?_ | refine Tw.bind ?_ fun _ => ?_ | refine Tw.loop _ _ fun _ => ?_ | refine Tw.alt _ (fun _ => ?_) (fun _ => ?_) | refine Tw.dup _ ?_ | refine Tw.fork ?_ ?_ | refine Tw.map _ ?_)
noncomputable def glob_reader_fail_q (s_ : List UInt8) (at_ : Int) (e : Int) (e1 : Int) (at_1 : Int) : Option (((List UInt8) × Int × Int)) :=
(cond (e == 0)
(some (s_, at_1, e1))
(some (s_, at_, e)))
theorem glob_reader_fail_le (s_ : List UInt8) (at_ : Int) (e : Int) (e1 : Int) (at_1 : Int) : Tw (glob_reader_fail_q s_ at_ e e1 at_1) (glob_reader_fail s_ at_ e e1 at_1) := by
  unfold glob_reader_fail glob_reader_fail_q
  repeat (first | exact Tw.rfl _ | refine Tw.cond _ ?_ ?_ | refine Tw.bnd ?_ fun _ => ?_ | refine Tw.bind ?_ fun _ => ?_ | refine Tw.loop _ _ fun _ => ?_ | refine Tw.alt _ (fun _ => ?_) (fun _ => ?_) | refine Tw.dup _ ?_ | refine Tw.fork ?_ ?_ | refine Tw.map _ ?_)
noncomputable def glob_reader_take_l1_q (s_ : List UInt8) (at_ : Int) (e : Int) (none_ : List UInt8) (c2 : UInt8) (x1 : Int) : Option (Sum Int (Sum Unit (UInt8 × ((List UInt8) × Int × Int)))) :=
(cond (decide (x1 < (none_.length : Int)))
(Option.bind (idx none_ x1) fun c3 =>
(cond ((c3.toNat : Int) == (c2.toNat : Int))
(Option.bind (glob_reader_fail_q s_ at_ e 6 at_) fun r1 =>
some (.inr (.inr ((0 : UInt8), (r1.1, r1.2.1, r1.2.2)))))
(some (.inl (IntKind.i64.wrap (x1 + 1))))))
(some (.inr (.inl ()))))
theorem glob_reader_take_l1_le (s_ : List UInt8) (at_ : Int) (e : Int) (none_ : List UInt8) (c2 : UInt8) (x1 : Int) : Tw (glob_reader_take_l1_q s_ at_ e none_ c2 x1) (glob_reader_take_l1 s_ at_ e none_ c2 x1) := by
  unfold glob_reader_take_l1 glob_reader_take_l1_q
  repeat (first | exact Tw.rfl _ | apply glob_reader_fail_le | refine Tw.cond _ ?_ ?_ | refine Tw.bnd ?_ fun _ => ?_ | refine Tw.bind ?_ fun _ => ?_ | refine Tw.loop _ _ fun _ => ?_ | refine Tw.alt _ (fun _ => ?_) (fun _ => ?_) | refine Tw.dup _ ?_ | refine Tw.fork ?_ ?_ | refine Tw.map _ ?_)
noncomputable def glob_reader_take_q (s_ : List UInt8) (at_ : Int) (e : Int) (none_ : List UInt8) : Option (UInt8 × ((List UInt8) × Int × Int)) :=
(cond (e != 0)
(some ((0 : UInt8), (s_, at_, e)))
(bnd ((cond (at_ == (s_.length : Int))
(some (.inl true))
(Option.bind (idx s_ at_) fun c =>
(cond ((c.toNat : Int) == 0)
(some (.inl true))
(Option.bind (idx s_ at_) fun c1 =>
some (.inl ((c1.toNat : Int) == 47)))))) : Option (Sum Bool (UInt8 × ((List UInt8) × Int × Int)))) fun x =>
(cond x
(Option.bind (glob_reader_fail_q s_ at_ e 6 at_) fun r =>
some ((0 : UInt8), (r.1, r.2.1, r.2.2)))
(Option.bind (idx s_ at_) fun c2 =>
(bnd (loopF 400 (fun s => glob_reader_take_l1_q s_ at_ e none_ c2 s) (0 : Int)) fun _ =>
some (c2, (s_, (IntKind.i64.wrap (at_ + 1)), e)))))))
theorem glob_reader_take_le (s_ : List UInt8) (at_ : Int) (e : Int) (none_ : List UInt8) : Tw (glob_reader_take_q s_ at_ e none_) (glob_reader_take s_ at_ e none_) := by
  unfold glob_reader_take glob_reader_take_q
  repeat (first | exact Tw.rfl _ | apply glob_reader_fail_le | apply glob_reader_take_l1_le | refine Tw.cond _ ?_ ?_ | refine Tw.bnd ?_ fun _ => ?_ | refine Tw.bind ?_ fun _ => ?_ | refine Tw.loop _ _ fun _ => ?_ | refine Tw.alt _ (fun _ => ?_) (fun _ => ?_) | refine Tw.dup _ ?_ | refine Tw.fork ?_ ?_ | refine Tw.map _ ?_)
noncomputable def glob_reader_escaped_q (s_ : List UInt8) (at_ : Int) (e : Int) (none_ : List UInt8) : Option (UInt8 × ((List UInt8) × Int × Int)) :=
(Option.bind (glob_reader_take_q s_ at_ e none_) fun r =>
(cond ((r.1.toNat : Int) == 92)
(Option.bind (glob_reader_take_q r.2.1 r.2.2.1 r.2.2.2 ([] : List UInt8)) fun r1 =>
some (r1.1, (r1.2.1, r1.2.2.1, r1.2.2.2)))
(some (r.1, (r.2.1, r.2.2.1, r.2.2.2)))))
theorem glob_reader_escaped_le (s_ : List UInt8) (at_ : Int) (e : Int) (none_ : List UInt8) : Tw (glob_reader_escaped_q s_ at_ e none_) (glob_reader_escaped s_ at_ e none_) := by
  unfold glob_reader_escaped glob_reader_escaped_q
  repeat (first | exact Tw.rfl _ | apply glob_reader_take_le | refine Tw.cond _ ?_ ?_ | refine Tw.bnd ?_ fun _ => ?_ | refine Tw.bind ?_ fun _ => ?_ | refine Tw.loop _ _ fun _ => ?_ | refine Tw.alt _ (fun _ => ?_) (fun _ => ?_) | refine Tw.dup _ ?_ | refine Tw.fork ?_ ?_ | refine Tw.map _ ?_)
noncomputable def glob_piece_put_q (kind : Int) (in_ : UInt64) (in_1 : UInt64) (in_2 : UInt64) (in_3 : UInt64) (c : UInt8) : Option ((Int × UInt64 × UInt64 × UInt64 × UInt64)) :=
(cond (decide (((shr8 c 6).toNat : Int) = 0))
(cond (decide (((shr8 c 6).toNat : Int) = 0))
(some (kind, (in_ ||| (shl64 (1 : UInt64) ((c &&& (63 : UInt8)).toNat : Int))), in_1, in_2, in_3))
(cond (decide (((shr8 c 6).toNat : Int) = 1))
(some (kind, in_, (in_ ||| (shl64 (1 : UInt64) ((c &&& (63 : UInt8)).toNat : Int))), in_2, in_3))
(cond (decide (((shr8 c 6).toNat : Int) = 2))
(some (kind, in_, in_1, (in_ ||| (shl64 (1 : UInt64) ((c &&& (63 : UInt8)).toNat : Int))), in_3))
(cond (decide (((shr8 c 6).toNat : Int) = 3))
(some (kind, in_, in_1, in_2, (in_ ||| (shl64 (1 : UInt64) ((c &&& (63 : UInt8)).toNat : Int)))))
none))))
(cond (decide (((shr8 c 6).toNat : Int) = 1))
(cond (decide (((shr8 c 6).toNat : Int) = 0))
(some (kind, (in_1 ||| (shl64 (1 : UInt64) ((c &&& (63 : UInt8)).toNat : Int))), in_1, in_2, in_3))
(cond (decide (((shr8 c 6).toNat : Int) = 1))
(some (kind, in_, (in_1 ||| (shl64 (1 : UInt64) ((c &&& (63 : UInt8)).toNat : Int))), in_2, in_3))
(cond (decide (((shr8 c 6).toNat : Int) = 2))
(some (kind, in_, in_1, (in_1 ||| (shl64 (1 : UInt64) ((c &&& (63 : UInt8)).toNat : Int))), in_3))
(cond (decide (((shr8 c 6).toNat : Int) = 3))
(some (kind, in_, in_1, in_2, (in_1 ||| (shl64 (1 : UInt64) ((c &&& (63 : UInt8)).toNat : Int)))))
none))))
(cond (decide (((shr8 c 6).toNat : Int) = 2))
(cond (decide (((shr8 c 6).toNat : Int) = 0))
(some (kind, (in_2 ||| (shl64 (1 : UInt64) ((c &&& (63 : UInt8)).toNat : Int))), in_1, in_2, in_3))
(cond (decide (((shr8 c 6).toNat : Int) = 1))
(some (kind, in_, (in_2 ||| (shl64 (1 : UInt64) ((c &&& (63 : UInt8)).toNat : Int))), in_2, in_3))
(cond (decide (((shr8 c 6).toNat : Int) = 2))
(some (kind, in_, in_1, (in_2 ||| (shl64 (1 : UInt64) ((c &&& (63 : UInt8)).toNat : Int))), in_3))
(cond (decide (((shr8 c 6).toNat : Int) = 3))
(some (kind, in_, in_1, in_2, (in_2 ||| (shl64 (1 : UInt64) ((c &&& (63 : UInt8)).toNat : Int)))))
none))))
(cond (decide (((shr8 c 6).toNat : Int) = 3))
(cond (decide (((shr8 c 6).toNat : Int) = 0))
(some (kind, (in_3 ||| (shl64 (1 : UInt64) ((c &&& (63 : UInt8)).toNat : Int))), in_1, in_2, in_3))
(cond (decide (((shr8 c 6).toNat : Int) = 1))
(some (kind, in_, (in_3 ||| (shl64 (1 : UInt64) ((c &&& (63 : UInt8)).toNat : Int))), in_2, in_3))
(cond (decide (((shr8 c 6).toNat : Int) = 2))
(some (kind, in_, in_1, (in_3 ||| (shl64 (1 : UInt64) ((c &&& (63 : UInt8)).toNat : Int))), in_3))
(cond (decide (((shr8 c 6).toNat : Int) = 3))
(some (kind, in_, in_1, in_2, (in_3 ||| (shl64 (1 : UInt64) ((c &&& (63 : UInt8)).toNat : Int)))))
none))))
none))))
theorem glob_piece_put_le (kind : Int) (in_ : UInt64) (in_1 : UInt64) (in_2 : UInt64) (in_3 : UInt64) (c : UInt8) : Tw (glob_piece_put_q kind in_ in_1 in_2 in_3 c) (glob_piece_put kind in_ in_1 in_2 in_3 c) := by
  unfold glob_piece_put glob_piece_put_q
  repeat (first | exact Tw.rfl _ | refine Tw.cond _ ?_ ?_ | refine Tw.bnd ?_ fun _ => ?_ | refine Tw.bind ?_ fun _ => ?_ | refine Tw.loop _ _ fun _ => ?_ | refine Tw.alt _ (fun _ => ?_) (fun _ => ?_) | refine Tw.dup _ ?_ | refine Tw.fork ?_ ?_ | refine Tw.map _ ?_)
noncomputable def glob_reader_ranges_l2_q (j2 : UInt8 × ((List UInt8) × Int × Int)) (c3 : Int) (b8 : Int) (b9 : UInt64) (b10 : UInt64) (b11 : UInt64) (b12 : UInt64) : Option (Sum (Int × (Int × UInt64 × UInt64 × UInt64 × UInt64)) (Sum ((Int × UInt64 × UInt64 × UInt64 × UInt64)) (Sum (Bool × ((List UInt8) × Int × Int) × (Int × UInt64 × UInt64 × UInt64 × UInt64)) (Sum (((List UInt8) × Int × Int) × (Int × UInt64 × UInt64 × UInt64 × UInt64)) ((Int × UInt64 × UInt64 × UInt64 × UInt64) × ((List UInt8) × Int × Int)))))) :=
(cond (decide (c3 ≤ (j2.1.toNat : Int)))
(cond (j2.2.2.2 == 0)
(Option.bind (glob_piece_put_q b8 b9 b10 b11 b12 (UInt8.ofInt c3)) fun r3 =>
some (.inl ((IntKind.i64.wrap (c3 + 1)), (r3.1, r3.2.1, r3.2.2.1, r3.2.2.2.1, r3.2.2.2.2))))
(some (.inr (.inl (b8, b9, b10, b11, b12)))))
(some (.inr (.inl (b8, b9, b10, b11, b12)))))
theorem glob_reader_ranges_l2_le (j2 : UInt8 × ((List UInt8) × Int × Int)) (c3 : Int) (b8 : Int) (b9 : UInt64) (b10 : UInt64) (b11 : UInt64) (b12 : UInt64) : Tw (glob_reader_ranges_l2_q j2 c3 b8 b9 b10 b11 b12) (glob_reader_ranges_l2 j2 c3 b8 b9 b10 b11 b12) := by
  unfold glob_reader_ranges_l2 glob_reader_ranges_l2_q
  repeat (first | exact Tw.rfl _ | apply glob_piece_put_le | refine Tw.cond _ ?_ ?_ | refine Tw.bnd ?_ fun _ => ?_ | refine Tw.bind ?_ fun _ => ?_ | refine Tw.loop _ _ fun _ => ?_ | refine Tw.alt _ (fun _ => ?_) (fun _ => ?_) | refine Tw.dup _ ?_ | refine Tw.fork ?_ ?_ | refine Tw.map _ ?_)
noncomputable def glob_reader_ranges_l1_q (first : Bool) (b : List UInt8) (b1 : Int) (b2 : Int) (b3 : Int) (b4 : UInt64) (b5 : UInt64) (b6 : UInt64) (b7 : UInt64) : Option (Sum (Bool × ((List UInt8) × Int × Int) × (Int × UInt64 × UInt64 × UInt64 × UInt64)) (Sum (((List UInt8) × Int × Int) × (Int × UInt64 × UInt64 × UInt64 × UInt64)) ((Int × UInt64 × UInt64 × UInt64 × UInt64) × ((List UInt8) × Int × Int)))) :=
(bnd ((cond (b2 == 0)
(cond first
(some (.inl true))
(cond (b1 == (b.length : Int))
(some (.inl true))
(Option.bind (idx b b1) fun c1 =>
some (.inl ((c1.toNat : Int) != 93)))))
(some (.inl false))) : Option (Sum Bool (Sum (Bool × ((List UInt8) × Int × Int) × (Int × UInt64 × UInt64 × UInt64 × UInt64)) (Sum (((List UInt8) × Int × Int) × (Int × UInt64 × UInt64 × UInt64 × UInt64)) ((Int × UInt64 × UInt64 × UInt64 × UInt64) × ((List UInt8) × Int × Int)))))) fun x =>
(cond x
(Option.bind (glob_reader_escaped_q b b1 b2 ([93, 45] : List UInt8)) fun r =>
(bnd ((cond (r.2.2.2 == 0)
(cond (decide (r.2.2.1 < (r.2.1.length : Int)))
(Option.bind (idx r.2.1 r.2.2.1) fun c2 =>
some (.inl ((c2.toNat : Int) == 45)))
(some (.inl false)))
(some (.inl false))) : Option (Sum Bool (Sum (Bool × ((List UInt8) × Int × Int) × (Int × UInt64 × UInt64 × UInt64 × UInt64)) (Sum (((List UInt8) × Int × Int) × (Int × UInt64 × UInt64 × UInt64 × UInt64)) ((Int × UInt64 × UInt64 × UInt64 × UInt64) × ((List UInt8) × Int × Int)))))) fun x1 =>
(bnd ((cond x1
(Option.bind (glob_reader_escaped_q r.2.1 (IntKind.i64.wrap (r.2.2.1 + 1)) r.2.2.2 ([93, 45] : List UInt8)) fun r1 =>
(bnd ((cond (r1.2.2.2 == 0)
(some (.inl (decide ((r1.1.toNat : Int) < (r.1.toNat : Int)))))
(some (.inl false))) : Option (Sum Bool (Sum (UInt8 × ((List UInt8) × Int × Int)) (Sum (Bool × ((List UInt8) × Int × Int) × (Int × UInt64 × UInt64 × UInt64 × UInt64)) (Sum (((List UInt8) × Int × Int) × (Int × UInt64 × UInt64 × UInt64 × UInt64)) ((Int × UInt64 × UInt64 × UInt64 × UInt64) × ((List UInt8) × Int × Int))))))) fun x2 =>
(bnd ((cond x2
(Option.bind (glob_reader_fail_q r1.2.1 r1.2.2.1 r1.2.2.2 6 (IntKind.i64.wrap (r.2.2.1 + 1))) fun r2 =>
some (.inl (r2.1, r2.2.1, r2.2.2)))
(some (.inl (r1.2.1, r1.2.2.1, r1.2.2.2)))) : Option (Sum (((List UInt8) × Int × Int)) (Sum (UInt8 × ((List UInt8) × Int × Int)) (Sum (Bool × ((List UInt8) × Int × Int) × (Int × UInt64 × UInt64 × UInt64 × UInt64)) (Sum (((List UInt8) × Int × Int) × (Int × UInt64 × UInt64 × UInt64 × UInt64)) ((Int × UInt64 × UInt64 × UInt64 × UInt64) × ((List UInt8) × Int × Int))))))) fun j1 =>
some (.inl (r1.1, (j1.1, j1.2.1, j1.2.2))))))
(some (.inl (r.1, (r.2.1, r.2.2.1, r.2.2.2))))) : Option (Sum (UInt8 × ((List UInt8) × Int × Int)) (Sum (Bool × ((List UInt8) × Int × Int) × (Int × UInt64 × UInt64 × UInt64 × UInt64)) (Sum (((List UInt8) × Int × Int) × (Int × UInt64 × UInt64 × UInt64 × UInt64)) ((Int × UInt64 × UInt64 × UInt64 × UInt64) × ((List UInt8) × Int × Int)))))) fun j2 =>
(bnd (loopF 400 (fun s => glob_reader_ranges_l2_q j2 s.1 s.2.1 s.2.2.1 s.2.2.2.1 s.2.2.2.2.1 s.2.2.2.2.2) (((r.1.toNat : Int), (b3, b4, b5, b6, b7)) : Int × (Int × UInt64 × UInt64 × UInt64 × UInt64))) fun j3 =>
some (.inl (false, (j2.2.1, j2.2.2.1, j2.2.2.2), (j3.1, j3.2.1, j3.2.2.1, j3.2.2.2.1, j3.2.2.2.2)))))))
(some (.inr (.inl ((b, b1, b2), (b3, b4, b5, b6, b7)))))))
theorem glob_reader_ranges_l1_le (first : Bool) (b : List UInt8) (b1 : Int) (b2 : Int) (b3 : Int) (b4 : UInt64) (b5 : UInt64) (b6 : UInt64) (b7 : UInt64) : Tw (glob_reader_ranges_l1_q first b b1 b2 b3 b4 b5 b6 b7) (glob_reader_ranges_l1 first b b1 b2 b3 b4 b5 b6 b7) := by
  unfold glob_reader_ranges_l1 glob_reader_ranges_l1_q
  repeat (first | exact Tw.rfl _ | apply glob_reader_fail_le | apply glob_reader_escaped_le | apply glob_reader_ranges_l2_le | refine Tw.cond _ ?_ ?_ | refine Tw.bnd ?_ fun _ => ?_ | refine Tw.bind ?_ fun _ => ?_ | refine Tw.loop _ _ fun _ => ?_ | refine Tw.alt _ (fun _ => ?_) (fun _ => ?_) | refine Tw.dup _ ?_ | refine Tw.fork ?_ ?_ | refine Tw.map _ ?_)
noncomputable def glob_reader_ranges_l3_q (not_ : Bool) (x3 : Int) (b13 : Int) (b14 : UInt64) (b15 : UInt64) (b16 : UInt64) (b17 : UInt64) : Option (Sum (Int × (Int × UInt64 × UInt64 × UInt64 × UInt64)) (Sum ((Int × UInt64 × UInt64 × UInt64 × UInt64)) ((Int × UInt64 × UInt64 × UInt64 × UInt64) × ((List UInt8) × Int × Int)))) :=
(cond (decide (x3 < 4))
(cond not_
(cond (decide (x3 = 0))
(cond (decide (x3 = 0))
(some (.inl ((IntKind.i64.wrap (x3 + 1)), (b13, ((18446744073709551615 : UInt64) ^^^ b14), b15, b16, b17))))
(cond (decide (x3 = 1))
(some (.inl ((IntKind.i64.wrap (x3 + 1)), (b13, b14, ((18446744073709551615 : UInt64) ^^^ b14), b16, b17))))
(cond (decide (x3 = 2))
(some (.inl ((IntKind.i64.wrap (x3 + 1)), (b13, b14, b15, ((18446744073709551615 : UInt64) ^^^ b14), b17))))
(cond (decide (x3 = 3))
(some (.inl ((IntKind.i64.wrap (x3 + 1)), (b13, b14, b15, b16, ((18446744073709551615 : UInt64) ^^^ b14)))))
none))))
(cond (decide (x3 = 1))
(cond (decide (x3 = 0))
(some (.inl ((IntKind.i64.wrap (x3 + 1)), (b13, ((18446744073709551615 : UInt64) ^^^ b15), b15, b16, b17))))
(cond (decide (x3 = 1))
(some (.inl ((IntKind.i64.wrap (x3 + 1)), (b13, b14, ((18446744073709551615 : UInt64) ^^^ b15), b16, b17))))
(cond (decide (x3 = 2))
(some (.inl ((IntKind.i64.wrap (x3 + 1)), (b13, b14, b15, ((18446744073709551615 : UInt64) ^^^ b15), b17))))
(cond (decide (x3 = 3))
(some (.inl ((IntKind.i64.wrap (x3 + 1)), (b13, b14, b15, b16, ((18446744073709551615 : UInt64) ^^^ b15)))))
none))))
(cond (decide (x3 = 2))
(cond (decide (x3 = 0))
(some (.inl ((IntKind.i64.wrap (x3 + 1)), (b13, ((18446744073709551615 : UInt64) ^^^ b16), b15, b16, b17))))
(cond (decide (x3 = 1))
(some (.inl ((IntKind.i64.wrap (x3 + 1)), (b13, b14, ((18446744073709551615 : UInt64) ^^^ b16), b16, b17))))
(cond (decide (x3 = 2))
(some (.inl ((IntKind.i64.wrap (x3 + 1)), (b13, b14, b15, ((18446744073709551615 : UInt64) ^^^ b16), b17))))
(cond (decide (x3 = 3))
(some (.inl ((IntKind.i64.wrap (x3 + 1)), (b13, b14, b15, b16, ((18446744073709551615 : UInt64) ^^^ b16)))))
none))))
(cond (decide (x3 = 3))
(cond (decide (x3 = 0))
(some (.inl ((IntKind.i64.wrap (x3 + 1)), (b13, ((18446744073709551615 : UInt64) ^^^ b17), b15, b16, b17))))
(cond (decide (x3 = 1))
(some (.inl ((IntKind.i64.wrap (x3 + 1)), (b13, b14, ((18446744073709551615 : UInt64) ^^^ b17), b16, b17))))
(cond (decide (x3 = 2))
(some (.inl ((IntKind.i64.wrap (x3 + 1)), (b13, b14, b15, ((18446744073709551615 : UInt64) ^^^ b17), b17))))
(cond (decide (x3 = 3))
(some (.inl ((IntKind.i64.wrap (x3 + 1)), (b13, b14, b15, b16, ((18446744073709551615 : UInt64) ^^^ b17)))))
none))))
none))))
(some (.inl ((IntKind.i64.wrap (x3 + 1)), (b13, b14, b15, b16, b17)))))
(some (.inr (.inl (b13, b14, b15, b16, b17)))))
theorem glob_reader_ranges_l3_le (not_ : Bool) (x3 : Int) (b13 : Int) (b14 : UInt64) (b15 : UInt64) (b16 : UInt64) (b17 : UInt64) : Tw (glob_reader_ranges_l3_q not_ x3 b13 b14 b15 b16 b17) (glob_reader_ranges_l3 not_ x3 b13 b14 b15 b16 b17) := by
  unfold glob_reader_ranges_l3 glob_reader_ranges_l3_q
  repeat (first | exact Tw.rfl _ | refine Tw.cond _ ?_ ?_ | refine Tw.bnd ?_ fun _ => ?_ | refine Tw.bind ?_ fun _ => ?_ | refine Tw.loop _ _ fun _ => ?_ | refine Tw.alt _ (fun _ => ?_) (fun _ => ?_) | refine Tw.dup _ ?_ | refine Tw.fork ?_ ?_ | refine Tw.map _ ?_)
noncomputable def glob_reader_ranges_q (s_ : List UInt8) (at_ : Int) (e : Int) : Option ((Int × UInt64 × UInt64 × UInt64 × UInt64) × ((List UInt8) × Int × Int)) :=
(bnd ((cond (decide ((IntKind.i64.wrap (at_ + 1)) < (s_.length : Int)))
(Option.bind (idx s_ (IntKind.i64.wrap (at_ + 1))) fun c =>
some (.inl ((c.toNat : Int) == 94)))
(some (.inl false))) : Option (Sum Bool ((Int × UInt64 × UInt64 × UInt64 × UInt64) × ((List UInt8) × Int × Int)))) fun not_ =>
(bnd ((cond not_
(some (.inl (s_, (IntKind.i64.wrap ((IntKind.i64.wrap (at_ + 1)) + 1)), e)))
(some (.inl (s_, (IntKind.i64.wrap (at_ + 1)), e)))) : Option (Sum (((List UInt8) × Int × Int)) ((Int × UInt64 × UInt64 × UInt64 × UInt64) × ((List UInt8) × Int × Int)))) fun j =>
(bnd (loopF 400 (fun s => glob_reader_ranges_l1_q s.1 s.2.1.1 s.2.1.2.1 s.2.1.2.2 s.2.2.1 s.2.2.2.1 s.2.2.2.2.1 s.2.2.2.2.2.1 s.2.2.2.2.2.2) ((true, (j.1, j.2.1, j.2.2), (2, (0 : UInt64), (0 : UInt64), (0 : UInt64), (0 : UInt64))) : Bool × ((List UInt8) × Int × Int) × (Int × UInt64 × UInt64 × UInt64 × UInt64))) fun j4 =>
(Option.bind (glob_reader_take_q j4.1.1 j4.1.2.1 j4.1.2.2 ([] : List UInt8)) fun r4 =>
(bnd (loopF 400 (fun s => glob_reader_ranges_l3_q not_ s.1 s.2.1 s.2.2.1 s.2.2.2.1 s.2.2.2.2.1 s.2.2.2.2.2) ((0, (j4.2.1, j4.2.2.1, j4.2.2.2.1, j4.2.2.2.2.1, j4.2.2.2.2.2)) : Int × (Int × UInt64 × UInt64 × UInt64 × UInt64))) fun j5 =>
some ((j5.1, j5.2.1, j5.2.2.1, j5.2.2.2.1, j5.2.2.2.2), (r4.2.1, r4.2.2.1, r4.2.2.2)))))))
theorem glob_reader_ranges_le (s_ : List UInt8) (at_ : Int) (e : Int) : Tw (glob_reader_ranges_q s_ at_ e) (glob_reader_ranges s_ at_ e) := by
  unfold glob_reader_ranges glob_reader_ranges_q
  repeat (first | exact Tw.rfl _ | apply glob_reader_take_le | apply glob_reader_ranges_l1_le | apply glob_reader_ranges_l3_le | refine Tw.cond _ ?_ ?_ | refine Tw.bnd ?_ fun _ => ?_ | refine Tw.bind ?_ fun _ => ?_ | refine Tw.loop _ _ fun _ => ?_ | refine Tw.alt _ (fun _ => ?_) (fun _ => ?_) | refine Tw.dup _ ?_ | refine Tw.fork ?_ ?_ | refine Tw.map _ ?_)
noncomputable def glob_reader_byte1_q (s_ : List UInt8) (at_ : Int) (e : Int) : Option ((Int × UInt64 × UInt64 × UInt64 × UInt64) × ((List UInt8) × Int × Int)) :=
(Option.bind (glob_reader_escaped_q s_ at_ e ([] : List UInt8)) fun r =>
(Option.bind (glob_piece_put_q 2 (0 : UInt64) (0 : UInt64) (0 : UInt64) (0 : UInt64) r.1) fun r1 =>
some ((r1.1, r1.2.1, r1.2.2.1, r1.2.2.2.1, r1.2.2.2.2), (r.2.1, r.2.2.1, r.2.2.2))))
theorem glob_reader_byte1_le (s_ : List UInt8) (at_ : Int) (e : Int) : Tw (glob_reader_byte1_q s_ at_ e) (glob_reader_byte1 s_ at_ e) := by
  unfold glob_reader_byte1 glob_reader_byte1_q
  repeat (first | exact Tw.rfl _ | apply glob_reader_escaped_le | apply glob_piece_put_le | refine Tw.cond _ ?_ ?_ | refine Tw.bnd ?_ fun _ => ?_ | refine Tw.bind ?_ fun _ => ?_ | refine Tw.loop _ _ fun _ => ?_ | refine Tw.alt _ (fun _ => ?_) (fun _ => ?_) | refine Tw.dup _ ?_ | refine Tw.fork ?_ ?_ | refine Tw.map _ ?_)
noncomputable def glob_reader_part_l1_q (b : List UInt8) (b1 : Int) (b2 : Int) (b3 : Bool) (b4 : List TGlobPiece) : Option (Sum (((List UInt8) × Int × Int) × (Bool × (List TGlobPiece))) (Sum (((List UInt8) × Int × Int) × (Bool × (List TGlobPiece))) ((Bool × (List TGlobPiece)) × ((List UInt8) × Int × Int)))) :=
(Option.bind (glob_reader_more_q b b1 b2) fun r =>
(cond r.1
(Option.bind (idx r.2.1 r.2.2.1) fun c =>
(cond ((c.toNat : Int) == 42)
(Option.bind (glob_reader_stars_q r.2.1 r.2.2.1 r.2.2.2) fun r1 =>
(Option.bind (app b4 ([({ f_kind := r1.1.1, f_in := r1.1.2 } : TGlobPiece)])) fun z =>
some (.inl ((r1.2.1, r1.2.2.1, r1.2.2.2), (b3, z)))))
(cond ((c.toNat : Int) == 63)
(Option.bind (glob_reader_question_q r.2.1 r.2.2.1 r.2.2.2) fun r2 =>
(Option.bind (app b4 ([({ f_kind := r2.1.1, f_in := r2.1.2 } : TGlobPiece)])) fun z1 =>
some (.inl ((r2.2.1, r2.2.2.1, r2.2.2.2), (b3, z1)))))
(cond ((c.toNat : Int) == 91)
(Option.bind (glob_reader_ranges_q r.2.1 r.2.2.1 r.2.2.2) fun r3 =>
(Option.bind (app b4 ([({ f_kind := r3.1.1, f_in := r3.1.2 } : TGlobPiece)])) fun z2 =>
some (.inl ((r3.2.1, r3.2.2.1, r3.2.2.2), (b3, z2)))))
(Option.bind (glob_reader_byte1_q r.2.1 r.2.2.1 r.2.2.2) fun r4 =>
(Option.bind (app b4 ([({ f_kind := r4.1.1, f_in := r4.1.2 } : TGlobPiece)])) fun z3 =>
some (.inl ((r4.2.1, r4.2.2.1, r4.2.2.2), (b3, z3)))))))))
(some (.inr (.inl ((r.2.1, r.2.2.1, r.2.2.2), (b3, b4)))))))
theorem glob_reader_part_l1_le (b : List UInt8) (b1 : Int) (b2 : Int) (b3 : Bool) (b4 : List TGlobPiece) : Tw (glob_reader_part_l1_q b b1 b2 b3 b4) (glob_reader_part_l1 b b1 b2 b3 b4) := by
  unfold glob_reader_part_l1 glob_reader_part_l1_q
  repeat (first | exact Tw.rfl _ | apply glob_reader_more_le | apply glob_reader_stars_le | apply glob_reader_question_le | apply glob_reader_ranges_le | apply glob_reader_byte1_le | refine Tw.cond _ ?_ ?_ | refine Tw.bnd ?_ fun _ => ?_ | refine Tw.bind ?_ fun _ => ?_ | refine Tw.loop _ _ fun _ => ?_ | refine Tw.alt _ (fun _ => ?_) (fun _ => ?_) | refine Tw.dup _ ?_ | refine Tw.fork ?_ ?_ | refine Tw.map _ ?_)
noncomputable def glob_reader_part_q (s_ : List UInt8) (at_ : Int) (e : Int) : Option ((Bool × (List TGlobPiece)) × ((List UInt8) × Int × Int)) :=
(bnd (loopF 400 (fun s => glob_reader_part_l1_q s.1.1 s.1.2.1 s.1.2.2 s.2.1 s.2.2) (((s_, at_, e), (false, [])) : ((List UInt8) × Int × Int) × (Bool × (List TGlobPiece)))) fun j =>
(bnd ((cond (j.1.2.1 == at_)
(Option.bind (glob_reader_fail_q j.1.1 j.1.2.1 j.1.2.2 6 j.1.2.1) fun r5 =>
some (.inl (r5.1, r5.2.1, r5.2.2)))
(some (.inl (j.1.1, j.1.2.1, j.1.2.2)))) : Option (Sum (((List UInt8) × Int × Int)) ((Bool × (List TGlobPiece)) × ((List UInt8) × Int × Int)))) fun j1 =>
(cond (j1.2.2 == 0)
(Option.bind (slc j1.1 at_ j1.2.1) fun y_ =>
some (((y_ == ([42, 42] : List UInt8)), j.2.2), (j1.1, j1.2.1, j1.2.2)))
(some ((false, j.2.2), (j1.1, j1.2.1, j1.2.2))))))
theorem glob_reader_part_le (s_ : List UInt8) (at_ : Int) (e : Int) : Tw (glob_reader_part_q s_ at_ e) (glob_reader_part s_ at_ e) := by
  unfold glob_reader_part glob_reader_part_q
  repeat (first | exact Tw.rfl _ | apply glob_reader_fail_le | apply glob_reader_part_l1_le | refine Tw.cond _ ?_ ?_ | refine Tw.bnd ?_ fun _ => ?_ | refine Tw.bind ?_ fun _ => ?_ | refine Tw.loop _ _ fun _ => ?_ | refine Tw.alt _ (fun _ => ?_) (fun _ => ?_) | refine Tw.dup _ ?_ | refine Tw.fork ?_ ?_ | refine Tw.map _ ?_)
noncomputable def glob_Compile_l1_q (s_ : List UInt8) (b : List UInt8) (b1 : Int) (b2 : Int) (b3 : List UInt8) (b4 : List TGlobPart) : Option (Sum (((List UInt8) × Int × Int) × ((List UInt8) × (List TGlobPart))) (Sum Unit (((Unit) ⊕ ((List UInt8) × (List TGlobPart))) × Int × Int))) :=
(bnd ((cond ((b4.length : Int) == 128)
(Option.bind (glob_reader_fail_q b b1 b2 3 b1) fun r =>
some (.inl (r.1, r.2.1, r.2.2)))
(some (.inl (b, b1, b2)))) : Option (Sum (((List UInt8) × Int × Int)) (Sum (((List UInt8) × Int × Int) × ((List UInt8) × (List TGlobPart))) (Sum Unit (((Unit) ⊕ ((List UInt8) × (List TGlobPart))) × Int × Int))))) fun j =>
(cond (j.2.2 != 0)
(some (.inr (.inr ((.inl ()), j.2.2, j.2.1))))
(bnd ((Option.bind (glob_reader_part_q j.1 j.2.1 j.2.2) fun r1 =>
(Option.bind (app b4 ([({ f_any := r1.1.1, f_pieces := r1.1.2 } : TGlobPart)])) fun z =>
some (.inl ((r1.2.1, r1.2.2.1, r1.2.2.2), (b3, z))))) : Option (Sum (((List UInt8) × Int × Int) × ((List UInt8) × (List TGlobPart))) (Sum (((List UInt8) × Int × Int) × ((List UInt8) × (List TGlobPart))) (Sum Unit (((Unit) ⊕ ((List UInt8) × (List TGlobPart))) × Int × Int))))) fun j1 =>
(cond (j1.1.2.2 != 0)
(some (.inr (.inr ((.inl ()), j1.1.2.2, j1.1.2.1))))
(cond (j1.1.2.1 == (s_.length : Int))
(some (.inr (.inr ((.inr (j1.2.1, j1.2.2)), 0, (s_.length : Int)))))
(some (.inl ((j1.1.1, (IntKind.i64.wrap (j1.1.2.1 + 1)), j1.1.2.2), (j1.2.1, j1.2.2)))))))))
theorem glob_Compile_l1_le (s_ : List UInt8) (b : List UInt8) (b1 : Int) (b2 : Int) (b3 : List UInt8) (b4 : List TGlobPart) : Tw (glob_Compile_l1_q s_ b b1 b2 b3 b4) (glob_Compile_l1 s_ b b1 b2 b3 b4) := by
  unfold glob_Compile_l1 glob_Compile_l1_q
  repeat (first | exact Tw.rfl _ | apply glob_reader_fail_le | apply glob_reader_part_le | refine Tw.cond _ ?_ ?_ | refine Tw.bnd ?_ fun _ => ?_ | refine Tw.bind ?_ fun _ => ?_ | refine Tw.loop _ _ fun _ => ?_ | refine Tw.alt _ (fun _ => ?_) (fun _ => ?_) | refine Tw.dup _ ?_ | refine Tw.fork ?_ ?_ | refine Tw.map _ ?_)
noncomputable def glob_Compile_q (s_ : List UInt8) : Option (((Unit) ⊕ ((List UInt8) × (List TGlobPart))) × Int × Int) :=
(cond (decide ((s_.length : Int) > 4096))
(some ((.inl ()), 2, 0))
(bnd (loopF 400 (fun s => glob_Compile_l1_q s_ s.1.1 s.1.2.1 s.1.2.2 s.2.1 s.2.2) (((s_, 0, 0), (s_, [])) : ((List UInt8) × Int × Int) × ((List UInt8) × (List TGlobPart)))) fun _ =>
none))
theorem glob_Compile_le (s_ : List UInt8) : Tw (glob_Compile_q s_) (glob_Compile s_) := by
  unfold glob_Compile glob_Compile_q
  repeat (first | exact Tw.rfl _ | apply glob_Compile_l1_le | refine Tw.cond _ ?_ ?_ | refine Tw.bnd ?_ fun _ => ?_ | refine Tw.bind ?_ fun _ => ?_ | refine Tw.loop _ _ fun _ => ?_ | refine Tw.alt _ (fun _ => ?_) (fun _ => ?_) | refine Tw.dup _ ?_ | refine Tw.fork ?_ ?_ | refine Tw.map _ ?_)
noncomputable def law28_num_q (e : Int) : Option (Int) :=
some e
theorem law28_num_le (e : Int) : Tw (law28_num_q e) (law28_num e) := by
  unfold law28_num law28_num_q
  repeat (first | exact Tw.rfl _ | refine Tw.cond _ ?_ ?_ | refine Tw.bnd ?_ fun _ => ?_ | refine Tw.bind ?_ fun _ => ?_ | refine Tw.loop _ _ fun _ => ?_ | refine Tw.alt _ (fun _ => ?_) (fun _ => ?_) | refine Tw.dup _ ?_ | refine Tw.fork ?_ ?_ | refine Tw.map _ ?_)
noncomputable def glob_piece_has_q (p : TGlobPiece) (c : UInt8) : Option (Bool) :=
(cond (p.f_kind == 1)
(some true)
(cond (decide (((shr8 c 6).toNat : Int) = 0))
(some ((((shr64 p.f_in.1 ((c &&& (63 : UInt8)).toNat : Int)) &&& (1 : UInt64)).toNat : Int) == 1))
(cond (decide (((shr8 c 6).toNat : Int) = 1))
(some ((((shr64 p.f_in.2.1 ((c &&& (63 : UInt8)).toNat : Int)) &&& (1 : UInt64)).toNat : Int) == 1))
(cond (decide (((shr8 c 6).toNat : Int) = 2))
(some ((((shr64 p.f_in.2.2.1 ((c &&& (63 : UInt8)).toNat : Int)) &&& (1 : UInt64)).toNat : Int) == 1))
(cond (decide (((shr8 c 6).toNat : Int) = 3))
(some ((((shr64 p.f_in.2.2.2 ((c &&& (63 : UInt8)).toNat : Int)) &&& (1 : UInt64)).toNat : Int) == 1))
none)))))
theorem glob_piece_has_le (p : TGlobPiece) (c : UInt8) : Tw (glob_piece_has_q p c) (glob_piece_has p c) := by
  unfold glob_piece_has glob_piece_has_q
  repeat (first | exact Tw.rfl _ | refine Tw.cond _ ?_ ?_ | refine Tw.bnd ?_ fun _ => ?_ | refine Tw.bind ?_ fun _ => ?_ | refine Tw.loop _ _ fun _ => ?_ | refine Tw.alt _ (fun _ => ?_) (fun _ => ?_) | refine Tw.dup _ ?_ | refine Tw.fork ?_ ?_ | refine Tw.map _ ?_)
noncomputable def glob_part_match_l1_q (x : TGlobPart) (s_ : List UInt8) (i : Int) (k : Int) (back : Int) (from_ : Int) : Option (Sum (Int × Int × Int × Int) (Sum Unit Bool)) :=
(bnd ((cond (decide (i < (x.f_pieces.length : Int)))
(Option.bind (idx x.f_pieces i) fun x1 =>
some (.inl (x1.f_kind == 0)))
(some (.inl false))) : Option (Sum Bool (Sum (Int × Int × Int × Int) (Sum Unit Bool)))) fun x2 =>
(cond x2
(some (.inl ((IntKind.i64.wrap (i + 1)), k, (IntKind.i64.wrap (i + 1)), k)))
(bnd ((cond (decide (i < (x.f_pieces.length : Int)))
(cond (decide (k < (s_.length : Int)))
(Option.bind (idx x.f_pieces i) fun x3 =>
(Option.bind (idx s_ k) fun c =>
(Option.bind (glob_piece_has_q x3 c) fun r =>
some (.inl r))))
(some (.inl false)))
(some (.inl false))) : Option (Sum Bool (Sum (Int × Int × Int × Int) (Sum Unit Bool)))) fun x4 =>
(cond x4
(some (.inl ((IntKind.i64.wrap (i + 1)), (IntKind.i64.wrap (k + 1)), back, from_)))
(bnd ((cond (i == (x.f_pieces.length : Int))
(some (.inl (k == (s_.length : Int))))
(some (.inl false))) : Option (Sum Bool (Sum (Int × Int × Int × Int) (Sum Unit Bool)))) fun x5 =>
(cond x5
(some (.inr (.inr true)))
(cond (decide (back ≥ 0))
(cond (decide (from_ < (s_.length : Int)))
(some (.inl (back, (IntKind.i64.wrap (from_ + 1)), back, (IntKind.i64.wrap (from_ + 1)))))
(some (.inr (.inl ()))))
(some (.inr (.inl ()))))))))))
theorem glob_part_match_l1_le (x : TGlobPart) (s_ : List UInt8) (i : Int) (k : Int) (back : Int) (from_ : Int) : Tw (glob_part_match_l1_q x s_ i k back from_) (glob_part_match_l1 x s_ i k back from_) := by
  unfold glob_part_match_l1 glob_part_match_l1_q
  repeat (first | exact Tw.rfl _ | apply glob_piece_has_le | refine Tw.cond _ ?_ ?_ | refine Tw.bnd ?_ fun _ => ?_ | refine Tw.bind ?_ fun _ => ?_ | refine Tw.loop _ _ fun _ => ?_ | refine Tw.alt _ (fun _ => ?_) (fun _ => ?_) | refine Tw.dup _ ?_ | refine Tw.fork ?_ ?_ | refine Tw.map _ ?_)
noncomputable def glob_part_match_q (x : TGlobPart) (s_ : List UInt8) : Option (Bool) :=
(cond x.f_any
(some true)
(bnd (loopF 400 (fun s => glob_part_match_l1_q x s_ s.1 s.2.1 s.2.2.1 s.2.2.2) ((0, 0, (-1), 0) : Int × Int × Int × Int)) fun _ =>
some false))
theorem glob_part_match_le (x : TGlobPart) (s_ : List UInt8) : Tw (glob_part_match_q x s_) (glob_part_match x s_) := by
  unfold glob_part_match glob_part_match_q
  repeat (first | exact Tw.rfl _ | apply glob_part_match_l1_le | refine Tw.cond _ ?_ ?_ | refine Tw.bnd ?_ fun _ => ?_ | refine Tw.bind ?_ fun _ => ?_ | refine Tw.loop _ _ fun _ => ?_ | refine Tw.alt _ (fun _ => ?_) (fun _ => ?_) | refine Tw.dup _ ?_ | refine Tw.fork ?_ ?_ | refine Tw.map _ ?_)
noncomputable def glob_Pattern_all_l2_q (l : List (List UInt8)) (can : List Bool) (x3 : TGlobPart) (made1 : List Bool) (next_ : List Bool) (x4 : Int) : Option (Sum ((List Bool) × Int) (Sum ((List Bool)) (Sum ((List Bool) × Int) (Sum ((List Bool)) (Bool × ((List UInt8) × (List TGlobPart))))))) :=
(cond (decide (x4 < (made1.length : Int)))
(cond x3.f_any
(Option.bind (idx can x4) fun x5 =>
(Option.bind (idx can x4) fun x6 =>
(cond x6
(Option.bind (idx next_ x4) fun x7 =>
(Option.bind (idx next_ x4) fun x8 =>
some (.inl ((List.set next_ x4.toNat true), (IntKind.i64.wrap (x4 + 1))))))
(cond (decide (x4 > 0))
(Option.bind (idx next_ (IntKind.i64.wrap (x4 - 1))) fun x9 =>
(Option.bind (idx next_ (IntKind.i64.wrap (x4 - 1))) fun x10 =>
(Option.bind (idx next_ x4) fun x11 =>
(Option.bind (idx next_ x4) fun x12 =>
some (.inl ((List.set next_ x4.toNat x10), (IntKind.i64.wrap (x4 + 1))))))))
(Option.bind (idx next_ x4) fun x13 =>
(Option.bind (idx next_ x4) fun x14 =>
some (.inl ((List.set next_ x4.toNat false), (IntKind.i64.wrap (x4 + 1))))))))))
(cond (decide (x4 > 0))
(Option.bind (idx can (IntKind.i64.wrap (x4 - 1))) fun x15 =>
(Option.bind (idx can (IntKind.i64.wrap (x4 - 1))) fun x16 =>
(cond x16
(Option.bind (idx l (IntKind.i64.wrap (x4 - 1))) fun x17 =>
(Option.bind (glob_part_match_q x3 x17) fun r =>
(Option.bind (idx next_ x4) fun x18 =>
(Option.bind (idx next_ x4) fun x19 =>
some (.inl ((List.set next_ x4.toNat r), (IntKind.i64.wrap (x4 + 1))))))))
(Option.bind (idx next_ x4) fun x20 =>
(Option.bind (idx next_ x4) fun x21 =>
some (.inl ((List.set next_ x4.toNat false), (IntKind.i64.wrap (x4 + 1)))))))))
(Option.bind (idx next_ x4) fun x22 =>
(Option.bind (idx next_ x4) fun x23 =>
some (.inl ((List.set next_ x4.toNat false), (IntKind.i64.wrap (x4 + 1))))))))
(some (.inr (.inl next_))))
theorem glob_Pattern_all_l2_le (l : List (List UInt8)) (can : List Bool) (x3 : TGlobPart) (made1 : List Bool) (next_ : List Bool) (x4 : Int) : Tw (glob_Pattern_all_l2_q l can x3 made1 next_ x4) (glob_Pattern_all_l2 l can x3 made1 next_ x4) := by
  unfold glob_Pattern_all_l2 glob_Pattern_all_l2_q
  repeat (first | exact Tw.rfl _ | apply glob_part_match_le | refine Tw.cond _ ?_ ?_ | refine Tw.bnd ?_ fun _ => ?_ | refine Tw.bind ?_ fun _ => ?_ | refine Tw.loop _ _ fun _ => ?_ | refine Tw.alt _ (fun _ => ?_) (fun _ => ?_) | refine Tw.dup _ ?_ | refine Tw.fork ?_ ?_ | refine Tw.map _ ?_)
noncomputable def glob_Pattern_all_l1_q (parts : List TGlobPart) (l : List (List UInt8)) (can : List Bool) (x2 : Int) : Option (Sum ((List Bool) × Int) (Sum ((List Bool)) (Bool × ((List UInt8) × (List TGlobPart))))) :=
(cond (decide (x2 < (parts.length : Int)))
(Option.bind (idx parts x2) fun x3 =>
(Option.bind (mkz 1 false (IntKind.i64.wrap ((l.length : Int) + 1))) fun made1 =>
(bnd (loopF 400 (fun s => glob_Pattern_all_l2_q l can x3 made1 s.1 s.2) ((made1, 0) : (List Bool) × Int)) fun next_1 =>
some (.inl (next_1, (IntKind.i64.wrap (x2 + 1)))))))
(some (.inr (.inl can))))
theorem glob_Pattern_all_l1_le (parts : List TGlobPart) (l : List (List UInt8)) (can : List Bool) (x2 : Int) : Tw (glob_Pattern_all_l1_q parts l can x2) (glob_Pattern_all_l1 parts l can x2) := by
  unfold glob_Pattern_all_l1 glob_Pattern_all_l1_q
  repeat (first | exact Tw.rfl _ | apply glob_Pattern_all_l2_le | refine Tw.cond _ ?_ ?_ | refine Tw.bnd ?_ fun _ => ?_ | refine Tw.bind ?_ fun _ => ?_ | refine Tw.loop _ _ fun _ => ?_ | refine Tw.alt _ (fun _ => ?_) (fun _ => ?_) | refine Tw.dup _ ?_ | refine Tw.fork ?_ ?_ | refine Tw.map _ ?_)
noncomputable def glob_Pattern_all_q (text : List UInt8) (parts : List TGlobPart) (l : List (List UInt8)) : Option (Bool × ((List UInt8) × (List TGlobPart))) :=
(Option.bind (mkz 1 false (IntKind.i64.wrap ((l.length : Int) + 1))) fun made =>
(Option.bind (idx made 0) fun x =>
(Option.bind (idx made 0) fun x1 =>
(bnd (loopF 400 (fun s => glob_Pattern_all_l1_q parts l s.1 s.2) (((List.set made ((0 : Int).toNat) true), 0) : (List Bool) × Int)) fun can1 =>
(Option.bind (idx can1 (l.length : Int)) fun x24 =>
(Option.bind (idx can1 (l.length : Int)) fun x25 =>
some (x25, (text, parts))))))))
theorem glob_Pattern_all_le (text : List UInt8) (parts : List TGlobPart) (l : List (List UInt8)) : Tw (glob_Pattern_all_q text parts l) (glob_Pattern_all text parts l) := by
  unfold glob_Pattern_all glob_Pattern_all_q
  repeat (first | exact Tw.rfl _ | apply glob_Pattern_all_l1_le | refine Tw.cond _ ?_ ?_ | refine Tw.bnd ?_ fun _ => ?_ | refine Tw.bind ?_ fun _ => ?_ | refine Tw.loop _ _ fun _ => ?_ | refine Tw.alt _ (fun _ => ?_) (fun _ => ?_) | refine Tw.dup _ ?_ | refine Tw.fork ?_ ?_ | refine Tw.map _ ?_)
noncomputable def glob_Pattern_Match_q (text : List UInt8) (parts : List TGlobPart) (path : List UInt8) : Option (Bool × ((List UInt8) × (List TGlobPart))) :=
(Option.bind (name_Split_q path) fun r =>
(cond (r.2 == 0)
(Option.bind (glob_Pattern_all_q text parts r.1) fun r1 =>
some (r1.1, (r1.2.1, r1.2.2)))
(some (false, (text, parts)))))
theorem glob_Pattern_Match_le (text : List UInt8) (parts : List TGlobPart) (path : List UInt8) : Tw (glob_Pattern_Match_q text parts path) (glob_Pattern_Match text parts path) := by
  unfold glob_Pattern_Match glob_Pattern_Match_q
  repeat (first | exact Tw.rfl _ | apply glob_Pattern_all_le | apply name_Split_le | refine Tw.cond _ ?_ ?_ | refine Tw.bnd ?_ fun _ => ?_ | refine Tw.bind ?_ fun _ => ?_ | refine Tw.loop _ _ fun _ => ?_ | refine Tw.alt _ (fun _ => ?_) (fun _ => ?_) | refine Tw.dup _ ?_ | refine Tw.fork ?_ ?_ | refine Tw.map _ ?_)
noncomputable def glob_Pattern_Match_2_q (text : List UInt8) (parts : List TGlobPart) (path : List UInt8) : Option (Bool × ((List UInt8) × (List TGlobPart))) :=
(Option.bind (name_Split_q path) fun r =>
(cond (r.2 == 0)
(Option.bind (glob_Pattern_all_q text parts r.1) fun r1 =>
some (r1.1, (r1.2.1, r1.2.2)))
(some (false, (text, parts)))))
theorem glob_Pattern_Match_2_le (text : List UInt8) (parts : List TGlobPart) (path : List UInt8) : Tw (glob_Pattern_Match_2_q text parts path) (glob_Pattern_Match_2 text parts path) := by
  unfold glob_Pattern_Match_2 glob_Pattern_Match_2_q
  repeat (first | exact Tw.rfl _ | apply glob_Pattern_all_le | apply name_Split_le | refine Tw.cond _ ?_ ?_ | refine Tw.bnd ?_ fun _ => ?_ | refine Tw.bind ?_ fun _ => ?_ | refine Tw.loop _ _ fun _ => ?_ | refine Tw.alt _ (fun _ => ?_) (fun _ => ?_) | refine Tw.dup _ ?_ | refine Tw.fork ?_ ?_ | refine Tw.map _ ?_)
noncomputable def glob_Pattern_Parts_q (text : List UInt8) (parts : List TGlobPart) : Option (Int × ((List UInt8) × (List TGlobPart))) :=
some ((parts.length : Int), (text, parts))
theorem glob_Pattern_Parts_le (text : List UInt8) (parts : List TGlobPart) : Tw (glob_Pattern_Parts_q text parts) (glob_Pattern_Parts text parts) := by
  unfold glob_Pattern_Parts glob_Pattern_Parts_q
  repeat (first | exact Tw.rfl _ | refine Tw.cond _ ?_ ?_ | refine Tw.bnd ?_ fun _ => ?_ | refine Tw.bind ?_ fun _ => ?_ | refine Tw.loop _ _ fun _ => ?_ | refine Tw.alt _ (fun _ => ?_) (fun _ => ?_) | refine Tw.dup _ ?_ | refine Tw.fork ?_ ?_ | refine Tw.map _ ?_)
noncomputable def law28_live_q : Option (Bool) :=
(Option.bind (glob_Compile_q ([97, 47, 42, 42, 47, 42, 46, 91, 99, 104, 93] : List UInt8)) fun r =>
(altE r.1 (fun y_ => (Option.bind (glob_Compile_q ([97, 47, 47, 98] : List UInt8)) fun r1 =>
(altE r1.1 (fun y_1 => (Option.bind (law28_num_q r.2.1) fun r2 =>
(cond (r2 == 0)
(some false)
(some false))))
(fun y_2 => (Option.bind (law28_num_q r.2.1) fun r3 =>
(cond (r3 == 0)
(some false)
(some false)))))))
(fun y_3 => (Option.bind (glob_Compile_q ([97, 47, 47, 98] : List UInt8)) fun r4 =>
(altE r4.1 (fun y_4 => (Option.bind (law28_num_q r.2.1) fun r5 =>
(cond (r5 == 0)
(Option.bind (glob_Pattern_Match_q y_3.1 y_3.2 ([97, 47, 120, 46, 99] : List UInt8)) fun r6 =>
(cond r6.1
(Option.bind (glob_Pattern_Match_2_q r6.2.1 r6.2.2 ([97, 47, 98, 47, 99, 47, 121, 46, 104] : List UInt8)) fun r7 =>
(cond r7.1
(Option.bind (glob_Pattern_Match_2_q r7.2.1 r7.2.2 ([97, 47, 120, 46, 111] : List UInt8)) fun r8 =>
(cond (!r8.1)
(Option.bind (glob_Pattern_Parts_q r8.2.1 r8.2.2) fun r9 =>
(cond (r9.1 == 3)
(Option.bind (law28_num_q r4.2.1) fun r10 =>
(cond (r10 == 6)
(some (r4.2.2 == 2))
(some false)))
(some false)))
(some false)))
(some false)))
(some false)))
(some false))))
(fun y_5 => (Option.bind (law28_num_q r.2.1) fun r11 =>
(cond (r11 == 0)
(Option.bind (glob_Pattern_Match_q y_3.1 y_3.2 ([97, 47, 120, 46, 99] : List UInt8)) fun r12 =>
(cond r12.1
(Option.bind (glob_Pattern_Match_2_q r12.2.1 r12.2.2 ([97, 47, 98, 47, 99, 47, 121, 46, 104] : List UInt8)) fun r13 =>
(cond r13.1
(Option.bind (glob_Pattern_Match_2_q r13.2.1 r13.2.2 ([97, 47, 120, 46, 111] : List UInt8)) fun r14 =>
(cond (!r14.1)
(Option.bind (glob_Pattern_Parts_q r14.2.1 r14.2.2) fun r15 =>
(cond (r15.1 == 3)
(Option.bind (law28_num_q r4.2.1) fun r16 =>
(cond (r16 == 6)
(some (r4.2.2 == 2))
(some false)))
(some false)))
(some false)))
(some false)))
(some false)))
(some false)))))))))
theorem law28_live_le : Tw (law28_live_q) (law28_live) := by
  unfold law28_live law28_live_q
  repeat (first | exact Tw.rfl _ | apply glob_Compile_le | apply law28_num_le | apply glob_Pattern_Match_le | apply glob_Pattern_Match_2_le | apply glob_Pattern_Parts_le | refine Tw.cond _ ?_ ?_ | refine Tw.bnd ?_ fun _ => ?_ | refine Tw.bind ?_ fun _ => ?_ | refine Tw.loop _ _ fun _ => ?_ | refine Tw.alt _ (fun _ => ?_) (fun _ => ?_) | refine Tw.dup _ ?_ | refine Tw.fork ?_ ?_ | refine Tw.map _ ?_)
end Go.Proofs.Ytebbaokcgnjfiaa.F
