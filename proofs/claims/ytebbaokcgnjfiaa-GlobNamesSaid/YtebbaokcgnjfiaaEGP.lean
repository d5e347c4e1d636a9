/- The functions as Lean functions over numbers and lists: printed by e.py. -/
import Derived.Test.YtebbaokcgnjfiaaE17
import Derived.Test.YtebbaokcgnjfiaaNSp
set_option linter.unusedVariables false
set_option linter.unusedSimpArgs false
namespace Go.Proofs.Ytebbaokcgnjfiaa.K
open Go Go.RowKit
structure TGlobPiece where
  f_kind : Int
  f_in : (UInt64 × UInt64 × UInt64 × UInt64)
  deriving DecidableEq
def rGlobPiece : Rep TGlobPiece where
  sz := 5
  im m cs x := cs = [.int .i64 x.f_kind, .int .u64 (x.f_in.1.toNat : Int), .int .u64 (x.f_in.2.1.toNat : Int), .int .u64 (x.f_in.2.2.1.toNat : Int), .int .u64 (x.f_in.2.2.2.toNat : Int)]
  wf x := rI64.wf x.f_kind ∧ True
  mono hs := fun h => h
  len := fun h => by rw [h]; rfl
  one := fun h => by rw [h]; intro u hu; simp only [List.mem_cons, List.mem_nil_iff, or_false] at hu; rcases hu with rfl | rfl | rfl | rfl | rfl <;> rfl
structure TGlobPart where
  f_any : Bool
  f_pieces : (List TGlobPiece)
  deriving DecidableEq
def rGlobPart : Rep TGlobPart where
  sz := 2
  im m cs x := ∃ A1 c1, cs = [.bool x.f_any, .slice A1 x.f_pieces.length c1] ∧ SlI rGlobPiece m A1 c1 x.f_pieces
  wf x := rBool.wf x.f_any ∧ (rSl rGlobPiece).wf x.f_pieces
  mono hs := fun ⟨A1, c1, h, s1⟩ => ⟨A1, c1, h, s1.mono hs⟩
  len := fun ⟨A1, c1, h, s1⟩ => by rw [h]; rfl
  one := fun ⟨A1, c1, h, s1⟩ => by rw [h]; intro u hu; simp only [List.mem_cons, List.mem_nil_iff, or_false] at hu; rcases hu with rfl | rfl <;> rfl
end Go.Proofs.Ytebbaokcgnjfiaa.K
namespace Go.Proofs.Ytebbaokcgnjfiaa.F
open Go Go.RowKit Go.Proofs.Ytebbaokcgnjfiaa.K Go.Proofs.Ytebbaokcgnjfiaa.K.E

noncomputable def ref10_Valid_l1 (s_ : List UInt8) (i : Int) : Option (Sum Int (Sum Unit Bool)) :=
(cond (decide (i < (s_.length : Int)))
(Option.bind (idx s_ i) fun c =>
(cond ((c.toNat : Int) == 47)
(some (.inr (.inr false)))
(Option.bind (idx s_ i) fun c1 =>
(cond ((c1.toNat : Int) == 0)
(some (.inr (.inr false)))
(some (.inl (IntKind.i64.wrap (i + 1))))))))
(some (.inr (.inl ()))))
noncomputable def ref10_Valid (s_ : List UInt8) : Option (Bool) :=
(bnd ((cond (decide ((s_.length : Int) < 1))
(some (.inl true))
(cond (decide ((s_.length : Int) > 255))
(some (.inl true))
(cond (s_ == ([46] : List UInt8))
(some (.inl true))
(some (.inl (s_ == ([46, 46] : List UInt8))))))) : Option (Sum Bool Bool)) fun x =>
(cond x
(some false)
(bnd (loopO (fun s => ref10_Valid_l1 s_ s) (0 : Int)) fun _ =>
some true)))
noncomputable def glob_reader_more (s_ : List UInt8) (at_ : Int) (e : Int) : Option (Bool × ((List UInt8) × Int × Int)) :=
(cond (e == 0)
(cond (decide (at_ < (s_.length : Int)))
(Option.bind (idx s_ at_) fun c =>
some (((c.toNat : Int) != 47), (s_, at_, e)))
(some (false, (s_, at_, e))))
(some (false, (s_, at_, e))))
noncomputable def glob_reader_stars (s_ : List UInt8) (at_ : Int) (e : Int) : Option ((Int × UInt64 × UInt64 × UInt64 × UInt64) × ((List UInt8) × Int × Int)) :=
some ((0, (0 : UInt64), (0 : UInt64), (0 : UInt64), (0 : UInt64)), (s_, (IntKind.i64.wrap (at_ + 1)), e))
noncomputable def glob_reader_question (s_ : List UInt8) (at_ : Int) (e : Int) : Option ((Int × UInt64 × UInt64 × UInt64 × UInt64) × ((List UInt8) × Int × Int)) :=
some ((1, (0 : UInt64), (0 : UInt64), (0 : UInt64), (0 : UInt64)), (s_, (IntKind.i64.wrap (at_ + 1)), e))
noncomputable def glob_reader_fail (s_ : List UInt8) (at_ : Int) (e : Int) (e1 : Int) (at_1 : Int) : Option (((List UInt8) × Int × Int)) :=
(cond (e == 0)
(some (s_, at_1, e1))
(some (s_, at_, e)))
noncomputable def glob_reader_take_l1 (s_ : List UInt8) (at_ : Int) (e : Int) (none_ : List UInt8) (c2 : UInt8) (x1 : Int) : Option (Sum Int (Sum Unit (UInt8 × ((List UInt8) × Int × Int)))) :=
(cond (decide (x1 < (none_.length : Int)))
(Option.bind (idx none_ x1) fun c3 =>
(cond ((c3.toNat : Int) == (c2.toNat : Int))
(Option.bind (glob_reader_fail s_ at_ e 6 at_) fun r1 =>
some (.inr (.inr ((0 : UInt8), (r1.1, r1.2.1, r1.2.2)))))
(some (.inl (IntKind.i64.wrap (x1 + 1))))))
(some (.inr (.inl ()))))
noncomputable def glob_reader_take (s_ : List UInt8) (at_ : Int) (e : Int) (none_ : List UInt8) : Option (UInt8 × ((List UInt8) × Int × Int)) :=
(cond (e != 0)
(some ((0 : UInt8), (s_, at_, e)))
(bnd ((cond (at_ == (s_.length : Int))
(some (.inl true))
(Option.bind (idx s_ at_) fun c =>
(cond ((c.toNat : Int) == 0)
(some (.inl true))
(Option.bind (idx s_ at_) fun c1 =>
some (.inl ((c1.toNat : Int) == 47)))))) : Option (Sum Bool (UInt8 × ((List UInt8) × Int × Int)))) fun x =>
(cond x
(Option.bind (glob_reader_fail s_ at_ e 6 at_) fun r =>
some ((0 : UInt8), (r.1, r.2.1, r.2.2)))
(Option.bind (idx s_ at_) fun c2 =>
(bnd (loopO (fun s => glob_reader_take_l1 s_ at_ e none_ c2 s) (0 : Int)) fun _ =>
some (c2, (s_, (IntKind.i64.wrap (at_ + 1)), e)))))))
noncomputable def glob_reader_escaped (s_ : List UInt8) (at_ : Int) (e : Int) (none_ : List UInt8) : Option (UInt8 × ((List UInt8) × Int × Int)) :=
(Option.bind (glob_reader_take s_ at_ e none_) fun r =>
(cond ((r.1.toNat : Int) == 92)
(Option.bind (glob_reader_take r.2.1 r.2.2.1 r.2.2.2 ([] : List UInt8)) fun r1 =>
some (r1.1, (r1.2.1, r1.2.2.1, r1.2.2.2)))
(some (r.1, (r.2.1, r.2.2.1, r.2.2.2)))))
noncomputable def glob_piece_put (kind : Int) (in_ : UInt64) (in_1 : UInt64) (in_2 : UInt64) (in_3 : UInt64) (c : UInt8) : Option ((Int × UInt64 × UInt64 × UInt64 × UInt64)) :=
(cond (decide (((shr8 c 6).toNat : Int) = 0))
(cond (decide (((shr8 c 6).toNat : Int) = 0))
(some (kind, (in_ ||| (shl64 (1 : UInt64) ((c &&& (63 : UInt8)).toNat : Int))), in_1, in_2, in_3))
(cond (decide (((shr8 c 6).toNat : Int) = 1))
(some (kind, in_, (in_ ||| (shl64 (1 : UInt64) ((c &&& (63 : UInt8)).toNat : Int))), in_2, in_3))
(cond (decide (((shr8 c 6).toNat : Int) = 2))
(some (kind, in_, in_1, (in_ ||| (shl64 (1 : UInt64) ((c &&& (63 : UInt8)).toNat : Int))), in_3))
(cond (decide (((shr8 c 6).toNat : Int) = 3))
(some (kind, in_, in_1, in_2, (in_ ||| (shl64 (1 : UInt64) ((c &&& (63 : UInt8)).toNat : Int)))))
none))))
(cond (decide (((shr8 c 6).toNat : Int) = 1))
(cond (decide (((shr8 c 6).toNat : Int) = 0))
(some (kind, (in_1 ||| (shl64 (1 : UInt64) ((c &&& (63 : UInt8)).toNat : Int))), in_1, in_2, in_3))
(cond (decide (((shr8 c 6).toNat : Int) = 1))
(some (kind, in_, (in_1 ||| (shl64 (1 : UInt64) ((c &&& (63 : UInt8)).toNat : Int))), in_2, in_3))
(cond (decide (((shr8 c 6).toNat : Int) = 2))
(some (kind, in_, in_1, (in_1 ||| (shl64 (1 : UInt64) ((c &&& (63 : UInt8)).toNat : Int))), in_3))
(cond (decide (((shr8 c 6).toNat : Int) = 3))
(some (kind, in_, in_1, in_2, (in_1 ||| (shl64 (1 : UInt64) ((c &&& (63 : UInt8)).toNat : Int)))))
none))))
(cond (decide (((shr8 c 6).toNat : Int) = 2))
(cond (decide (((shr8 c 6).toNat : Int) = 0))
(some (kind, (in_2 ||| (shl64 (1 : UInt64) ((c &&& (63 : UInt8)).toNat : Int))), in_1, in_2, in_3))
(cond (decide (((shr8 c 6).toNat : Int) = 1))
(some (kind, in_, (in_2 ||| (shl64 (1 : UInt64) ((c &&& (63 : UInt8)).toNat : Int))), in_2, in_3))
(cond (decide (((shr8 c 6).toNat : Int) = 2))
(some (kind, in_, in_1, (in_2 ||| (shl64 (1 : UInt64) ((c &&& (63 : UInt8)).toNat : Int))), in_3))
(cond (decide (((shr8 c 6).toNat : Int) = 3))
(some (kind, in_, in_1, in_2, (in_2 ||| (shl64 (1 : UInt64) ((c &&& (63 : UInt8)).toNat : Int)))))
none))))
(cond (decide (((shr8 c 6).toNat : Int) = 3))
(cond (decide (((shr8 c 6).toNat : Int) = 0))
(some (kind, (in_3 ||| (shl64 (1 : UInt64) ((c &&& (63 : UInt8)).toNat : Int))), in_1, in_2, in_3))
(cond (decide (((shr8 c 6).toNat : Int) = 1))
(some (kind, in_, (in_3 ||| (shl64 (1 : UInt64) ((c &&& (63 : UInt8)).toNat : Int))), in_2, in_3))
(cond (decide (((shr8 c 6).toNat : Int) = 2))
(some (kind, in_, in_1, (in_3 ||| (shl64 (1 : UInt64) ((c &&& (63 : UInt8)).toNat : Int))), in_3))
(cond (decide (((shr8 c 6).toNat : Int) = 3))
(some (kind, in_, in_1, in_2, (in_3 ||| (shl64 (1 : UInt64) ((c &&& (63 : UInt8)).toNat : Int)))))
none))))
none))))
noncomputable def glob_reader_ranges_l2 (j2 : UInt8 × ((List UInt8) × Int × Int)) (c3 : Int) (b8 : Int) (b9 : UInt64) (b10 : UInt64) (b11 : UInt64) (b12 : UInt64) : Option (Sum (Int × (Int × UInt64 × UInt64 × UInt64 × UInt64)) (Sum ((Int × UInt64 × UInt64 × UInt64 × UInt64)) (Sum (Bool × ((List UInt8) × Int × Int) × (Int × UInt64 × UInt64 × UInt64 × UInt64)) (Sum (((List UInt8) × Int × Int) × (Int × UInt64 × UInt64 × UInt64 × UInt64)) ((Int × UInt64 × UInt64 × UInt64 × UInt64) × ((List UInt8) × Int × Int)))))) :=
(cond (decide (c3 ≤ (j2.1.toNat : Int)))
(cond (j2.2.2.2 == 0)
(Option.bind (glob_piece_put b8 b9 b10 b11 b12 (UInt8.ofInt c3)) fun r3 =>
some (.inl ((IntKind.i64.wrap (c3 + 1)), (r3.1, r3.2.1, r3.2.2.1, r3.2.2.2.1, r3.2.2.2.2))))
(some (.inr (.inl (b8, b9, b10, b11, b12)))))
(some (.inr (.inl (b8, b9, b10, b11, b12)))))
noncomputable def glob_reader_ranges_l1 (first : Bool) (b : List UInt8) (b1 : Int) (b2 : Int) (b3 : Int) (b4 : UInt64) (b5 : UInt64) (b6 : UInt64) (b7 : UInt64) : Option (Sum (Bool × ((List UInt8) × Int × Int) × (Int × UInt64 × UInt64 × UInt64 × UInt64)) (Sum (((List UInt8) × Int × Int) × (Int × UInt64 × UInt64 × UInt64 × UInt64)) ((Int × UInt64 × UInt64 × UInt64 × UInt64) × ((List UInt8) × Int × Int)))) :=
(bnd ((cond (b2 == 0)
(cond first
(some (.inl true))
(cond (b1 == (b.length : Int))
(some (.inl true))
(Option.bind (idx b b1) fun c1 =>
some (.inl ((c1.toNat : Int) != 93)))))
(some (.inl false))) : Option (Sum Bool (Sum (Bool × ((List UInt8) × Int × Int) × (Int × UInt64 × UInt64 × UInt64 × UInt64)) (Sum (((List UInt8) × Int × Int) × (Int × UInt64 × UInt64 × UInt64 × UInt64)) ((Int × UInt64 × UInt64 × UInt64 × UInt64) × ((List UInt8) × Int × Int)))))) fun x =>
(cond x
(Option.bind (glob_reader_escaped b b1 b2 ([93, 45] : List UInt8)) fun r =>
(bnd ((cond (r.2.2.2 == 0)
(cond (decide (r.2.2.1 < (r.2.1.length : Int)))
(Option.bind (idx r.2.1 r.2.2.1) fun c2 =>
some (.inl ((c2.toNat : Int) == 45)))
(some (.inl false)))
(some (.inl false))) : Option (Sum Bool (Sum (Bool × ((List UInt8) × Int × Int) × (Int × UInt64 × UInt64 × UInt64 × UInt64)) (Sum (((List UInt8) × Int × Int) × (Int × UInt64 × UInt64 × UInt64 × UInt64)) ((Int × UInt64 × UInt64 × UInt64 × UInt64) × ((List UInt8) × Int × Int)))))) fun x1 =>
(bnd ((cond x1
(Option.bind (glob_reader_escaped r.2.1 (IntKind.i64.wrap (r.2.2.1 + 1)) r.2.2.2 ([93, 45] : List UInt8)) fun r1 =>
(bnd ((cond (r1.2.2.2 == 0)
(some (.inl (decide ((r1.1.toNat : Int) < (r.1.toNat : Int)))))
(some (.inl false))) : Option (Sum Bool (Sum (UInt8 × ((List UInt8) × Int × Int)) (Sum (Bool × ((List UInt8) × Int × Int) × (Int × UInt64 × UInt64 × UInt64 × UInt64)) (Sum (((List UInt8) × Int × Int) × (Int × UInt64 × UInt64 × UInt64 × UInt64)) ((Int × UInt64 × UInt64 × UInt64 × UInt64) × ((List UInt8) × Int × Int))))))) fun x2 =>
(bnd ((cond x2
(Option.bind (glob_reader_fail r1.2.1 r1.2.2.1 r1.2.2.2 6 (IntKind.i64.wrap (r.2.2.1 + 1))) fun r2 =>
some (.inl (r2.1, r2.2.1, r2.2.2)))
(some (.inl (r1.2.1, r1.2.2.1, r1.2.2.2)))) : Option (Sum (((List UInt8) × Int × Int)) (Sum (UInt8 × ((List UInt8) × Int × Int)) (Sum (Bool × ((List UInt8) × Int × Int) × (Int × UInt64 × UInt64 × UInt64 × UInt64)) (Sum (((List UInt8) × Int × Int) × (Int × UInt64 × UInt64 × UInt64 × UInt64)) ((Int × UInt64 × UInt64 × UInt64 × UInt64) × ((List UInt8) × Int × Int))))))) fun j1 =>
some (.inl (r1.1, (j1.1, j1.2.1, j1.2.2))))))
(some (.inl (r.1, (r.2.1, r.2.2.1, r.2.2.2))))) : Option (Sum (UInt8 × ((List UInt8) × Int × Int)) (Sum (Bool × ((List UInt8) × Int × Int) × (Int × UInt64 × UInt64 × UInt64 × UInt64)) (Sum (((List UInt8) × Int × Int) × (Int × UInt64 × UInt64 × UInt64 × UInt64)) ((Int × UInt64 × UInt64 × UInt64 × UInt64) × ((List UInt8) × Int × Int)))))) fun j2 =>
(bnd (loopO (fun s => glob_reader_ranges_l2 j2 s.1 s.2.1 s.2.2.1 s.2.2.2.1 s.2.2.2.2.1 s.2.2.2.2.2) (((r.1.toNat : Int), (b3, b4, b5, b6, b7)) : Int × (Int × UInt64 × UInt64 × UInt64 × UInt64))) fun j3 =>
some (.inl (false, (j2.2.1, j2.2.2.1, j2.2.2.2), (j3.1, j3.2.1, j3.2.2.1, j3.2.2.2.1, j3.2.2.2.2)))))))
(some (.inr (.inl ((b, b1, b2), (b3, b4, b5, b6, b7)))))))
noncomputable def glob_reader_ranges_l3 (not_ : Bool) (x3 : Int) (b13 : Int) (b14 : UInt64) (b15 : UInt64) (b16 : UInt64) (b17 : UInt64) : Option (Sum (Int × (Int × UInt64 × UInt64 × UInt64 × UInt64)) (Sum ((Int × UInt64 × UInt64 × UInt64 × UInt64)) ((Int × UInt64 × UInt64 × UInt64 × UInt64) × ((List UInt8) × Int × Int)))) :=
(cond (decide (x3 < 4))
(cond not_
(cond (decide (x3 = 0))
(cond (decide (x3 = 0))
(some (.inl ((IntKind.i64.wrap (x3 + 1)), (b13, ((18446744073709551615 : UInt64) ^^^ b14), b15, b16, b17))))
(cond (decide (x3 = 1))
(some (.inl ((IntKind.i64.wrap (x3 + 1)), (b13, b14, ((18446744073709551615 : UInt64) ^^^ b14), b16, b17))))
(cond (decide (x3 = 2))
(some (.inl ((IntKind.i64.wrap (x3 + 1)), (b13, b14, b15, ((18446744073709551615 : UInt64) ^^^ b14), b17))))
(cond (decide (x3 = 3))
(some (.inl ((IntKind.i64.wrap (x3 + 1)), (b13, b14, b15, b16, ((18446744073709551615 : UInt64) ^^^ b14)))))
none))))
(cond (decide (x3 = 1))
(cond (decide (x3 = 0))
(some (.inl ((IntKind.i64.wrap (x3 + 1)), (b13, ((18446744073709551615 : UInt64) ^^^ b15), b15, b16, b17))))
(cond (decide (x3 = 1))
(some (.inl ((IntKind.i64.wrap (x3 + 1)), (b13, b14, ((18446744073709551615 : UInt64) ^^^ b15), b16, b17))))
(cond (decide (x3 = 2))
(some (.inl ((IntKind.i64.wrap (x3 + 1)), (b13, b14, b15, ((18446744073709551615 : UInt64) ^^^ b15), b17))))
(cond (decide (x3 = 3))
(some (.inl ((IntKind.i64.wrap (x3 + 1)), (b13, b14, b15, b16, ((18446744073709551615 : UInt64) ^^^ b15)))))
none))))
(cond (decide (x3 = 2))
(cond (decide (x3 = 0))
(some (.inl ((IntKind.i64.wrap (x3 + 1)), (b13, ((18446744073709551615 : UInt64) ^^^ b16), b15, b16, b17))))
(cond (decide (x3 = 1))
(some (.inl ((IntKind.i64.wrap (x3 + 1)), (b13, b14, ((18446744073709551615 : UInt64) ^^^ b16), b16, b17))))
(cond (decide (x3 = 2))
(some (.inl ((IntKind.i64.wrap (x3 + 1)), (b13, b14, b15, ((18446744073709551615 : UInt64) ^^^ b16), b17))))
(cond (decide (x3 = 3))
(some (.inl ((IntKind.i64.wrap (x3 + 1)), (b13, b14, b15, b16, ((18446744073709551615 : UInt64) ^^^ b16)))))
none))))
(cond (decide (x3 = 3))
(cond (decide (x3 = 0))
(some (.inl ((IntKind.i64.wrap (x3 + 1)), (b13, ((18446744073709551615 : UInt64) ^^^ b17), b15, b16, b17))))
(cond (decide (x3 = 1))
(some (.inl ((IntKind.i64.wrap (x3 + 1)), (b13, b14, ((18446744073709551615 : UInt64) ^^^ b17), b16, b17))))
(cond (decide (x3 = 2))
(some (.inl ((IntKind.i64.wrap (x3 + 1)), (b13, b14, b15, ((18446744073709551615 : UInt64) ^^^ b17), b17))))
(cond (decide (x3 = 3))
(some (.inl ((IntKind.i64.wrap (x3 + 1)), (b13, b14, b15, b16, ((18446744073709551615 : UInt64) ^^^ b17)))))
none))))
none))))
(some (.inl ((IntKind.i64.wrap (x3 + 1)), (b13, b14, b15, b16, b17)))))
(some (.inr (.inl (b13, b14, b15, b16, b17)))))
noncomputable def glob_reader_ranges (s_ : List UInt8) (at_ : Int) (e : Int) : Option ((Int × UInt64 × UInt64 × UInt64 × UInt64) × ((List UInt8) × Int × Int)) :=
(bnd ((cond (decide ((IntKind.i64.wrap (at_ + 1)) < (s_.length : Int)))
(Option.bind (idx s_ (IntKind.i64.wrap (at_ + 1))) fun c =>
some (.inl ((c.toNat : Int) == 94)))
(some (.inl false))) : Option (Sum Bool ((Int × UInt64 × UInt64 × UInt64 × UInt64) × ((List UInt8) × Int × Int)))) fun not_ =>
(bnd ((cond not_
(some (.inl (s_, (IntKind.i64.wrap ((IntKind.i64.wrap (at_ + 1)) + 1)), e)))
(some (.inl (s_, (IntKind.i64.wrap (at_ + 1)), e)))) : Option (Sum (((List UInt8) × Int × Int)) ((Int × UInt64 × UInt64 × UInt64 × UInt64) × ((List UInt8) × Int × Int)))) fun j =>
(bnd (loopO (fun s => glob_reader_ranges_l1 s.1 s.2.1.1 s.2.1.2.1 s.2.1.2.2 s.2.2.1 s.2.2.2.1 s.2.2.2.2.1 s.2.2.2.2.2.1 s.2.2.2.2.2.2) ((true, (j.1, j.2.1, j.2.2), (2, (0 : UInt64), (0 : UInt64), (0 : UInt64), (0 : UInt64))) : Bool × ((List UInt8) × Int × Int) × (Int × UInt64 × UInt64 × UInt64 × UInt64))) fun j4 =>
(Option.bind (glob_reader_take j4.1.1 j4.1.2.1 j4.1.2.2 ([] : List UInt8)) fun r4 =>
(bnd (loopO (fun s => glob_reader_ranges_l3 not_ s.1 s.2.1 s.2.2.1 s.2.2.2.1 s.2.2.2.2.1 s.2.2.2.2.2) ((0, (j4.2.1, j4.2.2.1, j4.2.2.2.1, j4.2.2.2.2.1, j4.2.2.2.2.2)) : Int × (Int × UInt64 × UInt64 × UInt64 × UInt64))) fun j5 =>
some ((j5.1, j5.2.1, j5.2.2.1, j5.2.2.2.1, j5.2.2.2.2), (r4.2.1, r4.2.2.1, r4.2.2.2)))))))
noncomputable def glob_reader_byte1 (s_ : List UInt8) (at_ : Int) (e : Int) : Option ((Int × UInt64 × UInt64 × UInt64 × UInt64) × ((List UInt8) × Int × Int)) :=
(Option.bind (glob_reader_escaped s_ at_ e ([] : List UInt8)) fun r =>
(Option.bind (glob_piece_put 2 (0 : UInt64) (0 : UInt64) (0 : UInt64) (0 : UInt64) r.1) fun r1 =>
some ((r1.1, r1.2.1, r1.2.2.1, r1.2.2.2.1, r1.2.2.2.2), (r.2.1, r.2.2.1, r.2.2.2))))
noncomputable def glob_reader_part_l1 (b : List UInt8) (b1 : Int) (b2 : Int) (b3 : Bool) (b4 : List TGlobPiece) : Option (Sum (((List UInt8) × Int × Int) × (Bool × (List TGlobPiece))) (Sum (((List UInt8) × Int × Int) × (Bool × (List TGlobPiece))) ((Bool × (List TGlobPiece)) × ((List UInt8) × Int × Int)))) :=
(Option.bind (glob_reader_more b b1 b2) fun r =>
(cond r.1
(Option.bind (idx r.2.1 r.2.2.1) fun c =>
(cond ((c.toNat : Int) == 42)
(fork (Option.bind (glob_reader_stars r.2.1 r.2.2.1 r.2.2.2) fun r1 =>
(Option.bind (app b4 ([({ f_kind := r1.1.1, f_in := r1.1.2 } : TGlobPiece)])) fun z =>
some (.inl ((r1.2.1, r1.2.2.1, r1.2.2.2), (b3, z)))))
(Option.bind (glob_reader_stars r.2.1 r.2.2.1 r.2.2.2) fun r1 =>
(dup (.f .o .o) (Option.bind (app b4 ([({ f_kind := r1.1.1, f_in := r1.1.2 } : TGlobPiece)])) fun z =>
some (.inl ((r1.2.1, r1.2.2.1, r1.2.2.2), (b3, z)))))))
(cond ((c.toNat : Int) == 63)
(fork (Option.bind (glob_reader_question r.2.1 r.2.2.1 r.2.2.2) fun r2 =>
(Option.bind (app b4 ([({ f_kind := r2.1.1, f_in := r2.1.2 } : TGlobPiece)])) fun z1 =>
some (.inl ((r2.2.1, r2.2.2.1, r2.2.2.2), (b3, z1)))))
(Option.bind (glob_reader_question r.2.1 r.2.2.1 r.2.2.2) fun r2 =>
(dup (.f .o .o) (Option.bind (app b4 ([({ f_kind := r2.1.1, f_in := r2.1.2 } : TGlobPiece)])) fun z1 =>
some (.inl ((r2.2.1, r2.2.2.1, r2.2.2.2), (b3, z1)))))))
(cond ((c.toNat : Int) == 91)
(fork (Option.bind (glob_reader_ranges r.2.1 r.2.2.1 r.2.2.2) fun r3 =>
(Option.bind (app b4 ([({ f_kind := r3.1.1, f_in := r3.1.2 } : TGlobPiece)])) fun z2 =>
some (.inl ((r3.2.1, r3.2.2.1, r3.2.2.2), (b3, z2)))))
(Option.bind (glob_reader_ranges r.2.1 r.2.2.1 r.2.2.2) fun r3 =>
(dup (.f .o .o) (Option.bind (app b4 ([({ f_kind := r3.1.1, f_in := r3.1.2 } : TGlobPiece)])) fun z2 =>
some (.inl ((r3.2.1, r3.2.2.1, r3.2.2.2), (b3, z2)))))))
(fork (Option.bind (glob_reader_byte1 r.2.1 r.2.2.1 r.2.2.2) fun r4 =>
(Option.bind (app b4 ([({ f_kind := r4.1.1, f_in := r4.1.2 } : TGlobPiece)])) fun z3 =>
some (.inl ((r4.2.1, r4.2.2.1, r4.2.2.2), (b3, z3)))))
(Option.bind (glob_reader_byte1 r.2.1 r.2.2.1 r.2.2.2) fun r4 =>
(dup (.f .o .o) (Option.bind (app b4 ([({ f_kind := r4.1.1, f_in := r4.1.2 } : TGlobPiece)])) fun z3 =>
some (.inl ((r4.2.1, r4.2.2.1, r4.2.2.2), (b3, z3)))))))))))
(some (.inr (.inl ((r.2.1, r.2.2.1, r.2.2.2), (b3, b4)))))))
noncomputable def glob_reader_part (s_ : List UInt8) (at_ : Int) (e : Int) : Option ((Bool × (List TGlobPiece)) × ((List UInt8) × Int × Int)) :=
(bnd (loopO (fun s => glob_reader_part_l1 s.1.1 s.1.2.1 s.1.2.2 s.2.1 s.2.2) (((s_, at_, e), (false, [])) : ((List UInt8) × Int × Int) × (Bool × (List TGlobPiece)))) fun j =>
(bnd ((cond (j.1.2.1 == at_)
(Option.bind (glob_reader_fail j.1.1 j.1.2.1 j.1.2.2 6 j.1.2.1) fun r5 =>
some (.inl (r5.1, r5.2.1, r5.2.2)))
(some (.inl (j.1.1, j.1.2.1, j.1.2.2)))) : Option (Sum (((List UInt8) × Int × Int)) ((Bool × (List TGlobPiece)) × ((List UInt8) × Int × Int)))) fun j1 =>
(cond (j1.2.2 == 0)
(Option.bind (slc j1.1 at_ j1.2.1) fun y_ =>
some (((y_ == ([42, 42] : List UInt8)), j.2.2), (j1.1, j1.2.1, j1.2.2)))
(some ((false, j.2.2), (j1.1, j1.2.1, j1.2.2))))))
noncomputable def glob_Compile_l1 (s_ : List UInt8) (b : List UInt8) (b1 : Int) (b2 : Int) (b3 : List UInt8) (b4 : List TGlobPart) : Option (Sum (((List UInt8) × Int × Int) × ((List UInt8) × (List TGlobPart))) (Sum Unit (((Unit) ⊕ ((List UInt8) × (List TGlobPart))) × Int × Int))) :=
(bnd ((cond ((b4.length : Int) == 128)
(Option.bind (glob_reader_fail b b1 b2 3 b1) fun r =>
some (.inl (r.1, r.2.1, r.2.2)))
(some (.inl (b, b1, b2)))) : Option (Sum (((List UInt8) × Int × Int)) (Sum (((List UInt8) × Int × Int) × ((List UInt8) × (List TGlobPart))) (Sum Unit (((Unit) ⊕ ((List UInt8) × (List TGlobPart))) × Int × Int))))) fun j =>
(cond (j.2.2 != 0)
(some (.inr (.inr ((.inl ()), j.2.2, j.2.1))))
(bnd ((fork (Option.bind (glob_reader_part j.1 j.2.1 j.2.2) fun r1 =>
(Option.bind (app b4 ([({ f_any := r1.1.1, f_pieces := r1.1.2 } : TGlobPart)])) fun z =>
some (.inl ((r1.2.1, r1.2.2.1, r1.2.2.2), (b3, z)))))
(Option.bind (glob_reader_part j.1 j.2.1 j.2.2) fun r1 =>
(dup (.f .o .o) (Option.bind (app b4 ([({ f_any := r1.1.1, f_pieces := r1.1.2 } : TGlobPart)])) fun z =>
some (.inl ((r1.2.1, r1.2.2.1, r1.2.2.2), (b3, z))))))) : Option (Sum (((List UInt8) × Int × Int) × ((List UInt8) × (List TGlobPart))) (Sum (((List UInt8) × Int × Int) × ((List UInt8) × (List TGlobPart))) (Sum Unit (((Unit) ⊕ ((List UInt8) × (List TGlobPart))) × Int × Int))))) fun j1 =>
(cond (j1.1.2.2 != 0)
(some (.inr (.inr ((.inl ()), j1.1.2.2, j1.1.2.1))))
(cond (j1.1.2.1 == (s_.length : Int))
(some (.inr (.inr ((.inr (j1.2.1, j1.2.2)), 0, (s_.length : Int)))))
(some (.inl ((j1.1.1, (IntKind.i64.wrap (j1.1.2.1 + 1)), j1.1.2.2), (j1.2.1, j1.2.2)))))))))
noncomputable def glob_Compile (s_ : List UInt8) : Option (((Unit) ⊕ ((List UInt8) × (List TGlobPart))) × Int × Int) :=
(cond (decide ((s_.length : Int) > 4096))
(some ((.inl ()), 2, 0))
(bnd (loopO (fun s => glob_Compile_l1 s_ s.1.1 s.1.2.1 s.1.2.2 s.2.1 s.2.2) (((s_, 0, 0), (s_, [])) : ((List UInt8) × Int × Int) × ((List UInt8) × (List TGlobPart)))) fun _ =>
none))
noncomputable def law28_num (e : Int) : Option (Int) :=
some e
noncomputable def internal_stringslite_IndexByte (s_ : List UInt8) (c : UInt8) : Option (Int) :=
(Option.bind (ixb s_ c) fun r =>
some r)
noncomputable def internal_stringslite_Index (s_ : List UInt8) : Option (Int) :=
(cond (([47] : List UInt8) == s_)
(some 0)
(Option.bind (idx ([47] : List UInt8) 0) fun c =>
(Option.bind (internal_stringslite_IndexByte s_ c) fun r =>
some r)))
noncomputable def internal_stringslite_Cut (s_ : List UInt8) : Option ((List UInt8) × (List UInt8) × Bool) :=
(Option.bind (internal_stringslite_Index s_) fun r =>
(cond (decide (r ≥ 0))
(Option.bind (slc s_ 0 r) fun y_ =>
(Option.bind (slc s_ (IntKind.i64.wrap (r + 1)) (s_.length : Int)) fun y_1 =>
some (y_, y_1, true)))
(some (s_, ([] : List UInt8), false))))
noncomputable def strings_Cut (s_ : List UInt8) : Option ((List UInt8) × (List UInt8) × Bool) :=
(Option.bind (internal_stringslite_Cut s_) fun r =>
some (r.1, r.2.1, r.2.2))
noncomputable def strings_IndexByte (s_ : List UInt8) (c : UInt8) : Option (Int) :=
(Option.bind (internal_stringslite_IndexByte s_ c) fun r =>
some r)
noncomputable def glob_piece_has (p : TGlobPiece) (c : UInt8) : Option (Bool) :=
(cond (p.f_kind == 1)
(some true)
(cond (decide (((shr8 c 6).toNat : Int) = 0))
(some ((((shr64 p.f_in.1 ((c &&& (63 : UInt8)).toNat : Int)) &&& (1 : UInt64)).toNat : Int) == 1))
(cond (decide (((shr8 c 6).toNat : Int) = 1))
(some ((((shr64 p.f_in.2.1 ((c &&& (63 : UInt8)).toNat : Int)) &&& (1 : UInt64)).toNat : Int) == 1))
(cond (decide (((shr8 c 6).toNat : Int) = 2))
(some ((((shr64 p.f_in.2.2.1 ((c &&& (63 : UInt8)).toNat : Int)) &&& (1 : UInt64)).toNat : Int) == 1))
(cond (decide (((shr8 c 6).toNat : Int) = 3))
(some ((((shr64 p.f_in.2.2.2 ((c &&& (63 : UInt8)).toNat : Int)) &&& (1 : UInt64)).toNat : Int) == 1))
none)))))
noncomputable def glob_part_match_l1 (x : TGlobPart) (s_ : List UInt8) (i : Int) (k : Int) (back : Int) (from_ : Int) : Option (Sum (Int × Int × Int × Int) (Sum Unit Bool)) :=
(bnd ((cond (decide (i < (x.f_pieces.length : Int)))
(Option.bind (idx x.f_pieces i) fun x1 =>
some (.inl (x1.f_kind == 0)))
(some (.inl false))) : Option (Sum Bool (Sum (Int × Int × Int × Int) (Sum Unit Bool)))) fun x2 =>
(cond x2
(some (.inl ((IntKind.i64.wrap (i + 1)), k, (IntKind.i64.wrap (i + 1)), k)))
(bnd ((cond (decide (i < (x.f_pieces.length : Int)))
(cond (decide (k < (s_.length : Int)))
(Option.bind (idx x.f_pieces i) fun x3 =>
(Option.bind (idx s_ k) fun c =>
(Option.bind (glob_piece_has x3 c) fun r =>
some (.inl r))))
(some (.inl false)))
(some (.inl false))) : Option (Sum Bool (Sum (Int × Int × Int × Int) (Sum Unit Bool)))) fun x4 =>
(cond x4
(some (.inl ((IntKind.i64.wrap (i + 1)), (IntKind.i64.wrap (k + 1)), back, from_)))
(bnd ((cond (i == (x.f_pieces.length : Int))
(some (.inl (k == (s_.length : Int))))
(some (.inl false))) : Option (Sum Bool (Sum (Int × Int × Int × Int) (Sum Unit Bool)))) fun x5 =>
(cond x5
(some (.inr (.inr true)))
(cond (decide (back ≥ 0))
(cond (decide (from_ < (s_.length : Int)))
(some (.inl (back, (IntKind.i64.wrap (from_ + 1)), back, (IntKind.i64.wrap (from_ + 1)))))
(some (.inr (.inl ()))))
(some (.inr (.inl ()))))))))))
noncomputable def glob_part_match (x : TGlobPart) (s_ : List UInt8) : Option (Bool) :=
(cond x.f_any
(some true)
(bnd (loopO (fun s => glob_part_match_l1 x s_ s.1 s.2.1 s.2.2.1 s.2.2.2) ((0, 0, (-1), 0) : Int × Int × Int × Int)) fun _ =>
some false))
noncomputable def glob_Pattern_all_l2 (l : List (List UInt8)) (can : List Bool) (x3 : TGlobPart) (made1 : List Bool) (next_ : List Bool) (x4 : Int) : Option (Sum ((List Bool) × Int) (Sum ((List Bool)) (Sum ((List Bool) × Int) (Sum ((List Bool)) (Bool × ((List UInt8) × (List TGlobPart))))))) :=
(cond (decide (x4 < (made1.length : Int)))
(cond x3.f_any
(Option.bind (idx can x4) fun x5 =>
(Option.bind (idx can x4) fun x6 =>
(cond x6
(Option.bind (idx next_ x4) fun x7 =>
(Option.bind (idx next_ x4) fun x8 =>
some (.inl ((List.set next_ x4.toNat true), (IntKind.i64.wrap (x4 + 1))))))
(cond (decide (x4 > 0))
(Option.bind (idx next_ (IntKind.i64.wrap (x4 - 1))) fun x9 =>
(Option.bind (idx next_ (IntKind.i64.wrap (x4 - 1))) fun x10 =>
(Option.bind (idx next_ x4) fun x11 =>
(Option.bind (idx next_ x4) fun x12 =>
some (.inl ((List.set next_ x4.toNat x10), (IntKind.i64.wrap (x4 + 1))))))))
(Option.bind (idx next_ x4) fun x13 =>
(Option.bind (idx next_ x4) fun x14 =>
some (.inl ((List.set next_ x4.toNat false), (IntKind.i64.wrap (x4 + 1))))))))))
(cond (decide (x4 > 0))
(Option.bind (idx can (IntKind.i64.wrap (x4 - 1))) fun x15 =>
(Option.bind (idx can (IntKind.i64.wrap (x4 - 1))) fun x16 =>
(cond x16
(Option.bind (idx l (IntKind.i64.wrap (x4 - 1))) fun x17 =>
(Option.bind (glob_part_match x3 x17) fun r =>
(Option.bind (idx next_ x4) fun x18 =>
(Option.bind (idx next_ x4) fun x19 =>
some (.inl ((List.set next_ x4.toNat r), (IntKind.i64.wrap (x4 + 1))))))))
(Option.bind (idx next_ x4) fun x20 =>
(Option.bind (idx next_ x4) fun x21 =>
some (.inl ((List.set next_ x4.toNat false), (IntKind.i64.wrap (x4 + 1)))))))))
(Option.bind (idx next_ x4) fun x22 =>
(Option.bind (idx next_ x4) fun x23 =>
some (.inl ((List.set next_ x4.toNat false), (IntKind.i64.wrap (x4 + 1))))))))
(some (.inr (.inl next_))))
noncomputable def glob_Pattern_all_l1 (parts : List TGlobPart) (l : List (List UInt8)) (can : List Bool) (x2 : Int) : Option (Sum ((List Bool) × Int) (Sum ((List Bool)) (Bool × ((List UInt8) × (List TGlobPart))))) :=
(cond (decide (x2 < (parts.length : Int)))
(Option.bind (idx parts x2) fun x3 =>
(Option.bind (mkz 1 false (IntKind.i64.wrap ((l.length : Int) + 1))) fun made1 =>
(bnd (loopO (fun s => glob_Pattern_all_l2 l can x3 made1 s.1 s.2) ((made1, 0) : (List Bool) × Int)) fun next_1 =>
some (.inl (next_1, (IntKind.i64.wrap (x2 + 1)))))))
(some (.inr (.inl can))))
noncomputable def glob_Pattern_all (text : List UInt8) (parts : List TGlobPart) (l : List (List UInt8)) : Option (Bool × ((List UInt8) × (List TGlobPart))) :=
(Option.bind (mkz 1 false (IntKind.i64.wrap ((l.length : Int) + 1))) fun made =>
(Option.bind (idx made 0) fun x =>
(Option.bind (idx made 0) fun x1 =>
(bnd (loopO (fun s => glob_Pattern_all_l1 parts l s.1 s.2) (((List.set made ((0 : Int).toNat) true), 0) : (List Bool) × Int)) fun can1 =>
(Option.bind (idx can1 (l.length : Int)) fun x24 =>
(Option.bind (idx can1 (l.length : Int)) fun x25 =>
some (x25, (text, parts))))))))
noncomputable def glob_Pattern_Match (text : List UInt8) (parts : List TGlobPart) (path : List UInt8) : Option (Bool × ((List UInt8) × (List TGlobPart))) :=
(Option.bind (name_Split path) fun r =>
(cond (r.2 == 0)
(Option.bind (glob_Pattern_all text parts r.1) fun r1 =>
some (r1.1, (r1.2.1, r1.2.2)))
(some (false, (text, parts)))))
noncomputable def glob_Pattern_Match_2 (text : List UInt8) (parts : List TGlobPart) (path : List UInt8) : Option (Bool × ((List UInt8) × (List TGlobPart))) :=
(Option.bind (name_Split path) fun r =>
(cond (r.2 == 0)
(Option.bind (glob_Pattern_all text parts r.1) fun r1 =>
some (r1.1, (r1.2.1, r1.2.2)))
(some (false, (text, parts)))))
noncomputable def glob_Pattern_Parts (text : List UInt8) (parts : List TGlobPart) : Option (Int × ((List UInt8) × (List TGlobPart))) :=
some ((parts.length : Int), (text, parts))
noncomputable def law28_live : Option (Bool) :=
(Option.bind (glob_Compile ([97, 47, 42, 42, 47, 42, 46, 91, 99, 104, 93] : List UInt8)) fun r =>
(altE r.1 (fun y_ => (Option.bind (glob_Compile ([97, 47, 47, 98] : List UInt8)) fun r1 =>
(altE r1.1 (fun y_1 => (Option.bind (law28_num r.2.1) fun r2 =>
(cond (r2 == 0)
(some false)
(some false))))
(fun y_2 => (Option.bind (law28_num r.2.1) fun r3 =>
(cond (r3 == 0)
(some false)
(some false)))))))
(fun y_3 => (Option.bind (glob_Compile ([97, 47, 47, 98] : List UInt8)) fun r4 =>
(altE r4.1 (fun y_4 => (Option.bind (law28_num r.2.1) fun r5 =>
(cond (r5 == 0)
(Option.bind (glob_Pattern_Match y_3.1 y_3.2 ([97, 47, 120, 46, 99] : List UInt8)) fun r6 =>
(cond r6.1
(Option.bind (glob_Pattern_Match_2 r6.2.1 r6.2.2 ([97, 47, 98, 47, 99, 47, 121, 46, 104] : List UInt8)) fun r7 =>
(cond r7.1
(Option.bind (glob_Pattern_Match_2 r7.2.1 r7.2.2 ([97, 47, 120, 46, 111] : List UInt8)) fun r8 =>
(cond (!r8.1)
(Option.bind (glob_Pattern_Parts r8.2.1 r8.2.2) fun r9 =>
(cond (r9.1 == 3)
(Option.bind (law28_num r4.2.1) fun r10 =>
(cond (r10 == 6)
(some (r4.2.2 == 2))
(some false)))
(some false)))
(some false)))
(some false)))
(some false)))
(some false))))
(fun y_5 => (Option.bind (law28_num r.2.1) fun r11 =>
(cond (r11 == 0)
(Option.bind (glob_Pattern_Match y_3.1 y_3.2 ([97, 47, 120, 46, 99] : List UInt8)) fun r12 =>
(cond r12.1
(Option.bind (glob_Pattern_Match_2 r12.2.1 r12.2.2 ([97, 47, 98, 47, 99, 47, 121, 46, 104] : List UInt8)) fun r13 =>
(cond r13.1
(Option.bind (glob_Pattern_Match_2 r13.2.1 r13.2.2 ([97, 47, 120, 46, 111] : List UInt8)) fun r14 =>
(cond (!r14.1)
(Option.bind (glob_Pattern_Parts r14.2.1 r14.2.2) fun r15 =>
(cond (r15.1 == 3)
(Option.bind (law28_num r4.2.1) fun r16 =>
(cond (r16 == 6)
(some (r4.2.2 == 2))
(some false)))
(some false)))
(some false)))
(some false)))
(some false)))
(some false)))))))))
noncomputable def glob_Pattern_Match_3 (p : Unit) (path : List UInt8) : Option (Bool) :=
some false
noncomputable def glob_Pattern_Part (p : Unit) (i : Int) (name : List UInt8) : Option (Bool) :=
some false
noncomputable def glob_Pattern_Part_2 (text : List UInt8) (parts : List TGlobPart) (i : Int) (name : List UInt8) : Option (Bool × ((List UInt8) × (List TGlobPart))) :=
(cond (decide (i ≥ 0))
(cond (decide (i < (parts.length : Int)))
(Option.bind (idx parts i) fun x =>
(Option.bind (glob_part_match x name) fun r =>
some (r, (text, parts))))
(some (false, (text, parts))))
(some (false, (text, parts))))
noncomputable def law28_GlobNames_l1 (a : List UInt8) (s_ : List UInt8) (i : Int) : Option (Sum ((List UInt8) × Int) (Sum ((List UInt8)) Bool)) :=
(cond (decide (i < (a.length : Int)))
(Option.bind (cat s_ ([92] : List UInt8)) fun z =>
(Option.bind (slc a i (IntKind.i64.wrap (i + 1))) fun y_ =>
(Option.bind (cat z y_) fun z1 =>
some (.inl (z1, (IntKind.i64.wrap (i + 1)))))))
(some (.inr (.inl s_))))
noncomputable def law28_GlobNames (a : List UInt8) (b : List UInt8) : Option (Bool) :=
(bnd ((Option.bind (ref10_Valid a) fun r =>
(cond (!r)
(some (.inl true))
(Option.bind (ref10_Valid b) fun r1 =>
some (.inl (!r1))))) : Option (Sum Bool Bool)) fun x =>
(cond x
(Option.bind law28_live fun r2 =>
some r2)
(bnd (loopO (fun s => law28_GlobNames_l1 a s.1 s.2) ((([] : List UInt8), 0) : (List UInt8) × Int)) fun s_1 =>
(Option.bind (glob_Compile s_1) fun r3 =>
(altE r3.1 (fun y_1 => (Option.bind (cat s_1 ([42] : List UInt8)) fun z2 =>
(Option.bind (glob_Compile z2) fun r4 =>
(altE r4.1 (fun y_2 => (Option.bind (glob_Compile ([42, 42] : List UInt8)) fun r5 =>
(altE r5.1 (fun y_3 => (Option.bind (law28_num r3.2.1) fun r6 =>
(Option.bind (law28_num r4.2.1) fun r7 =>
(Option.bind (law28_num r5.2.1) fun r8 =>
(cond ((IntKind.i64.wrap ((IntKind.i64.wrap (r6 + r7)) + r8)) != 0)
(some false)
(bnd ((cond (decide ((b.length : Int) ≥ (a.length : Int)))
(Option.bind (slc b 0 (a.length : Int)) fun y_4 =>
some (.inl (y_4 == a)))
(some (.inl false))) : Option (Sum Bool Bool)) fun begins =>
(Option.bind (glob_Pattern_Match_3 () a) fun r9 =>
(cond r9
(Option.bind (glob_Pattern_Match_3 () b) fun r10 =>
(cond (r10 == (a == b))
(Option.bind (glob_Pattern_Part () 0 b) fun r11 =>
(cond (r11 == begins)
(Option.bind (glob_Pattern_Match_3 () b) fun r12 =>
(cond (r12 == begins)
(Option.bind (cat a ([47] : List UInt8)) fun z3 =>
(Option.bind (cat z3 b) fun z4 =>
(Option.bind (glob_Pattern_Match_3 () z4) fun r13 =>
(cond r13
(Option.bind (glob_Pattern_Match_3 () ([] : List UInt8)) fun r14 =>
(cond r14
(Option.bind law28_live fun r15 =>
some r15)
(some false)))
(some false)))))
(some false)))
(some false)))
(some false)))
(some false)))))))))
(fun y_5 => (Option.bind (law28_num r3.2.1) fun r16 =>
(Option.bind (law28_num r4.2.1) fun r17 =>
(Option.bind (law28_num r5.2.1) fun r18 =>
(cond ((IntKind.i64.wrap ((IntKind.i64.wrap (r16 + r17)) + r18)) != 0)
(some false)
(bnd ((cond (decide ((b.length : Int) ≥ (a.length : Int)))
(Option.bind (slc b 0 (a.length : Int)) fun y_6 =>
some (.inl (y_6 == a)))
(some (.inl false))) : Option (Sum Bool Bool)) fun begins1 =>
(Option.bind (glob_Pattern_Match_3 () a) fun r19 =>
(cond r19
(Option.bind (glob_Pattern_Match_3 () b) fun r20 =>
(cond (r20 == (a == b))
(Option.bind (glob_Pattern_Part () 0 b) fun r21 =>
(cond (r21 == begins1)
(Option.bind (glob_Pattern_Match_3 () b) fun r22 =>
(cond (r22 == begins1)
(Option.bind (cat a ([47] : List UInt8)) fun z5 =>
(Option.bind (cat z5 b) fun z6 =>
(Option.bind (glob_Pattern_Match y_5.1 y_5.2 z6) fun r23 =>
(cond r23.1
(Option.bind (glob_Pattern_Match_2 r23.2.1 r23.2.2 ([] : List UInt8)) fun r24 =>
(cond r24.1
(Option.bind law28_live fun r25 =>
some r25)
(some false)))
(some false)))))
(some false)))
(some false)))
(some false)))
(some false))))))))))))
(fun y_7 => (Option.bind (glob_Compile ([42, 42] : List UInt8)) fun r26 =>
(altE r26.1 (fun y_8 => (Option.bind (law28_num r3.2.1) fun r27 =>
(Option.bind (law28_num r4.2.1) fun r28 =>
(Option.bind (law28_num r26.2.1) fun r29 =>
(cond ((IntKind.i64.wrap ((IntKind.i64.wrap (r27 + r28)) + r29)) != 0)
(some false)
(bnd ((cond (decide ((b.length : Int) ≥ (a.length : Int)))
(Option.bind (slc b 0 (a.length : Int)) fun y_9 =>
some (.inl (y_9 == a)))
(some (.inl false))) : Option (Sum Bool Bool)) fun begins2 =>
(Option.bind (glob_Pattern_Match_3 () a) fun r30 =>
(cond r30
(Option.bind (glob_Pattern_Match_3 () b) fun r31 =>
(cond (r31 == (a == b))
(Option.bind (glob_Pattern_Part_2 y_7.1 y_7.2 0 b) fun r32 =>
(cond (r32.1 == begins2)
(Option.bind (glob_Pattern_Match_2 r32.2.1 r32.2.2 b) fun r33 =>
(cond (r33.1 == begins2)
(Option.bind (cat a ([47] : List UInt8)) fun z7 =>
(Option.bind (cat z7 b) fun z8 =>
(Option.bind (glob_Pattern_Match_3 () z8) fun r34 =>
(cond r34
(Option.bind (glob_Pattern_Match_3 () ([] : List UInt8)) fun r35 =>
(cond r35
(Option.bind law28_live fun r36 =>
some r36)
(some false)))
(some false)))))
(some false)))
(some false)))
(some false)))
(some false)))))))))
(fun y_10 => (Option.bind (law28_num r3.2.1) fun r37 =>
(Option.bind (law28_num r4.2.1) fun r38 =>
(Option.bind (law28_num r26.2.1) fun r39 =>
(cond ((IntKind.i64.wrap ((IntKind.i64.wrap (r37 + r38)) + r39)) != 0)
(some false)
(bnd ((cond (decide ((b.length : Int) ≥ (a.length : Int)))
(Option.bind (slc b 0 (a.length : Int)) fun y_11 =>
some (.inl (y_11 == a)))
(some (.inl false))) : Option (Sum Bool Bool)) fun begins3 =>
(Option.bind (glob_Pattern_Match_3 () a) fun r40 =>
(cond r40
(Option.bind (glob_Pattern_Match_3 () b) fun r41 =>
(cond (r41 == (a == b))
(Option.bind (glob_Pattern_Part_2 y_7.1 y_7.2 0 b) fun r42 =>
(cond (r42.1 == begins3)
(Option.bind (glob_Pattern_Match_2 r42.2.1 r42.2.2 b) fun r43 =>
(cond (r43.1 == begins3)
(Option.bind (cat a ([47] : List UInt8)) fun z9 =>
(Option.bind (cat z9 b) fun z10 =>
(Option.bind (glob_Pattern_Match y_10.1 y_10.2 z10) fun r44 =>
(cond r44.1
(Option.bind (glob_Pattern_Match_2 r44.2.1 r44.2.2 ([] : List UInt8)) fun r45 =>
(cond r45.1
(Option.bind law28_live fun r46 =>
some r46)
(some false)))
(some false)))))
(some false)))
(some false)))
(some false)))
(some false))))))))))))))))
(fun y_12 => (Option.bind (cat s_1 ([42] : List UInt8)) fun z11 =>
(Option.bind (glob_Compile z11) fun r47 =>
(altE r47.1 (fun y_13 => (Option.bind (glob_Compile ([42, 42] : List UInt8)) fun r48 =>
(altE r48.1 (fun y_14 => (Option.bind (law28_num r3.2.1) fun r49 =>
(Option.bind (law28_num r47.2.1) fun r50 =>
(Option.bind (law28_num r48.2.1) fun r51 =>
(cond ((IntKind.i64.wrap ((IntKind.i64.wrap (r49 + r50)) + r51)) != 0)
(some false)
(bnd ((cond (decide ((b.length : Int) ≥ (a.length : Int)))
(Option.bind (slc b 0 (a.length : Int)) fun y_15 =>
some (.inl (y_15 == a)))
(some (.inl false))) : Option (Sum Bool Bool)) fun begins4 =>
(Option.bind (glob_Pattern_Match y_12.1 y_12.2 a) fun r52 =>
(cond r52.1
(Option.bind (glob_Pattern_Match_2 r52.2.1 r52.2.2 b) fun r53 =>
(cond (r53.1 == (a == b))
(Option.bind (glob_Pattern_Part () 0 b) fun r54 =>
(cond (r54 == begins4)
(Option.bind (glob_Pattern_Match_3 () b) fun r55 =>
(cond (r55 == begins4)
(Option.bind (cat a ([47] : List UInt8)) fun z12 =>
(Option.bind (cat z12 b) fun z13 =>
(Option.bind (glob_Pattern_Match_3 () z13) fun r56 =>
(cond r56
(Option.bind (glob_Pattern_Match_3 () ([] : List UInt8)) fun r57 =>
(cond r57
(Option.bind law28_live fun r58 =>
some r58)
(some false)))
(some false)))))
(some false)))
(some false)))
(some false)))
(some false)))))))))
(fun y_16 => (Option.bind (law28_num r3.2.1) fun r59 =>
(Option.bind (law28_num r47.2.1) fun r60 =>
(Option.bind (law28_num r48.2.1) fun r61 =>
(cond ((IntKind.i64.wrap ((IntKind.i64.wrap (r59 + r60)) + r61)) != 0)
(some false)
(bnd ((cond (decide ((b.length : Int) ≥ (a.length : Int)))
(Option.bind (slc b 0 (a.length : Int)) fun y_17 =>
some (.inl (y_17 == a)))
(some (.inl false))) : Option (Sum Bool Bool)) fun begins5 =>
(Option.bind (glob_Pattern_Match y_12.1 y_12.2 a) fun r62 =>
(cond r62.1
(Option.bind (glob_Pattern_Match_2 r62.2.1 r62.2.2 b) fun r63 =>
(cond (r63.1 == (a == b))
(Option.bind (glob_Pattern_Part () 0 b) fun r64 =>
(cond (r64 == begins5)
(Option.bind (glob_Pattern_Match_3 () b) fun r65 =>
(cond (r65 == begins5)
(Option.bind (cat a ([47] : List UInt8)) fun z14 =>
(Option.bind (cat z14 b) fun z15 =>
(Option.bind (glob_Pattern_Match y_16.1 y_16.2 z15) fun r66 =>
(cond r66.1
(Option.bind (glob_Pattern_Match_2 r66.2.1 r66.2.2 ([] : List UInt8)) fun r67 =>
(cond r67.1
(Option.bind law28_live fun r68 =>
some r68)
(some false)))
(some false)))))
(some false)))
(some false)))
(some false)))
(some false))))))))))))
(fun y_18 => (Option.bind (glob_Compile ([42, 42] : List UInt8)) fun r69 =>
(altE r69.1 (fun y_19 => (Option.bind (law28_num r3.2.1) fun r70 =>
(Option.bind (law28_num r47.2.1) fun r71 =>
(Option.bind (law28_num r69.2.1) fun r72 =>
(cond ((IntKind.i64.wrap ((IntKind.i64.wrap (r70 + r71)) + r72)) != 0)
(some false)
(bnd ((cond (decide ((b.length : Int) ≥ (a.length : Int)))
(Option.bind (slc b 0 (a.length : Int)) fun y_20 =>
some (.inl (y_20 == a)))
(some (.inl false))) : Option (Sum Bool Bool)) fun begins6 =>
(Option.bind (glob_Pattern_Match y_12.1 y_12.2 a) fun r73 =>
(cond r73.1
(Option.bind (glob_Pattern_Match_2 r73.2.1 r73.2.2 b) fun r74 =>
(cond (r74.1 == (a == b))
(Option.bind (glob_Pattern_Part_2 y_18.1 y_18.2 0 b) fun r75 =>
(cond (r75.1 == begins6)
(Option.bind (glob_Pattern_Match_2 r75.2.1 r75.2.2 b) fun r76 =>
(cond (r76.1 == begins6)
(Option.bind (cat a ([47] : List UInt8)) fun z16 =>
(Option.bind (cat z16 b) fun z17 =>
(Option.bind (glob_Pattern_Match_3 () z17) fun r77 =>
(cond r77
(Option.bind (glob_Pattern_Match_3 () ([] : List UInt8)) fun r78 =>
(cond r78
(Option.bind law28_live fun r79 =>
some r79)
(some false)))
(some false)))))
(some false)))
(some false)))
(some false)))
(some false)))))))))
(fun y_21 => (Option.bind (law28_num r3.2.1) fun r80 =>
(Option.bind (law28_num r47.2.1) fun r81 =>
(Option.bind (law28_num r69.2.1) fun r82 =>
(cond ((IntKind.i64.wrap ((IntKind.i64.wrap (r80 + r81)) + r82)) != 0)
(some false)
(bnd ((cond (decide ((b.length : Int) ≥ (a.length : Int)))
(Option.bind (slc b 0 (a.length : Int)) fun y_22 =>
some (.inl (y_22 == a)))
(some (.inl false))) : Option (Sum Bool Bool)) fun begins7 =>
(Option.bind (glob_Pattern_Match y_12.1 y_12.2 a) fun r83 =>
(cond r83.1
(Option.bind (glob_Pattern_Match_2 r83.2.1 r83.2.2 b) fun r84 =>
(cond (r84.1 == (a == b))
(Option.bind (glob_Pattern_Part_2 y_18.1 y_18.2 0 b) fun r85 =>
(cond (r85.1 == begins7)
(Option.bind (glob_Pattern_Match_2 r85.2.1 r85.2.2 b) fun r86 =>
(cond (r86.1 == begins7)
(Option.bind (cat a ([47] : List UInt8)) fun z18 =>
(Option.bind (cat z18 b) fun z19 =>
(Option.bind (glob_Pattern_Match y_21.1 y_21.2 z19) fun r87 =>
(cond r87.1
(Option.bind (glob_Pattern_Match_2 r87.2.1 r87.2.2 ([] : List UInt8)) fun r88 =>
(cond r88.1
(Option.bind law28_live fun r89 =>
some r89)
(some false)))
(some false)))))
(some false)))
(some false)))
(some false)))
(some false)))))))))))))))))))))
end Go.Proofs.Ytebbaokcgnjfiaa.F
