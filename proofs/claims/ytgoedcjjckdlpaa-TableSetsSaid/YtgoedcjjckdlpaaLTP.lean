/- The functions as Lean functions over numbers and lists: printed by lift.py. -/
import Derived.Test.YtgoedcjjckdlpaaM5
import Derived.Test.YtgoedcjjckdlpaaM7
import Derived.Test.YtgoedcjjckdlpaaM9
import Derived.Test.YtgoedcjjckdlpaaLays
set_option linter.unusedVariables false
set_option linter.unusedSimpArgs false
namespace Go.Proofs.Ytgoedcjjckdlpaa.K
open Go Go.RowKit
structure TApiAttr where
  Name : (List UInt8)
  Value : (List UInt8)
  deriving DecidableEq
def rApiAttr : Rep TApiAttr where
  sz := 2
  im m cs x := ∃ A1 c1, cs = [.string ⟨x.Name.toArray⟩, .slice A1 x.Value.length c1] ∧ x.Name.length ≤ 9223372036854775807 ∧ SlI rU8 m A1 c1 x.Value
  wf x := rStr.wf x.Name ∧ (rSl rU8).wf x.Value
  mono hs := fun ⟨A1, c1, h, s0, s1⟩ => ⟨A1, c1, h, s0, s1.mono hs⟩
  len := fun ⟨A1, c1, h, s0, s1⟩ => by rw [h]; rfl
  one := fun ⟨A1, c1, h, s0, s1⟩ => by rw [h]; intro u hu; simp only [List.mem_cons, List.mem_nil_iff, or_false] at hu; rcases hu with rfl | rfl <;> rfl
structure TFieldWriter where
  f_b : (List UInt8)
  f_most : Int
  f_e : Int
  deriving DecidableEq
def rFieldWriter : Rep TFieldWriter where
  sz := 3
  im m cs x := ∃ A0 c0, cs = [.slice A0 x.f_b.length c0, .int .i64 x.f_most, .int .i64 x.f_e] ∧ SlI rU8 m A0 c0 x.f_b
  wf x := (rSl rU8).wf x.f_b ∧ rI64.wf x.f_most ∧ rI64.wf x.f_e
  mono hs := fun ⟨A0, c0, h, s0⟩ => ⟨A0, c0, h, s0.mono hs⟩
  len := fun ⟨A0, c0, h, s0⟩ => by rw [h]; rfl
  one := fun ⟨A0, c0, h, s0⟩ => by rw [h]; intro u hu; simp only [List.mem_cons, List.mem_nil_iff, or_false] at hu; rcases hu with rfl | rfl | rfl <;> rfl
structure TFieldReader where
  f_b : (List UInt8)
  f_at : Int
  f_e : Int
  deriving DecidableEq
def rFieldReader : Rep TFieldReader where
  sz := 3
  im m cs x := ∃ A0 c0, cs = [.slice A0 x.f_b.length c0, .int .i64 x.f_at, .int .i64 x.f_e] ∧ SlI rU8 m A0 c0 x.f_b
  wf x := (rSl rU8).wf x.f_b ∧ rI64.wf x.f_at ∧ rI64.wf x.f_e
  mono hs := fun ⟨A0, c0, h, s0⟩ => ⟨A0, c0, h, s0.mono hs⟩
  len := fun ⟨A0, c0, h, s0⟩ => by rw [h]; rfl
  one := fun ⟨A0, c0, h, s0⟩ => by rw [h]; intro u hu; simp only [List.mem_cons, List.mem_nil_iff, or_false] at hu; rcases hu with rfl | rfl | rfl <;> rfl
structure TApiFrag where
  At : Int
  Word : Int
  Plain : Int
  deriving DecidableEq
def rApiFrag : Rep TApiFrag where
  sz := 3
  im m cs x := cs = [.int .i64 x.At, .int .i64 x.Word, .int .i64 x.Plain]
  wf x := rI64.wf x.At ∧ rI64.wf x.Word ∧ rI64.wf x.Plain
  mono hs := fun h => h
  len := fun h => by rw [h]; rfl
  one := fun h => by rw [h]; intro u hu; simp only [List.mem_cons, List.mem_nil_iff, or_false] at hu; rcases hu with rfl | rfl | rfl <;> rfl
end Go.Proofs.Ytgoedcjjckdlpaa.K
namespace Go.Proofs.Ytgoedcjjckdlpaa.F
open Go Go.RowKit Go.Proofs.Ytgoedcjjckdlpaa.K
def table_between (n_ : Int) (low : Int) (high : Int) : Bool :=
  cond (decide (n_ ≥ low))
  ((decide (n_ ≤ high)))
  (false)
def internal_stringslite_IndexByte (s_ : (List UInt8)) (c : UInt8) : Int :=
  (Lib.indexByte s_ c)
def strings_IndexByte (s_ : (List UInt8)) (c : UInt8) : Int :=
  (internal_stringslite_IndexByte s_ c)
noncomputable def table_right_l1 (l_ : (List TApiAttr)) (last : (List UInt8)) (t : Nat) : Option (Sum ((List UInt8) × Nat) (Sum Unit Bool)) :=
  cond (decide ((t : Int) < (l_.length : Int)))
  (Option.bind (l_[t]?) fun x_ =>
  cond (table_between (x_.Name.length : Int) 1 255)
  (cond (decide ((strings_IndexByte x_.Name (0 : UInt8)) ≥ 0))
  (some (.inr (.inr false)))
  (cond (leB x_.Name last)
  (some (.inr (.inr false)))
  (cond (decide ((x_.Value.length : Int) > 4096))
  (some (.inr (.inr false)))
  (some (.inl (x_.Name, (t + 1)))))))
  (some (.inr (.inr false))))
  (some (.inr (.inl ())))
noncomputable def table_right (l_ : (List TApiAttr)) : Option Bool :=
  bnd
  (loopO (fun s => table_right_l1 l_ s.1 s.2) (([] : List UInt8), 0)) fun _ =>
  some (table_between (l_.length : Int) 1 64)
def field_wide (width : Int) : Bool :=
  cond (width == 1)
  (true)
  (cond (width == 2)
  (true)
  (cond (width == 4)
  (true)
  (cond (width == 8)
  (true)
  (false))))
noncomputable def field_fits (n_ : UInt64) (width : Int) : Option Bool :=
  cond (width == 8)
  (some true)
  (Option.bind (chk (decide (0 ≤ (IntKind.i64.wrap (8 * width))))) fun _ =>
  some (((shr64 n_ (IntKind.i64.wrap (8 * width))).toNat : Int) == 0))
noncomputable def field_copied (b : (List UInt8)) : Option (List UInt8) :=
  Option.bind (app ([] : List UInt8) b) fun b1 =>
  some b1
noncomputable def field_store_l1 (n_ : UInt64) (width : Int) (b1 : (List UInt8)) (t : Int) : Option (Sum ((List UInt8) × Int) (List UInt8)) :=
  cond (decide (t < width))
  (Option.bind (chk (decide (0 ≤ (IntKind.i64.wrap (8 * t))))) fun _ =>
  Option.bind (app b1 [(shr64 n_ (IntKind.i64.wrap (8 * t))).toUInt8]) fun b2 =>
  some (.inl (b2, (IntKind.i64.wrap (t + 1)))))
  (some (.inr b1))
noncomputable def field_store (b : (List UInt8)) (n_ : UInt64) (width : Int) : Option (List UInt8) :=
  Option.bind
  (loopO (fun s => field_store_l1 n_ width s.1 s.2) (b, 0)) fun b1 =>
  some b1
noncomputable def field_Put (b : (List UInt8)) (n_ : UInt64) (width : Int) : Option ((List UInt8) × Int) :=
  cond (field_wide width)
  (Option.bind (field_fits n_ width) fun fits =>
  cond fits
  (Option.bind (field_copied b) fun copied =>
  Option.bind (field_store copied n_ width) fun store =>
  some (store, 0))
  (some ([], 9)))
  (some ([], 1))
def field_NewWriter (most : Int) : TFieldWriter :=
  ({ f_b := [], f_most := (if 0 > most then 0 else most), f_e := 0 } : TFieldWriter)
noncomputable def field_Writer_right (w_ : TFieldWriter) (e_ : Int) (more : Int) : Option (Bool × TFieldWriter) :=
  cond (w_.f_e != 0)
  (some (false, w_))
  (cond (e_ == 0)
  (cond (decide (more > (IntKind.i64.wrap (w_.f_most - (w_.f_b.length : Int)))))
  (some (false, ({ f_b := w_.f_b, f_most := w_.f_most, f_e := 2 } : TFieldWriter)))
  (some ((e_ == 0), ({ f_b := w_.f_b, f_most := w_.f_most, f_e := e_ } : TFieldWriter))))
  (some ((e_ == 0), ({ f_b := w_.f_b, f_most := w_.f_most, f_e := e_ } : TFieldWriter))))
noncomputable def field_Writer_Num (w_ : TFieldWriter) (n_ : UInt64) (width : Int) : Option TFieldWriter :=
  Option.bind
  (cond (field_wide width)
  (Option.bind (field_fits n_ width) fun fits =>
  cond fits
  (some 0)
  (some 9))
  (some 1)) fun e_ =>
  Option.bind (field_Writer_right w_ (e_ : Int) width) fun right =>
  cond right.1
  (Option.bind (field_store right.2.f_b n_ width) fun store =>
  some ({ f_b := store, f_most := right.2.f_most, f_e := right.2.f_e } : TFieldWriter))
  (some right.2)
noncomputable def field_Writer_Bytes (w_ : TFieldWriter) (b : (List UInt8)) : Option TFieldWriter :=
  Option.bind (field_Writer_right w_ 0 (b.length : Int)) fun right =>
  cond right.1
  (Option.bind (app right.2.f_b b) fun b1 =>
  some ({ f_b := b1, f_most := right.2.f_most, f_e := right.2.f_e } : TFieldWriter))
  (some right.2)
noncomputable def field_Writer_Text (w_ : TFieldWriter) (b : (List UInt8)) : Option TFieldWriter :=
  cond (decide ((b.length : Int) > 65535))
  (Option.bind (field_Writer_right w_ 9 (IntKind.i64.wrap ((if 65535 < (b.length : Int) then 65535 else (b.length : Int)) + 2))) fun right =>
  cond right.1
  (Option.bind (field_store right.2.f_b (UInt64.ofInt (b.length : Int)) 2) fun store =>
  Option.bind (app store b) fun b1 =>
  some ({ f_b := b1, f_most := right.2.f_most, f_e := right.2.f_e } : TFieldWriter))
  (some right.2))
  (Option.bind (field_Writer_right w_ 0 ((if 65535 < (b.length : Int) then 65535 else (b.length : Int)) + 2)) fun right1 =>
  cond right1.1
  (Option.bind (field_store right1.2.f_b (UInt64.ofInt (b.length : Int)) 2) fun store1 =>
  Option.bind (app store1 b) fun b2 =>
  some ({ f_b := b2, f_most := right1.2.f_most, f_e := right1.2.f_e } : TFieldWriter))
  (some right1.2))
noncomputable def table_EncodeAttrs_1 (w_ : TFieldWriter) (a : TApiAttr) : Option TFieldWriter :=
  Option.bind (field_Writer_Num w_ (UInt64.ofInt (a.Name.length : Int)) 1) fun num =>
  Option.bind (field_Writer_Bytes num a.Name) fun bytes =>
  Option.bind (field_Writer_Text bytes a.Value) fun text =>
  some text
noncomputable def field_Writer_Done (w_ : TFieldWriter) : Option ((List UInt8) × Int) :=
  cond (w_.f_e != 0)
  (some ([], w_.f_e))
  (Option.bind (field_copied w_.f_b) fun copied =>
  some (copied, 0))
noncomputable def table_write1_l1 (l_ : (List TApiAttr)) (b : (List UInt8)) (most : Int) (e_ : Int) (t : Nat) : Option (Sum ((List UInt8) × Int × Int × Nat) ((List UInt8) × Int × Int)) :=
  cond (decide ((t : Int) < (l_.length : Int)))
  (Option.bind (l_[t]?) fun x_ =>
  Option.bind (table_EncodeAttrs_1 ({ f_b := b, f_most := most, f_e := e_ } : TFieldWriter) x_) fun encode =>
  some (.inl (encode.f_b, encode.f_most, encode.f_e, (t + 1))))
  (some (.inr (b, most, e_)))
noncomputable def table_write1 (l_ : (List TApiAttr)) : Option (List UInt8) :=
  Option.bind
  (loopO (fun s => table_write1_l1 l_ s.1 s.2.1 s.2.2.1 s.2.2.2) ((field_NewWriter 16777216).f_b, (field_NewWriter 16777216).f_most, (field_NewWriter 16777216).f_e, 0)) fun (b, most, e_) =>
  Option.bind (field_Writer_Done ({ f_b := b, f_most := most, f_e := e_ } : TFieldWriter)) fun done =>
  some done.1
noncomputable def table_EncodeAttrs (l_ : (List TApiAttr)) : Option ((List UInt8) × Int) :=
  cond (decide ((l_.length : Int) > 64))
  (some ([], 1))
  (Option.bind (table_right l_) fun right =>
  cond right
  (Option.bind (field_Put [] (UInt64.ofInt (l_.length : Int)) 2) fun put =>
  Option.bind (table_write1 l_) fun attr =>
  Option.bind (app put.1 attr) fun b =>
  some (b, 0))
  (some ([], 1)))
def law17_num (e_ : Int) : Int :=
  e_
noncomputable def table_Ids_l1 (l_ : (List Int)) (seen : (List (Int × Int))) (out : (List Int)) (t : Nat) : Option (Sum ((List (Int × Int)) × (List Int) × Nat) (List Int)) :=
  cond (decide ((t : Int) < (l_.length : Int)))
  (Option.bind (l_[t]?) fun x_ =>
  cond (((mget (mput seen x_ (IntKind.i64.wrap (((mget seen x_).getD 0) + 1))) x_).getD 0) == 1)
  (Option.bind (app out [x_]) fun b =>
  some (.inl ((mput seen x_ (IntKind.i64.wrap (((mget seen x_).getD 0) + 1))), b, (t + 1))))
  (some (.inl ((mput seen x_ (IntKind.i64.wrap (((mget seen x_).getD 0) + 1))), out, (t + 1)))))
  (some (.inr out))
noncomputable def table_Ids (l_ : (List Int)) : Option (List Int) :=
  Option.bind
  (loopO (fun s => table_Ids_l1 l_ s.1 s.2.1 s.2.2) (([] : List (Int × Int)), [], 0)) fun out =>
  Option.bind (chk (decide (out.length < 4611686018427387904))) fun _ =>
  some (sortI out)
noncomputable def ref17_SameInts_l1 (a : (List Int)) (b : (List Int)) (i : Nat) : Option (Sum Nat (Sum Unit Bool)) :=
  cond (decide ((i : Int) < (a.length : Int)))
  (Option.bind (a[i]?) fun x_ =>
  Option.bind (b[i]?) fun x_1 =>
  cond (x_ != x_1)
  (some (.inr (.inr false)))
  (some (.inl (i + 1))))
  (some (.inr (.inl ())))
noncomputable def ref17_SameInts (a : (List Int)) (b : (List Int)) : Option Bool :=
  cond ((a.length : Int) != (b.length : Int))
  (some false)
  (bnd
  (loopO (fun s => ref17_SameInts_l1 a b s) 0) fun _ =>
  some true)
noncomputable def law17_live : Option Bool :=
  Option.bind (table_EncodeAttrs [({ Name := ([107] : List UInt8), Value := ([(118 : UInt8)] : List UInt8) } : TApiAttr)]) fun encode =>
  cond ((law17_num encode.2) == 0)
  (cond (encode.1 == ([1, 0, 1, 107, 1, 0, 118] : List UInt8))
  (Option.bind (table_Ids [5, 0, 5]) fun ids =>
  Option.bind (ref17_SameInts ids [0, 5]) fun sameIn =>
  some sameIn)
  (some false))
  (some false)
noncomputable def ref17_Ids_l2 (l_ : (List Int)) (out : (List Int)) (best : Int) (i : Nat) : Option (Sum (Int × Nat) Int) :=
  cond (decide ((i : Int) < (l_.length : Int)))
  (cond ((out.length : Int) == 0)
  (cond (decide (best < 0))
  (some (.inl ((i : Int), (i + 1))))
  (Option.bind (l_[i]?) fun x_ =>
  Option.bind (idx l_ best) fun x_1 =>
  cond (decide (x_ < x_1))
  (some (.inl ((i : Int), (i + 1))))
  (some (.inl (best, (i + 1))))))
  (Option.bind (l_[i]?) fun x_2 =>
  Option.bind (idx out ((out.length : Int) - 1)) fun x_3 =>
  cond (decide (x_2 > x_3))
  (cond (decide (best < 0))
  (some (.inl ((i : Int), (i + 1))))
  (Option.bind (idx l_ best) fun x_4 =>
  cond (decide (x_2 < x_4))
  (some (.inl ((i : Int), (i + 1))))
  (some (.inl (best, (i + 1))))))
  (some (.inl (best, (i + 1))))))
  (some (.inr best))
noncomputable def ref17_Ids_l1 (l_ : (List Int)) (out : (List Int)) : Option (Sum (List Int) (List Int)) :=
  Option.bind
  (loopO (fun s => ref17_Ids_l2 l_ out s.1 s.2) ((-1), 0)) fun best =>
  cond (decide (best < 0))
  (some (.inr out))
  (Option.bind (idx l_ best) fun x_5 =>
  Option.bind (app out [x_5]) fun b =>
  some (.inl b))
noncomputable def ref17_Ids (l_ : (List Int)) : Option (List Int) :=
  loopO (fun s => ref17_Ids_l1 l_ s) []
noncomputable def slices_Index_l1 (s_ : (List Int)) (v_ : Int) (t : Nat) : Option (Sum Nat (Sum Unit Int)) :=
  cond (decide ((t : Int) < (s_.length : Int)))
  (Option.bind (s_[t]?) fun x_ =>
  cond (v_ == x_)
  (some (.inr (.inr (t : Int))))
  (some (.inl (t + 1))))
  (some (.inr (.inl ())))
noncomputable def slices_Index (s_ : (List Int)) (v_ : Int) : Option Int :=
  bnd
  (loopO (fun s => slices_Index_l1 s_ v_ s) 0) fun _ =>
  some (-1)
noncomputable def table_Place (l_ : (List Int)) (id_ : Int) : Option (Int × Bool) :=
  Option.bind (slices_Index l_ id_) fun indexi =>
  some ((if 0 > indexi then 0 else indexi), (decide (indexi ≥ 0)))
noncomputable def law17_TableIds_l1 (l_ : (List Int)) (id_ : Int) (place : (Int × Bool)) (k : Nat) : Option (Sum Nat (Sum Unit Bool)) :=
  cond (decide ((k : Int) < (l_.length : Int)))
  (Option.bind (l_[k]?) fun x_ =>
  cond (x_ == id_)
  (cond place.2
  (cond (place.1 == (k : Int))
  (Option.bind law17_live fun live1 =>
  some (.inr (.inr live1)))
  (some (.inr (.inr false))))
  (some (.inr (.inr false))))
  (some (.inl (k + 1))))
  (some (.inr (.inl ())))
noncomputable def law17_TableIds (l_ : (List Int)) (id_ : Int) : Option Bool :=
  cond (decide ((l_.length : Int) > 300))
  (Option.bind law17_live fun live =>
  some live)
  (Option.bind (app ([] : List Int) l_) fun b =>
  Option.bind (table_Ids b) fun ids =>
  Option.bind
  (Option.bind (ref17_Ids l_) fun ids1 =>
  Option.bind (ref17_SameInts ids ids1) fun sameIn =>
  cond sameIn
  (Option.bind (ref17_SameInts b l_) fun sameIn1 =>
  some (!sameIn1))
  (some true)) fun t =>
  cond t
  (some false)
  (Option.bind (table_Place l_ id_) fun place =>
  bnd
  (loopO (fun s => law17_TableIds_l1 l_ id_ place s) 0) fun _ =>
  cond place.2
  (some false)
  (cond (place.1 == 0)
  (Option.bind law17_live fun live2 =>
  some live2)
  (some false))))
noncomputable def table_EncodeIds_1 (w_ : TFieldWriter) (n_ : Int) : Option TFieldWriter :=
  Option.bind (field_Writer_Num w_ (UInt64.ofInt n_) 4) fun num =>
  some num
noncomputable def table_write0_l1 (l_ : (List Int)) (b : (List UInt8)) (most : Int) (e_ : Int) (t : Nat) : Option (Sum ((List UInt8) × Int × Int × Nat) ((List UInt8) × Int × Int)) :=
  cond (decide ((t : Int) < (l_.length : Int)))
  (Option.bind (l_[t]?) fun x_ =>
  Option.bind (table_EncodeIds_1 ({ f_b := b, f_most := most, f_e := e_ } : TFieldWriter) x_) fun encode =>
  some (.inl (encode.f_b, encode.f_most, encode.f_e, (t + 1))))
  (some (.inr (b, most, e_)))
noncomputable def table_write0 (l_ : (List Int)) : Option (List UInt8) :=
  Option.bind
  (loopO (fun s => table_write0_l1 l_ s.1 s.2.1 s.2.2.1 s.2.2.2) ((field_NewWriter 16777216).f_b, (field_NewWriter 16777216).f_most, (field_NewWriter 16777216).f_e, 0)) fun (b, most, e_) =>
  Option.bind (field_Writer_Done ({ f_b := b, f_most := most, f_e := e_ } : TFieldWriter)) fun done =>
  some done.1
noncomputable def table_EncodeIds_l1 (l_ : (List Int)) (last : Int) (t : Nat) : Option (Sum (Int × Nat) (Sum Unit ((List UInt8) × Int))) :=
  cond (decide ((t : Int) < (l_.length : Int)))
  (Option.bind (l_[t]?) fun x_ =>
  cond (decide (x_ ≤ last))
  (some (.inr (.inr ([], 1))))
  (cond (decide (x_ > 4294967295))
  (some (.inr (.inr ([], 1))))
  (some (.inl (x_, (t + 1))))))
  (some (.inr (.inl ())))
noncomputable def table_EncodeIds (l_ : (List Int)) : Option ((List UInt8) × Int) :=
  cond (decide ((l_.length : Int) > 65536))
  (some ([], 1))
  (bnd
  (loopO (fun s => table_EncodeIds_l1 l_ s.1 s.2) ((-1), 0)) fun _ =>
  Option.bind (table_write0 l_) fun writei =>
  some (writei, 0))
noncomputable def ref17_RightIds_l1 (l_ : (List Int)) (i : Nat) : Option (Sum Nat (Sum Unit Bool)) :=
  cond (decide ((i : Int) < (l_.length : Int)))
  (Option.bind (l_[i]?) fun x_ =>
  cond (decide (x_ < 0))
  (some (.inr (.inr false)))
  (cond (decide (x_ > 4294967295))
  (some (.inr (.inr false)))
  (cond (decide ((i : Int) > 0))
  (Option.bind (idx l_ ((i : Int) - 1)) fun x_1 =>
  cond (decide (x_ ≤ x_1))
  (some (.inr (.inr false)))
  (some (.inl (i + 1))))
  (some (.inl (i + 1))))))
  (some (.inr (.inl ())))
noncomputable def ref17_RightIds (l_ : (List Int)) : Option Bool :=
  bnd
  (loopO (fun s => ref17_RightIds_l1 l_ s) 0) fun _ =>
  some (decide ((l_.length : Int) ≤ 65536))
noncomputable def field_NewReader (b : (List UInt8)) : Option TFieldReader :=
  Option.bind (field_copied b) fun copied =>
  some ({ f_b := copied, f_at := 0, f_e := 0 } : TFieldReader)
noncomputable def field_Reader_Left (r_ : TFieldReader) : Option Int :=
  some (IntKind.i64.wrap ((r_.f_b.length : Int) - r_.f_at))
def field_within (b : (List UInt8)) (at_ : Int) (n_ : Int) : Bool :=
  cond (decide (at_ ≥ 0))
  (cond (decide (n_ ≥ 0))
  (cond (decide (n_ ≤ (b.length : Int)))
  ((decide (at_ ≤ ((b.length : Int) - n_))))
  (false))
  (false))
  (false)
noncomputable def field_Reader_take (r_ : TFieldReader) (n_ : Int) : Option ((List UInt8) × TFieldReader) :=
  cond (r_.f_e != 0)
  (some ([], r_))
  (cond (decide (n_ < 0))
  (some ([], ({ f_b := r_.f_b, f_at := r_.f_at, f_e := 1 } : TFieldReader)))
  (cond (field_within r_.f_b r_.f_at n_)
  (Option.bind (slc r_.f_b (IntKind.i64.wrap ((IntKind.i64.wrap (r_.f_at + n_)) - n_)) (IntKind.i64.wrap (r_.f_at + n_))) fun y_ =>
  some (y_, ({ f_b := r_.f_b, f_at := (IntKind.i64.wrap (r_.f_at + n_)), f_e := r_.f_e } : TFieldReader)))
  (some ([], ({ f_b := r_.f_b, f_at := r_.f_at, f_e := 6 } : TFieldReader)))))
noncomputable def field_load_l1 (b : (List UInt8)) (n_ : UInt64) (t : Nat) : Option (Sum (UInt64 × Nat) UInt64) :=
  cond (decide ((t : Int) < (b.length : Int)))
  (Option.bind (b[t]?) fun x_ =>
  Option.bind (chk (decide (0 ≤ (IntKind.i64.wrap (8 * (t : Int)))))) fun _ =>
  some (.inl ((n_ ||| (shl64 x_.toUInt64 (IntKind.i64.wrap (8 * (t : Int))))), (t + 1))))
  (some (.inr n_))
noncomputable def field_load (b : (List UInt8)) : Option UInt64 :=
  Option.bind
  (loopO (fun s => field_load_l1 b s.1 s.2) ((0 : UInt64), 0)) fun n_ =>
  some n_
noncomputable def field_Reader_Num (r_ : TFieldReader) (width : Int) : Option (UInt64 × TFieldReader) :=
  cond (field_wide width)
  (Option.bind (field_Reader_take r_ width) fun take =>
  Option.bind (field_load take.1) fun load =>
  some (load, take.2))
  (Option.bind (field_Reader_take r_ (-1)) fun take1 =>
  Option.bind (field_load take1.1) fun load1 =>
  some (load1, take1.2))
noncomputable def table_DecodeIds_1 (r_ : TFieldReader) : Option (Int × TFieldReader) :=
  Option.bind (field_Reader_Num r_ 4) fun num =>
  some ((IntKind.i64.wrap (num.1.toNat : Int)), num.2)
noncomputable def table_read0_l1 (b1 : (List UInt8)) (at_ : Int) (e_ : Int) (out : (List Int)) : Option (Sum ((List UInt8) × Int × Int × (List Int)) (List Int)) :=
  Option.bind (field_Reader_Left ({ f_b := b1, f_at := at_, f_e := e_ } : TFieldReader)) fun left =>
  cond (decide (left > 0))
  (Option.bind (table_DecodeIds_1 ({ f_b := b1, f_at := at_, f_e := e_ } : TFieldReader)) fun decode =>
  Option.bind (app out [decode.1]) fun b2 =>
  some (.inl (decode.2.f_b, decode.2.f_at, decode.2.f_e, b2)))
  (some (.inr out))
noncomputable def table_read0 (b : (List UInt8)) (size : Int) : Option ((List Int) × Bool) :=
  Option.bind (chk (decide (size ≠ 0))) fun _ =>
  cond ((Int.tmod (b.length : Int) size) != 0)
  (some ([], false))
  (Option.bind (chk (decide (size ≠ 0))) fun _ =>
  cond (decide ((IntKind.i64.wrap (Int.tdiv (b.length : Int) size)) > 65536))
  (some ([], false))
  (Option.bind (field_NewReader b) fun newRea =>
  Option.bind
  (loopO (fun s => table_read0_l1 s.1 s.2.1 s.2.2.1 s.2.2.2) (newRea.f_b, newRea.f_at, newRea.f_e, [])) fun out =>
  some (out, true)))
noncomputable def table_DecodeIds (b : (List UInt8)) : Option ((List Int) × Int) :=
  Option.bind (table_read0 b 4) fun readin =>
  Option.bind (table_EncodeIds readin.1) fun encode =>
  cond readin.2
  (cond (encode.2 != 0)
  (some ([], 6))
  (some (readin.1, 0)))
  (some ([], 6))
noncomputable def ref01_Store_l1 (w_ : Int) (n_1 : UInt64) (b : (List UInt8)) (i : Int) : Option (Sum (UInt64 × (List UInt8) × Int) (List UInt8)) :=
  cond (decide (i < w_))
  (Option.bind (app b [(n_1 % (256 : UInt64)).toUInt8]) fun b1 =>
  some (.inl ((n_1 / (256 : UInt64)), b1, (IntKind.i64.wrap (i + 1)))))
  (some (.inr b))
noncomputable def ref01_Store (n_ : UInt64) (w_ : Int) : Option (List UInt8) :=
  Option.bind
  (loopO (fun s => ref01_Store_l1 w_ s.1 s.2.1 s.2.2) (n_, [], 0)) fun b =>
  some b
noncomputable def ref17_IdBytes_l1 (l_ : (List Int)) (b : (List UInt8)) (i : Nat) : Option (Sum ((List UInt8) × Nat) (List UInt8)) :=
  cond (decide ((i : Int) < (l_.length : Int)))
  (Option.bind (l_[i]?) fun x_ =>
  Option.bind (ref01_Store (UInt64.ofInt x_) 4) fun store =>
  Option.bind (app b store) fun b1 =>
  some (.inl (b1, (i + 1))))
  (some (.inr b))
noncomputable def ref17_IdBytes (l_ : (List Int)) : Option (List UInt8) :=
  Option.bind
  (loopO (fun s => ref17_IdBytes_l1 l_ s.1 s.2) ([], 0)) fun b =>
  some b
noncomputable def ref01_Load_l1 (b : (List UInt8)) (at_ : Int) (n_ : UInt64) (i : Int) : Option (Sum (UInt64 × Int) UInt64) :=
  cond (decide (i ≥ 0))
  (Option.bind (idx b (IntKind.i64.wrap (at_ + i))) fun x_ =>
  some (.inl (((n_ * (256 : UInt64)) + x_.toUInt64), (IntKind.i64.wrap (i - 1)))))
  (some (.inr n_))
noncomputable def ref01_Load (b : (List UInt8)) (at_ : Int) (w_ : Int) : Option UInt64 :=
  Option.bind
  (loopO (fun s => ref01_Load_l1 b at_ s.1 s.2) ((0 : UInt64), (IntKind.i64.wrap (w_ - 1)))) fun n_ =>
  some n_
noncomputable def ref17_DecodeIds_l1 (b : (List UInt8)) (l_ : (List Int)) (i : Int) : Option (Sum ((List Int) × Int) (List Int)) :=
  cond (decide ((IntKind.i64.wrap (i + 4)) ≤ (b.length : Int)))
  (Option.bind (ref01_Load b i 4) fun load =>
  Option.bind (app l_ [(IntKind.i64.wrap (load.toNat : Int))]) fun b1 =>
  some (.inl (b1, (IntKind.i64.wrap (i + 4)))))
  (some (.inr l_))
noncomputable def ref17_DecodeIds (b : (List UInt8)) : Option ((List Int) × Int) :=
  Option.bind
  (loopO (fun s => ref17_DecodeIds_l1 b s.1 s.2) ([], 0)) fun l_ =>
  cond ((Int.tmod (b.length : Int) 4) != 0)
  (some ([], 6))
  (Option.bind (ref17_RightIds l_) fun rightI =>
  cond rightI
  (some (l_, 0))
  (some ([], 6)))
noncomputable def law17_TableIdBytes (l_ : (List Int)) (b : (List UInt8)) : Option Bool :=
  cond (decide ((l_.length : Int) > 1000))
  (cond (decide ((l_.length : Int) ≤ 65536))
  (Option.bind law17_live fun live =>
  some live)
  (cond (decide ((b.length : Int) > 3000))
  (Option.bind law17_live fun live1 =>
  some live1)
  (Option.bind (table_EncodeIds l_) fun encode =>
  Option.bind (ref17_RightIds l_) fun rightI =>
  bnd
  (cond rightI
  (Option.bind (table_DecodeIds encode.1) fun decode =>
  cond ((IntKind.i64.wrap ((law17_num encode.2) + (law17_num decode.2))) != 0)
  (some (.inr false))
  (Option.bind (ref17_IdBytes l_) fun idByte =>
  cond (encode.1 != idByte)
  (some (.inr false))
  (Option.bind (ref17_SameInts decode.1 l_) fun sameIn =>
  cond sameIn
  (some (.inl ()))
  (some (.inr false)))))
  (cond ((law17_num encode.2) != 1)
  (some (.inr false))
  (cond ((encode.1.length : Int) != 0)
  (some (.inr false))
  (some (.inl ()))))) fun _ =>
  Option.bind (table_DecodeIds b) fun decode1 =>
  Option.bind (ref17_DecodeIds b) fun decode2 =>
  Option.bind (ref17_SameInts decode1.1 decode2.1) fun sameIn1 =>
  cond sameIn1
  (cond ((law17_num decode1.2) == decode2.2)
  (Option.bind law17_live fun live2 =>
  some live2)
  (some false))
  (some false))))
  (cond (decide ((b.length : Int) > 3000))
  (Option.bind law17_live fun live3 =>
  some live3)
  (Option.bind (table_EncodeIds l_) fun encode1 =>
  Option.bind (ref17_RightIds l_) fun rightI1 =>
  bnd
  (cond rightI1
  (Option.bind (table_DecodeIds encode1.1) fun decode3 =>
  cond ((IntKind.i64.wrap ((law17_num encode1.2) + (law17_num decode3.2))) != 0)
  (some (.inr false))
  (Option.bind (ref17_IdBytes l_) fun idByte1 =>
  cond (encode1.1 != idByte1)
  (some (.inr false))
  (Option.bind (ref17_SameInts decode3.1 l_) fun sameIn2 =>
  cond sameIn2
  (some (.inl ()))
  (some (.inr false)))))
  (cond ((law17_num encode1.2) != 1)
  (some (.inr false))
  (cond ((encode1.1.length : Int) != 0)
  (some (.inr false))
  (some (.inl ()))))) fun _ =>
  Option.bind (table_DecodeIds b) fun decode4 =>
  Option.bind (ref17_DecodeIds b) fun decode5 =>
  Option.bind (ref17_SameInts decode4.1 decode5.1) fun sameIn3 =>
  cond sameIn3
  (cond ((law17_num decode4.2) == decode5.2)
  (Option.bind law17_live fun live4 =>
  some live4)
  (some false))
  (some false)))
noncomputable def ref17_RightAttrs_l2 (x_ : TApiAttr) (k : Nat) : Option (Sum Nat (Sum Unit (Sum Nat (Sum Unit Bool)))) :=
  cond (decide ((k : Int) < (x_.Name.length : Int)))
  (Option.bind (idx x_.Name (k : Int)) fun c =>
  cond ((c.toNat : Int) == 0)
  (some (.inr (.inr (.inr (.inr false)))))
  (some (.inl (k + 1))))
  (some (.inr (.inl ())))
noncomputable def ref17_RightAttrs_l3 (x_ : TApiAttr) (k1 : Nat) : Option (Sum Nat (Sum Unit (Sum Nat (Sum Unit Bool)))) :=
  cond (decide ((k1 : Int) < (x_.Name.length : Int)))
  (Option.bind (idx x_.Name (k1 : Int)) fun c1 =>
  cond ((c1.toNat : Int) == 0)
  (some (.inr (.inr (.inr (.inr false)))))
  (some (.inl (k1 + 1))))
  (some (.inr (.inl ())))
noncomputable def ref17_RightAttrs_l1 (l_ : (List TApiAttr)) (i : Nat) : Option (Sum Nat (Sum Unit Bool)) :=
  cond (decide ((i : Int) < (l_.length : Int)))
  (Option.bind (l_[i]?) fun x_ =>
  cond (decide ((x_.Name.length : Int) < 1))
  (some (.inr (.inr false)))
  (cond (decide ((x_.Name.length : Int) > 255))
  (some (.inr (.inr false)))
  (cond (decide ((x_.Value.length : Int) > 4096))
  (some (.inr (.inr false)))
  (cond (decide ((i : Int) > 0))
  (Option.bind (idx l_ ((i : Int) - 1)) fun x_1 =>
  cond (leB x_.Name x_1.Name)
  (some (.inr (.inr false)))
  (bnd
  (loopO (fun s => ref17_RightAttrs_l2 x_ s) 0) fun _ =>
  some (.inl (i + 1))))
  (bnd
  (loopO (fun s => ref17_RightAttrs_l3 x_ s) 0) fun _ =>
  some (.inl (i + 1)))))))
  (some (.inr (.inl ())))
noncomputable def ref17_RightAttrs (l_ : (List TApiAttr)) : Option Bool :=
  cond (decide ((l_.length : Int) < 1))
  (some false)
  (cond (decide ((l_.length : Int) > 64))
  (some false)
  (bnd
  (loopO (fun s => ref17_RightAttrs_l1 l_ s) 0) fun _ =>
  some true))
noncomputable def ref17_AttrBytes_l1 (l_ : (List TApiAttr)) (b : (List UInt8)) (i : Nat) : Option (Sum ((List UInt8) × Nat) (List UInt8)) :=
  cond (decide ((i : Int) < (l_.length : Int)))
  (Option.bind (l_[i]?) fun x_ =>
  Option.bind (app b [(UInt8.ofInt (x_.Name.length : Int))]) fun b1 =>
  Option.bind (app b1 x_.Name) fun b2 =>
  Option.bind (ref01_Store (UInt64.ofInt (x_.Value.length : Int)) 2) fun store1 =>
  Option.bind (app b2 store1) fun b3 =>
  Option.bind (app b3 x_.Value) fun b4 =>
  some (.inl (b4, (i + 1))))
  (some (.inr b))
noncomputable def ref17_AttrBytes (l_ : (List TApiAttr)) : Option (List UInt8) :=
  Option.bind (ref01_Store (UInt64.ofInt (l_.length : Int)) 2) fun store =>
  Option.bind
  (loopO (fun s => ref17_AttrBytes_l1 l_ s.1 s.2) (store, 0)) fun b =>
  some b
noncomputable def field_Reader_Bytes (r_ : TFieldReader) (n_ : Int) : Option ((List UInt8) × TFieldReader) :=
  Option.bind (field_Reader_take r_ n_) fun take =>
  Option.bind (field_copied take.1) fun copied =>
  some (copied, take.2)
noncomputable def field_Reader_Text (r_ : TFieldReader) (most : Int) : Option ((List UInt8) × TFieldReader) :=
  cond (r_.f_e != 0)
  (some ([], r_))
  (cond (decide (most < 0))
  (some ([], ({ f_b := r_.f_b, f_at := r_.f_at, f_e := 1 } : TFieldReader)))
  (Option.bind (field_Reader_take r_ 2) fun take =>
  Option.bind (field_load take.1) fun load =>
  lt_
  (cond (take.2.f_e == 0)
  ((decide ((IntKind.i64.wrap (load.toNat : Int)) > most)))
  (false)) fun t =>
  cond t
  (Option.bind (field_Reader_take ({ f_b := take.2.f_b, f_at := take.2.f_at, f_e := 2 } : TFieldReader) (IntKind.i64.wrap (load.toNat : Int))) fun take1 =>
  cond (take1.2.f_e != 0)
  (some ([], ({ f_b := take1.2.f_b, f_at := r_.f_at, f_e := take1.2.f_e } : TFieldReader)))
  (Option.bind (field_copied take1.1) fun copied =>
  some (copied, take1.2)))
  (Option.bind (field_Reader_take take.2 (IntKind.i64.wrap (load.toNat : Int))) fun take2 =>
  cond (take2.2.f_e != 0)
  (some ([], ({ f_b := take2.2.f_b, f_at := r_.f_at, f_e := take2.2.f_e } : TFieldReader)))
  (Option.bind (field_copied take2.1) fun copied1 =>
  some (copied1, take2.2)))))
noncomputable def field_Reader_Err (r_ : TFieldReader) : Option (Int × Int) :=
  some (r_.f_at, r_.f_e)
noncomputable def table_DecodeAttrs_l1 (num : (UInt64 × TFieldReader)) (l_ : (List TApiAttr)) (b1 : (List UInt8)) (at_1 : Int) (e_ : Int) (t : UInt64) : Option (Sum ((List TApiAttr) × (List UInt8) × Int × Int × UInt64) ((List TApiAttr) × (List UInt8) × Int × Int)) :=
  cond (decide ((t.toNat : Int) < (num.1.toNat : Int)))
  (Option.bind (field_Reader_Num ({ f_b := b1, f_at := at_1, f_e := e_ } : TFieldReader) 1) fun num1 =>
  Option.bind (field_Reader_Bytes num1.2 (IntKind.i64.wrap (num1.1.toNat : Int))) fun bytes =>
  Option.bind (field_Reader_Text bytes.2 4096) fun text =>
  Option.bind (app l_ [({ Name := bytes.1, Value := text.1 } : TApiAttr)]) fun b2 =>
  some (.inl (b2, text.2.f_b, text.2.f_at, text.2.f_e, (t + (1 : UInt64)))))
  (some (.inr (l_, b1, at_1, e_)))
noncomputable def table_DecodeAttrs (b : (List UInt8)) (at_ : Int) : Option ((List TApiAttr) × Int × Int) :=
  cond (decide (at_ < 0))
  (some ([], 0, 9))
  (cond (decide (at_ > (b.length : Int)))
  (some ([], 0, 9))
  (Option.bind (slc b at_ (b.length : Int)) fun y_ =>
  Option.bind (field_NewReader y_) fun newRea =>
  Option.bind (field_Reader_Num newRea 2) fun num =>
  cond (decide ((num.1.toNat : Int) > 64))
  (some ([], 0, 6))
  (Option.bind
  (loopO (fun s => table_DecodeAttrs_l1 num s.1 s.2.1 s.2.2.1 s.2.2.2.1 s.2.2.2.2) ([], num.2.f_b, num.2.f_at, num.2.f_e, (0 : UInt64))) fun (l_, b1, at_1, e_) =>
  Option.bind (field_Reader_Err ({ f_b := b1, f_at := at_1, f_e := e_ } : TFieldReader)) fun err =>
  cond (err.2 != 0)
  (some ([], 0, 6))
  (Option.bind (table_right l_) fun right =>
  cond right
  (some (l_, (IntKind.i64.wrap (at_ + err.1)), 0))
  (some ([], 0, 6))))))
noncomputable def ref11_SameAttrs_l1 (a : (List TApiAttr)) (b : (List TApiAttr)) (i : Nat) : Option (Sum Nat (Sum Unit Bool)) :=
  cond (decide ((i : Int) < (a.length : Int)))
  (Option.bind (a[i]?) fun x_ =>
  Option.bind (b[i]?) fun x_1 =>
  cond (x_.Name != x_1.Name)
  (some (.inr (.inr false)))
  (cond (x_.Value != x_1.Value)
  (some (.inr (.inr false)))
  (some (.inl (i + 1)))))
  (some (.inr (.inl ())))
noncomputable def ref11_SameAttrs (a : (List TApiAttr)) (b : (List TApiAttr)) : Option Bool :=
  cond ((a.length : Int) != (b.length : Int))
  (some false)
  (bnd
  (loopO (fun s => ref11_SameAttrs_l1 a b s) 0) fun _ =>
  some true)
noncomputable def law17_TableAttrs_l1 (l_ : (List TApiAttr)) (i : Nat) : Option (Sum Nat (Sum Unit Bool)) :=
  cond (decide ((i : Int) < (l_.length : Int)))
  (Option.bind (l_[i]?) fun x_ =>
  cond (decide ((x_.Name.length : Int) > 300))
  (Option.bind law17_live fun live3 =>
  some (.inr (.inr live3)))
  (cond (decide ((x_.Value.length : Int) > 5000))
  (Option.bind law17_live fun live4 =>
  some (.inr (.inr live4)))
  (some (.inl (i + 1)))))
  (some (.inr (.inl ())))
noncomputable def law17_TableAttrs (l_ : (List TApiAttr)) (a : (List UInt8)) (b : (List UInt8)) : Option Bool :=
  cond (decide ((l_.length : Int) > 70))
  (Option.bind law17_live fun live =>
  some live)
  (cond (decide ((a.length : Int) > 300))
  (Option.bind law17_live fun live1 =>
  some live1)
  (cond (decide ((b.length : Int) > 300))
  (Option.bind law17_live fun live2 =>
  some live2)
  (bnd
  (loopO (fun s => law17_TableAttrs_l1 l_ s) 0) fun _ =>
  Option.bind (table_EncodeAttrs l_) fun encode =>
  Option.bind (ref17_RightAttrs l_) fun rightA =>
  cond rightA
  (cond ((law17_num encode.2) != 0)
  (some false)
  (Option.bind (ref17_AttrBytes l_) fun attrBy =>
  cond (encode.1 != attrBy)
  (some false)
  (Option.bind (app ([] : List UInt8) a) fun b1 =>
  Option.bind (app b1 encode.1) fun b2 =>
  Option.bind (app b2 b) fun b3 =>
  Option.bind (table_DecodeAttrs b3 (a.length : Int)) fun decode =>
  cond ((law17_num decode.2.2) == 0)
  (cond (decode.2.1 == (IntKind.i64.wrap ((a.length : Int) + (encode.1.length : Int))))
  (Option.bind (ref11_SameAttrs l_ decode.1) fun sameAt =>
  cond sameAt
  (Option.bind law17_live fun live5 =>
  some live5)
  (some false))
  (some false))
  (some false))))
  (cond ((law17_num encode.2) == 1)
  (cond ((encode.1.length : Int) == 0)
  (Option.bind law17_live fun live6 =>
  some live6)
  (some false))
  (some false)))))
noncomputable def ref17_DecodeAttrs_l1 (b : (List UInt8)) (load : UInt64) (at_1 : Int) (l_ : (List TApiAttr)) (i : Int) : Option (Sum (Int × (List TApiAttr) × Int) (Sum (Int × (List TApiAttr)) ((List TApiAttr) × Int × Int))) :=
  cond (decide (i < (IntKind.i64.wrap (load.toNat : Int))))
  (cond (decide (at_1 ≥ (b.length : Int)))
  (some (.inr (.inr ([], 0, 6))))
  (Option.bind (idx b at_1) fun x_ =>
  cond (decide ((IntKind.i64.wrap ((IntKind.i64.wrap ((IntKind.i64.wrap (at_1 + 1)) + (x_.toNat : Int))) + 2)) > (b.length : Int)))
  (some (.inr (.inr ([], 0, 6))))
  (Option.bind (slc b (IntKind.i64.wrap (at_1 + 1)) (IntKind.i64.wrap ((IntKind.i64.wrap (at_1 + 1)) + (x_.toNat : Int)))) fun y_ =>
  Option.bind (ref01_Load b (IntKind.i64.wrap ((IntKind.i64.wrap (at_1 + 1)) + (y_.length : Int))) 2) fun load1 =>
  cond (decide ((IntKind.i64.wrap ((IntKind.i64.wrap ((IntKind.i64.wrap ((IntKind.i64.wrap (at_1 + 1)) + (y_.length : Int))) + 2)) + (IntKind.i64.wrap (load1.toNat : Int)))) > (b.length : Int)))
  (some (.inr (.inr ([], 0, 6))))
  (Option.bind (slc b (IntKind.i64.wrap ((IntKind.i64.wrap ((IntKind.i64.wrap (at_1 + 1)) + (y_.length : Int))) + 2)) (IntKind.i64.wrap ((IntKind.i64.wrap ((IntKind.i64.wrap ((IntKind.i64.wrap (at_1 + 1)) + (y_.length : Int))) + 2)) + (IntKind.i64.wrap (load1.toNat : Int))))) fun y_1 =>
  Option.bind (app l_ [({ Name := y_, Value := y_1 } : TApiAttr)]) fun b1 =>
  some (.inl ((IntKind.i64.wrap ((IntKind.i64.wrap ((IntKind.i64.wrap ((IntKind.i64.wrap (at_1 + 1)) + (y_.length : Int))) + 2)) + (IntKind.i64.wrap (load1.toNat : Int)))), b1, (IntKind.i64.wrap (i + 1))))))))
  (some (.inr (.inl (at_1, l_))))
noncomputable def ref17_DecodeAttrs (b : (List UInt8)) (at_ : Int) : Option ((List TApiAttr) × Int × Int) :=
  cond (decide (at_ < 0))
  (some ([], 0, 9))
  (cond (decide (at_ > (b.length : Int)))
  (some ([], 0, 9))
  (cond (decide ((IntKind.i64.wrap (at_ + 2)) > (b.length : Int)))
  (some ([], 0, 6))
  (Option.bind (ref01_Load b at_ 2) fun load =>
  bnd
  (loopO (fun s => ref17_DecodeAttrs_l1 b load s.1 s.2.1 s.2.2) ((IntKind.i64.wrap (at_ + 2)), [], 0)) fun (at_1, l_) =>
  Option.bind (ref17_RightAttrs l_) fun rightA =>
  cond rightA
  (some (l_, at_1, 0))
  (some ([], 0, 6)))))
noncomputable def law17_TableSets (b : (List UInt8)) (at_ : Int) : Option Bool :=
  cond (decide ((b.length : Int) > 6000))
  (Option.bind law17_live fun live =>
  some live)
  (Option.bind (table_DecodeAttrs b at_) fun decode =>
  Option.bind (ref17_DecodeAttrs b at_) fun decode1 =>
  Option.bind (ref11_SameAttrs decode.1 decode1.1) fun sameAt =>
  cond sameAt
  (cond (decode.2.1 == decode1.2.1)
  (cond ((law17_num decode.2.2) == decode1.2.2)
  (Option.bind law17_live fun live1 =>
  some live1)
  (some false))
  (some false))
  (some false))
def table_EncodeFrags_1 (f_ : TApiFrag) : Bool :=
  cond (table_between f_.At 0 8388608)
  (cond (table_between f_.Word 1 4294967295)
  ((!(table_between f_.Plain 1 1048576)))
  (true))
  (true)
noncomputable def slices_IndexFunc_l1 (s_ : (List TApiFrag)) (t : Nat) : Option (Sum Nat (Sum Unit Int)) :=
  cond (decide ((t : Int) < (s_.length : Int)))
  (Option.bind (s_[t]?) fun x_ =>
  cond (table_EncodeFrags_1 x_)
  (some (.inr (.inr (t : Int))))
  (some (.inl (t + 1))))
  (some (.inr (.inl ())))
noncomputable def slices_IndexFunc (s_ : (List TApiFrag)) : Option Int :=
  bnd
  (loopO (fun s => slices_IndexFunc_l1 s_ s) 0) fun _ =>
  some (-1)
noncomputable def slices_ContainsFunc (s_ : (List TApiFrag)) : Option Bool :=
  Option.bind (slices_IndexFunc s_) fun frag =>
  some (decide (frag ≥ 0))
noncomputable def table_EncodeFrags_2 (w_ : TFieldWriter) (f_ : TApiFrag) : Option TFieldWriter :=
  Option.bind (field_Writer_Num w_ (UInt64.ofInt f_.At) 4) fun num =>
  Option.bind (field_Writer_Num num (UInt64.ofInt f_.Word) 4) fun num1 =>
  Option.bind (field_Writer_Num num1 (UInt64.ofInt f_.Plain) 4) fun num2 =>
  some num2
noncomputable def table_write2_l1 (l_ : (List TApiFrag)) (b : (List UInt8)) (most : Int) (e_ : Int) (t : Nat) : Option (Sum ((List UInt8) × Int × Int × Nat) ((List UInt8) × Int × Int)) :=
  cond (decide ((t : Int) < (l_.length : Int)))
  (Option.bind (l_[t]?) fun x_ =>
  Option.bind (table_EncodeFrags_2 ({ f_b := b, f_most := most, f_e := e_ } : TFieldWriter) x_) fun encode =>
  some (.inl (encode.f_b, encode.f_most, encode.f_e, (t + 1))))
  (some (.inr (b, most, e_)))
noncomputable def table_write2 (l_ : (List TApiFrag)) : Option (List UInt8) :=
  Option.bind
  (loopO (fun s => table_write2_l1 l_ s.1 s.2.1 s.2.2.1 s.2.2.2) ((field_NewWriter 16777216).f_b, (field_NewWriter 16777216).f_most, (field_NewWriter 16777216).f_e, 0)) fun (b, most, e_) =>
  Option.bind (field_Writer_Done ({ f_b := b, f_most := most, f_e := e_ } : TFieldWriter)) fun done =>
  some done.1
noncomputable def table_EncodeFrags (l_ : (List TApiFrag)) : Option ((List UInt8) × Int) :=
  cond (decide ((l_.length : Int) > 65536))
  (some ([], 1))
  (Option.bind (slices_ContainsFunc l_) fun frag =>
  cond frag
  (some ([], 1))
  (Option.bind (table_write2 l_) fun frag1 =>
  some (frag1, 0)))
noncomputable def ref17_RightFrags_l1 (l_ : (List TApiFrag)) (i : Nat) : Option (Sum Nat (Sum Unit Bool)) :=
  cond (decide ((i : Int) < (l_.length : Int)))
  (Option.bind (l_[i]?) fun x_ =>
  cond (decide (x_.At < 0))
  (some (.inr (.inr false)))
  (cond (decide (x_.At > 8388608))
  (some (.inr (.inr false)))
  (cond (decide (x_.Word < 1))
  (some (.inr (.inr false)))
  (cond (decide (x_.Word > 4294967295))
  (some (.inr (.inr false)))
  (cond (decide (x_.Plain < 1))
  (some (.inr (.inr false)))
  (cond (decide (x_.Plain > 1048576))
  (some (.inr (.inr false)))
  (some (.inl (i + 1)))))))))
  (some (.inr (.inl ())))
noncomputable def ref17_RightFrags (l_ : (List TApiFrag)) : Option Bool :=
  bnd
  (loopO (fun s => ref17_RightFrags_l1 l_ s) 0) fun _ =>
  some (decide ((l_.length : Int) ≤ 65536))
noncomputable def table_DecodeFrags_1 (r_ : TFieldReader) : Option (TApiFrag × TFieldReader) :=
  Option.bind (field_Reader_Num r_ 4) fun num =>
  Option.bind (field_Reader_Num num.2 4) fun num1 =>
  Option.bind (field_Reader_Num num1.2 4) fun num2 =>
  some (({ At := (IntKind.i64.wrap (num.1.toNat : Int)), Word := (IntKind.i64.wrap (num1.1.toNat : Int)), Plain := (IntKind.i64.wrap (num2.1.toNat : Int)) } : TApiFrag), num2.2)
noncomputable def table_read1_l1 (b1 : (List UInt8)) (at_ : Int) (e_ : Int) (out : (List TApiFrag)) : Option (Sum ((List UInt8) × Int × Int × (List TApiFrag)) (List TApiFrag)) :=
  Option.bind (field_Reader_Left ({ f_b := b1, f_at := at_, f_e := e_ } : TFieldReader)) fun left =>
  cond (decide (left > 0))
  (Option.bind (table_DecodeFrags_1 ({ f_b := b1, f_at := at_, f_e := e_ } : TFieldReader)) fun decode =>
  Option.bind (app out [decode.1]) fun b2 =>
  some (.inl (decode.2.f_b, decode.2.f_at, decode.2.f_e, b2)))
  (some (.inr out))
noncomputable def table_read1 (b : (List UInt8)) (size : Int) : Option ((List TApiFrag) × Bool) :=
  Option.bind (chk (decide (size ≠ 0))) fun _ =>
  cond ((Int.tmod (b.length : Int) size) != 0)
  (some ([], false))
  (Option.bind (chk (decide (size ≠ 0))) fun _ =>
  cond (decide ((IntKind.i64.wrap (Int.tdiv (b.length : Int) size)) > 65536))
  (some ([], false))
  (Option.bind (field_NewReader b) fun newRea =>
  Option.bind
  (loopO (fun s => table_read1_l1 s.1 s.2.1 s.2.2.1 s.2.2.2) (newRea.f_b, newRea.f_at, newRea.f_e, [])) fun out =>
  some (out, true)))
def bytes_Equal (a : (List UInt8)) (b : (List UInt8)) : Bool :=
  (a == b)
noncomputable def table_DecodeFrags (b : (List UInt8)) : Option ((List TApiFrag) × Int) :=
  Option.bind (table_read1 b 12) fun frag =>
  Option.bind (table_EncodeFrags frag.1) fun encode =>
  cond frag.2
  (cond (encode.2 != 0)
  (some ([], 6))
  (cond (bytes_Equal encode.1 b)
  (some (frag.1, 0))
  (some ([], 6))))
  (some ([], 6))
noncomputable def ref17_FragBytes_l1 (l_ : (List TApiFrag)) (b : (List UInt8)) (i : Nat) : Option (Sum ((List UInt8) × Nat) (List UInt8)) :=
  cond (decide ((i : Int) < (l_.length : Int)))
  (Option.bind (l_[i]?) fun x_ =>
  Option.bind (ref01_Store (UInt64.ofInt x_.At) 4) fun store =>
  Option.bind (app b store) fun b1 =>
  Option.bind (ref01_Store (UInt64.ofInt x_.Word) 4) fun store1 =>
  Option.bind (app b1 store1) fun b2 =>
  Option.bind (ref01_Store (UInt64.ofInt x_.Plain) 4) fun store2 =>
  Option.bind (app b2 store2) fun b3 =>
  some (.inl (b3, (i + 1))))
  (some (.inr b))
noncomputable def ref17_FragBytes (l_ : (List TApiFrag)) : Option (List UInt8) :=
  Option.bind
  (loopO (fun s => ref17_FragBytes_l1 l_ s.1 s.2) ([], 0)) fun b =>
  some b
noncomputable def ref17_SameFrags_l1 (a : (List TApiFrag)) (b : (List TApiFrag)) (i : Nat) : Option (Sum Nat (Sum Unit Bool)) :=
  cond (decide ((i : Int) < (a.length : Int)))
  (Option.bind (a[i]?) fun x_ =>
  Option.bind (b[i]?) fun x_1 =>
  cond ((x_.At == x_1.At) && ((x_.Word == x_1.Word) && ((x_.Plain == x_1.Plain) && true)))
  (some (.inl (i + 1)))
  (some (.inr (.inr false))))
  (some (.inr (.inl ())))
noncomputable def ref17_SameFrags (a : (List TApiFrag)) (b : (List TApiFrag)) : Option Bool :=
  cond ((a.length : Int) != (b.length : Int))
  (some false)
  (bnd
  (loopO (fun s => ref17_SameFrags_l1 a b s) 0) fun _ =>
  some true)
noncomputable def ref17_DecodeFrags_l1 (b : (List UInt8)) (l_ : (List TApiFrag)) (i : Int) : Option (Sum ((List TApiFrag) × Int) (List TApiFrag)) :=
  cond (decide ((IntKind.i64.wrap (i + 12)) ≤ (b.length : Int)))
  (Option.bind (ref01_Load b i 4) fun load =>
  Option.bind (ref01_Load b (IntKind.i64.wrap (i + 4)) 4) fun load1 =>
  Option.bind (ref01_Load b (IntKind.i64.wrap (i + 8)) 4) fun load2 =>
  Option.bind (app l_ [({ At := (IntKind.i64.wrap (load.toNat : Int)), Word := (IntKind.i64.wrap (load1.toNat : Int)), Plain := (IntKind.i64.wrap (load2.toNat : Int)) } : TApiFrag)]) fun b1 =>
  some (.inl (b1, (IntKind.i64.wrap (i + 12)))))
  (some (.inr l_))
noncomputable def ref17_DecodeFrags (b : (List UInt8)) : Option ((List TApiFrag) × Int) :=
  Option.bind
  (loopO (fun s => ref17_DecodeFrags_l1 b s.1 s.2) ([], 0)) fun l_ =>
  cond ((Int.tmod (b.length : Int) 12) != 0)
  (some ([], 6))
  (Option.bind (ref17_RightFrags l_) fun rightF =>
  cond rightF
  (some (l_, 0))
  (some ([], 6)))
noncomputable def law17_TableFrags (l_ : (List TApiFrag)) (b : (List UInt8)) : Option Bool :=
  cond (decide ((l_.length : Int) > 1000))
  (cond (decide ((l_.length : Int) ≤ 65536))
  (Option.bind law17_live fun live =>
  some live)
  (cond (decide ((b.length : Int) > 3000))
  (Option.bind law17_live fun live1 =>
  some live1)
  (Option.bind (table_EncodeFrags l_) fun encode =>
  Option.bind (ref17_RightFrags l_) fun rightF =>
  bnd
  (cond rightF
  (Option.bind (table_DecodeFrags encode.1) fun decode =>
  cond ((IntKind.i64.wrap ((law17_num encode.2) + (law17_num decode.2))) != 0)
  (some (.inr false))
  (Option.bind (ref17_FragBytes l_) fun fragBy =>
  cond (encode.1 != fragBy)
  (some (.inr false))
  (Option.bind (ref17_SameFrags decode.1 l_) fun sameFr =>
  cond sameFr
  (some (.inl ()))
  (some (.inr false)))))
  (cond ((law17_num encode.2) != 1)
  (some (.inr false))
  (cond ((encode.1.length : Int) != 0)
  (some (.inr false))
  (some (.inl ()))))) fun _ =>
  Option.bind (table_DecodeFrags b) fun decode1 =>
  Option.bind (ref17_DecodeFrags b) fun decode2 =>
  Option.bind (ref17_SameFrags decode1.1 decode2.1) fun sameFr1 =>
  cond sameFr1
  (cond ((law17_num decode1.2) == decode2.2)
  (Option.bind law17_live fun live2 =>
  some live2)
  (some false))
  (some false))))
  (cond (decide ((b.length : Int) > 3000))
  (Option.bind law17_live fun live3 =>
  some live3)
  (Option.bind (table_EncodeFrags l_) fun encode1 =>
  Option.bind (ref17_RightFrags l_) fun rightF1 =>
  bnd
  (cond rightF1
  (Option.bind (table_DecodeFrags encode1.1) fun decode3 =>
  cond ((IntKind.i64.wrap ((law17_num encode1.2) + (law17_num decode3.2))) != 0)
  (some (.inr false))
  (Option.bind (ref17_FragBytes l_) fun fragBy1 =>
  cond (encode1.1 != fragBy1)
  (some (.inr false))
  (Option.bind (ref17_SameFrags decode3.1 l_) fun sameFr2 =>
  cond sameFr2
  (some (.inl ()))
  (some (.inr false)))))
  (cond ((law17_num encode1.2) != 1)
  (some (.inr false))
  (cond ((encode1.1.length : Int) != 0)
  (some (.inr false))
  (some (.inl ()))))) fun _ =>
  Option.bind (table_DecodeFrags b) fun decode4 =>
  Option.bind (ref17_DecodeFrags b) fun decode5 =>
  Option.bind (ref17_SameFrags decode4.1 decode5.1) fun sameFr3 =>
  cond sameFr3
  (cond ((law17_num decode4.2) == decode5.2)
  (Option.bind law17_live fun live4 =>
  some live4)
  (some false))
  (some false)))
end Go.Proofs.Ytgoedcjjckdlpaa.F
