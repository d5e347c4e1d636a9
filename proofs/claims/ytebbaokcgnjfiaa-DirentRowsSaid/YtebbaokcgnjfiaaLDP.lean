/- The functions as Lean functions over numbers and lists: printed by lift.py. -/
import Derived.Test.YtebbaokcgnjfiaaM4
set_option linter.unusedVariables false
set_option linter.unusedSimpArgs false
namespace Go.Proofs.Ytebbaokcgnjfiaa.K
open Go Go.RowKit
structure TApiKid where
  Name : (List UInt8)
  Ino : Int
  deriving DecidableEq
def rApiKid : Rep TApiKid where
  sz := 2
  im m cs x := cs = [.string ⟨x.Name.toArray⟩, .int .i64 x.Ino] ∧ x.Name.length ≤ 9223372036854775807
  wf x := rStr.wf x.Name ∧ rI64.wf x.Ino
  mono hs := fun ⟨h, s0⟩ => ⟨h, s0⟩
  len := fun ⟨h, s0⟩ => by rw [h]; rfl
  one := fun ⟨h, s0⟩ => by rw [h]; intro u hu; simp only [List.mem_cons, List.mem_nil_iff, or_false] at hu; rcases hu with rfl | rfl <;> rfl
structure TFieldReader where
  f_b : (List UInt8)
  f_at : Int
  f_e : Int
  deriving DecidableEq
def rFieldReader : Rep TFieldReader where
  sz := 3
  im m cs x := ∃ A0 c0, cs = [.slice A0 x.f_b.length c0, .int .i64 x.f_at, .int .i64 x.f_e] ∧ SlI rU8 m A0 c0 x.f_b
  wf x := (rSl rU8).wf x.f_b ∧ rI64.wf x.f_at ∧ rI64.wf x.f_e
  mono hs := fun ⟨A0, c0, h, s0⟩ => ⟨A0, c0, h, s0.mono hs⟩
  len := fun ⟨A0, c0, h, s0⟩ => by rw [h]; rfl
  one := fun ⟨A0, c0, h, s0⟩ => by rw [h]; intro u hu; simp only [List.mem_cons, List.mem_nil_iff, or_false] at hu; rcases hu with rfl | rfl | rfl <;> rfl
end Go.Proofs.Ytebbaokcgnjfiaa.K
namespace Go.Proofs.Ytebbaokcgnjfiaa.F
open Go Go.RowKit Go.Proofs.Ytebbaokcgnjfiaa.K
noncomputable def law16_much_l1 (l_ : (List TApiKid)) (i : Nat) : Option (Sum Nat (Sum Unit Bool)) :=
  cond (decide ((i : Int) < (l_.length : Int)))
  (Option.bind (l_[i]?) fun x_ =>
  cond (decide ((x_.Name.length : Int) > 300))
  (some (.inr (.inr true)))
  (some (.inl (i + 1))))
  (some (.inr (.inl ())))
noncomputable def law16_much (l_ : (List TApiKid)) : Option Bool :=
  cond (decide ((l_.length : Int) > 700))
  (some true)
  (bnd
  (loopO (fun s => law16_much_l1 l_ s) 0) fun _ =>
  some false)
def internal_stringslite_IndexByte (s_ : (List UInt8)) (c : UInt8) : Int :=
  (Lib.indexByte s_ c)
def strings_IndexByte (s_ : (List UInt8)) (c : UInt8) : Int :=
  (internal_stringslite_IndexByte s_ c)
def name_Valid (s_ : (List UInt8)) : Bool :=
  cond (s_ != ([] : List UInt8))
  (cond (decide ((s_.length : Int) ≤ 255))
  (cond (s_ != ([46] : List UInt8))
  (cond (s_ != ([46, 46] : List UInt8))
  (cond (decide ((strings_IndexByte s_ (47 : UInt8)) < 0))
  ((decide ((strings_IndexByte s_ (0 : UInt8)) < 0)))
  (false))
  (false))
  (false))
  (false))
  (false)
noncomputable def dirent_Check_l1 (l_ : (List TApiKid)) (last : (List UInt8)) (t : Nat) : Option (Sum ((List UInt8) × Nat) (Sum Unit Int)) :=
  cond (decide ((t : Int) < (l_.length : Int)))
  (Option.bind (l_[t]?) fun x_ =>
  cond (name_Valid x_.Name)
  (cond (decide (x_.Ino < 0))
  (some (.inr (.inr 1)))
  (cond (decide (x_.Ino > 16384))
  (some (.inr (.inr 1)))
  (cond (leB x_.Name last)
  (some (.inr (.inr 1)))
  (some (.inl (x_.Name, (t + 1)))))))
  (some (.inr (.inr 1))))
  (some (.inr (.inl ())))
noncomputable def dirent_Check (l_ : (List TApiKid)) : Option Int :=
  bnd
  (loopO (fun s => dirent_Check_l1 l_ s.1 s.2) (([] : List UInt8), 0)) fun _ =>
  some 0
def dirent_rows (l_ : (List TApiKid)) : (List TApiKid) :=
  l_
noncomputable def dirent_rows_1_l2 (t : (List TApiKid)) (n_ : Nat) : Option (Sum Nat Nat) :=
  cond (decide ((n_ : Int) < (t.length : Int)))
  (cond (decide ((n_ : Int) < 256))
  (Option.bind (t[n_]?) fun x_ =>
  Option.bind (t[0]?) fun x_1 =>
  cond (decide (x_.Ino ≥ x_1.Ino))
  (some (.inl (n_ + 1)))
  (some (.inr n_)))
  (some (.inr n_)))
  (some (.inr n_))
noncomputable def dirent_rows_1_l1 {σs ρs : Type} (yld : σs → (List TApiKid) → Option (Sum σs ρs)) (t : (List TApiKid)) (zs1 : σs) : Option (Sum ((List TApiKid) × σs) (Sum ((List TApiKid) × σs) (Sum σs ρs))) :=
  cond (decide ((t.length : Int) > 0))
  (Option.bind
  (loopO (fun s => dirent_rows_1_l2 t s) 1) fun n_ =>
  Option.bind (slc t 0 (n_ : Int)) fun y_ =>
  Option.bind (yld zs1 y_) fun yy360 =>
  Sum.elim (fun zs2 =>
  Option.bind (slc t (n_ : Int) (t.length : Int)) fun y_1 =>
  some (.inl (y_1, zs2))) (fun q =>
  some (.inr (.inr (.inr q)))) yy360)
  (some (.inr (.inl (t, zs1))))
noncomputable def dirent_rows_1 {σs ρs : Type} (yld : σs → (List TApiKid) → Option (Sum σs ρs)) (zs : σs) (v_ : (List TApiKid)) : Option (Sum σs ρs) :=
  bnd
  (loopO (fun s => dirent_rows_1_l1 (σs := σs) (ρs := ρs) yld s.1 s.2) (v_, zs)) fun (v_1, zs1) =>
  some (.inl zs1)
def field_wide (width : Int) : Bool :=
  cond (width == 1)
  (true)
  (cond (width == 2)
  (true)
  (cond (width == 4)
  (true)
  (cond (width == 8)
  (true)
  (false))))
noncomputable def field_fits (n_ : UInt64) (width : Int) : Option Bool :=
  cond (width == 8)
  (some true)
  (Option.bind (chk (decide (0 ≤ (IntKind.i64.wrap (8 * width))))) fun _ =>
  some (((shr64 n_ (IntKind.i64.wrap (8 * width))).toNat : Int) == 0))
noncomputable def field_copied (b : (List UInt8)) : Option (List UInt8) :=
  Option.bind (app ([] : List UInt8) b) fun b1 =>
  some b1
noncomputable def field_store_l1 (n_ : UInt64) (width : Int) (b1 : (List UInt8)) (t : Int) : Option (Sum ((List UInt8) × Int) (List UInt8)) :=
  cond (decide (t < width))
  (Option.bind (chk (decide (0 ≤ (IntKind.i64.wrap (8 * t))))) fun _ =>
  Option.bind (app b1 [(shr64 n_ (IntKind.i64.wrap (8 * t))).toUInt8]) fun b2 =>
  some (.inl (b2, (IntKind.i64.wrap (t + 1)))))
  (some (.inr b1))
noncomputable def field_store (b : (List UInt8)) (n_ : UInt64) (width : Int) : Option (List UInt8) :=
  Option.bind
  (loopO (fun s => field_store_l1 n_ width s.1 s.2) (b, 0)) fun b1 =>
  some b1
noncomputable def field_Put (b : (List UInt8)) (n_ : UInt64) (width : Int) : Option ((List UInt8) × Int) :=
  cond (field_wide width)
  (Option.bind (field_fits n_ width) fun fits =>
  cond fits
  (Option.bind (field_copied b) fun copied =>
  Option.bind (field_store copied n_ width) fun store =>
  some (store, 0))
  (some ([], 9)))
  (some ([], 1))
noncomputable def dirent_Encode_1 (n_ : Int) (width : Int) (v_ : (List UInt8)) : Option (List UInt8) :=
  Option.bind (field_Put v_ (UInt64.ofInt n_) width) fun put =>
  some put.1
noncomputable def dirent_Encode_l1 (row : (List TApiKid)) (x_ : TApiKid) (out1 : (List UInt8)) (t : Nat) : Option (Sum ((List UInt8) × Nat) (List UInt8)) :=
  cond (decide ((t : Int) < (row.length : Int)))
  (Option.bind (row[t]?) fun x_1 =>
  Option.bind (dirent_Encode_1 (IntKind.i64.wrap (x_1.Ino - x_.Ino)) 2 out1) fun encode2 =>
  Option.bind (dirent_Encode_1 (x_1.Name.length : Int) 1 encode2) fun encode3 =>
  Option.bind (app encode3 x_1.Name) fun b =>
  some (.inl (b, (t + 1))))
  (some (.inr out1))
noncomputable def dirent_Encode_r1 (out : (List UInt8)) (row : (List TApiKid)) : Option (List UInt8) :=
  Option.bind (dirent_Encode_1 (row.length : Int) 2 out) fun encode =>
  Option.bind (row[0]?) fun x_ =>
  Option.bind (dirent_Encode_1 x_.Ino 4 encode) fun encode1 =>
  Option.bind
  (loopO (fun s => dirent_Encode_l1 row x_ s.1 s.2) (encode1, 0)) fun v_ =>
  some v_
noncomputable def dirent_Encode (l_ : (List TApiKid)) : Option ((List UInt8) × Int) :=
  Option.bind (dirent_Check l_) fun check =>
  cond (check != 0)
  (some ([], 1))
  (Option.bind (Option.map outS (dirent_rows_1 (fun s x => (dirent_Encode_r1 s x).map Sum.inl) [] (dirent_rows l_))) fun out =>
  some (out, 0))
def law16_num (e_ : Int) : Int :=
  e_
noncomputable def law16_live : Option Bool :=
  Option.bind (dirent_Encode [({ Name := ([97] : List UInt8), Ino := 5 } : TApiKid), ({ Name := ([98] : List UInt8), Ino := 7 } : TApiKid), ({ Name := ([99] : List UInt8), Ino := 2 } : TApiKid)]) fun encode =>
  cond ((law16_num encode.2) == 0)
  (some (encode.1 == ([2, 0, 5, 0, 0, 0, 0, 0, 1, 97, 2, 0, 1, 98, 1, 0, 2, 0, 0, 0, 0, 0, 1, 99] : List UInt8)))
  (some false)
def dirent_Find_1 (k : TApiKid) (v_ : (List UInt8)) : Bool :=
  (k.Name == v_)
noncomputable def slices_IndexFunc0_l1 (s_ : (List TApiKid)) (f_ : (List UInt8)) (t : Nat) : Option (Sum Nat (Sum Unit Int)) :=
  cond (decide ((t : Int) < (s_.length : Int)))
  (Option.bind (s_[t]?) fun x_ =>
  cond (dirent_Find_1 x_ f_)
  (some (.inr (.inr (t : Int))))
  (some (.inl (t + 1))))
  (some (.inr (.inl ())))
noncomputable def slices_IndexFunc0 (s_ : (List TApiKid)) (f_ : (List UInt8)) : Option Int :=
  bnd
  (loopO (fun s => slices_IndexFunc0_l1 s_ f_ s) 0) fun _ =>
  some (-1)
noncomputable def dirent_Find (l_ : (List TApiKid)) (name : (List UInt8)) : Option (Int × Bool) :=
  Option.bind (slices_IndexFunc0 l_ name) fun kid =>
  cond (decide (kid < 0))
  (some (0, false))
  (Option.bind (idx l_ kid) fun x_ =>
  some (x_.Ino, true))
noncomputable def law16_DirentFinds_l1 (l_ : (List TApiKid)) (name : (List UInt8)) (find : (Int × Bool)) (i : Nat) : Option (Sum Nat (Sum Unit Bool)) :=
  cond (decide ((i : Int) < (l_.length : Int)))
  (Option.bind (l_[i]?) fun x_ =>
  cond (x_.Name == name)
  (cond find.2
  (cond (find.1 == x_.Ino)
  (Option.bind law16_live fun live2 =>
  some (.inr (.inr live2)))
  (some (.inr (.inr false))))
  (some (.inr (.inr false))))
  (some (.inl (i + 1))))
  (some (.inr (.inl ())))
noncomputable def law16_DirentFinds (l_ : (List TApiKid)) (name : (List UInt8)) : Option Bool :=
  Option.bind (law16_much l_) fun much =>
  cond much
  (Option.bind law16_live fun live =>
  some live)
  (cond (decide ((name.length : Int) > 300))
  (Option.bind law16_live fun live1 =>
  some live1)
  (Option.bind (dirent_Find l_ name) fun find =>
  bnd
  (loopO (fun s => law16_DirentFinds_l1 l_ name find s) 0) fun _ =>
  cond find.2
  (some false)
  (cond (find.1 == 0)
  (Option.bind law16_live fun live3 =>
  some live3)
  (some false))))
noncomputable def ref10_Valid_l1 (s_ : (List UInt8)) (i : Nat) : Option (Sum Nat (Sum Unit Bool)) :=
  cond (decide ((i : Int) < (s_.length : Int)))
  (Option.bind (idx s_ (i : Int)) fun c =>
  cond ((c.toNat : Int) == 47)
  (some (.inr (.inr false)))
  (cond ((c.toNat : Int) == 0)
  (some (.inr (.inr false)))
  (some (.inl (i + 1)))))
  (some (.inr (.inl ())))
noncomputable def ref10_Valid (s_ : (List UInt8)) : Option Bool :=
  cond (decide ((s_.length : Int) < 1))
  (some false)
  (cond (decide ((s_.length : Int) > 255))
  (some false)
  (cond (s_ == ([46] : List UInt8))
  (some false)
  (cond (s_ == ([46, 46] : List UInt8))
  (some false)
  (bnd
  (loopO (fun s => ref10_Valid_l1 s_ s) 0) fun _ =>
  some true))))
noncomputable def ref16_Right_l1 (l_ : (List TApiKid)) (i : Nat) : Option (Sum Nat (Sum Unit Bool)) :=
  cond (decide ((i : Int) < (l_.length : Int)))
  (Option.bind (l_[i]?) fun x_ =>
  Option.bind (ref10_Valid x_.Name) fun valid =>
  cond valid
  (cond (decide (x_.Ino < 0))
  (some (.inr (.inr false)))
  (cond (decide (x_.Ino > 16384))
  (some (.inr (.inr false)))
  (cond (decide ((i : Int) > 0))
  (Option.bind (idx l_ ((i : Int) - 1)) fun x_1 =>
  cond (leB x_.Name x_1.Name)
  (some (.inr (.inr false)))
  (some (.inl (i + 1))))
  (some (.inl (i + 1))))))
  (some (.inr (.inr false))))
  (some (.inr (.inl ())))
noncomputable def ref16_Right (l_ : (List TApiKid)) : Option Bool :=
  bnd
  (loopO (fun s => ref16_Right_l1 l_ s) 0) fun _ =>
  some true
noncomputable def ref01_Store_l1 (w_ : Int) (n_1 : UInt64) (b : (List UInt8)) (i : Int) : Option (Sum (UInt64 × (List UInt8) × Int) (List UInt8)) :=
  cond (decide (i < w_))
  (Option.bind (app b [(n_1 % (256 : UInt64)).toUInt8]) fun b1 =>
  some (.inl ((n_1 / (256 : UInt64)), b1, (IntKind.i64.wrap (i + 1)))))
  (some (.inr b))
noncomputable def ref01_Store (n_ : UInt64) (w_ : Int) : Option (List UInt8) :=
  Option.bind
  (loopO (fun s => ref01_Store_l1 w_ s.1 s.2.1 s.2.2) (n_, [], 0)) fun b =>
  some b
noncomputable def ref16_Bytes_l2 (l_ : (List TApiKid)) (i : Int) (n_ : Nat) (row : (List UInt8)) : Option (Sum (Nat × (List UInt8)) (Nat × (List UInt8))) :=
  cond (decide ((IntKind.i64.wrap (i + (n_ : Int))) < (l_.length : Int)))
  (cond (decide ((n_ : Int) < 256))
  (Option.bind (idx l_ (IntKind.i64.wrap (i + (n_ : Int)))) fun x_ =>
  Option.bind (idx l_ i) fun x_1 =>
  cond (decide (x_.Ino ≥ x_1.Ino))
  (Option.bind
  (Option.bind (ref01_Store (UInt64.ofInt (IntKind.i64.wrap (x_.Ino - x_1.Ino))) 2) fun store =>
  Option.bind (app row store) fun b1 =>
  Option.bind (app b1 [(UInt8.ofInt (x_.Name.length : Int))]) fun b2 =>
  Option.bind (app b2 x_.Name) fun b3 =>
  some b3) fun row1 =>
  some (.inl ((n_ + 1), row1)))
  (some (.inr (n_, row))))
  (some (.inr (n_, row))))
  (some (.inr (n_, row)))
noncomputable def ref16_Bytes_l1 (l_ : (List TApiKid)) (b : (List UInt8)) (i : Int) : Option (Sum ((List UInt8) × Int) (List UInt8)) :=
  cond (decide (i < (l_.length : Int)))
  (Option.bind
  (loopO (fun s => ref16_Bytes_l2 l_ i s.1 s.2) (0, [])) fun (n_, row) =>
  Option.bind (ref01_Store (UInt64.ofInt (n_ : Int)) 2) fun store1 =>
  Option.bind (app b store1) fun b4 =>
  Option.bind (idx l_ i) fun x_2 =>
  Option.bind (ref01_Store (UInt64.ofInt x_2.Ino) 4) fun store2 =>
  Option.bind (app b4 store2) fun b5 =>
  Option.bind (app b5 row) fun b6 =>
  some (.inl (b6, (IntKind.i64.wrap (i + (n_ : Int))))))
  (some (.inr b))
noncomputable def ref16_Bytes (l_ : (List TApiKid)) : Option (List UInt8) :=
  Option.bind
  (loopO (fun s => ref16_Bytes_l1 l_ s.1 s.2) ([], 0)) fun b =>
  some b
noncomputable def field_NewReader (b : (List UInt8)) : Option TFieldReader :=
  Option.bind (field_copied b) fun copied =>
  some ({ f_b := copied, f_at := 0, f_e := 0 } : TFieldReader)
noncomputable def field_Reader_Left (r_ : TFieldReader) : Option Int :=
  some (IntKind.i64.wrap ((r_.f_b.length : Int) - r_.f_at))
def field_within (b : (List UInt8)) (at_ : Int) (n_ : Int) : Bool :=
  cond (decide (at_ ≥ 0))
  (cond (decide (n_ ≥ 0))
  (cond (decide (n_ ≤ (b.length : Int)))
  ((decide (at_ ≤ ((b.length : Int) - n_))))
  (false))
  (false))
  (false)
noncomputable def field_Reader_take (r_ : TFieldReader) (n_ : Int) : Option ((List UInt8) × TFieldReader) :=
  cond (r_.f_e != 0)
  (some ([], r_))
  (cond (decide (n_ < 0))
  (some ([], ({ f_b := r_.f_b, f_at := r_.f_at, f_e := 1 } : TFieldReader)))
  (cond (field_within r_.f_b r_.f_at n_)
  (Option.bind (slc r_.f_b (IntKind.i64.wrap ((IntKind.i64.wrap (r_.f_at + n_)) - n_)) (IntKind.i64.wrap (r_.f_at + n_))) fun y_ =>
  some (y_, ({ f_b := r_.f_b, f_at := (IntKind.i64.wrap (r_.f_at + n_)), f_e := r_.f_e } : TFieldReader)))
  (some ([], ({ f_b := r_.f_b, f_at := r_.f_at, f_e := 6 } : TFieldReader)))))
noncomputable def field_load_l1 (b : (List UInt8)) (n_ : UInt64) (t : Nat) : Option (Sum (UInt64 × Nat) UInt64) :=
  cond (decide ((t : Int) < (b.length : Int)))
  (Option.bind (b[t]?) fun x_ =>
  Option.bind (chk (decide (0 ≤ (IntKind.i64.wrap (8 * (t : Int)))))) fun _ =>
  some (.inl ((n_ ||| (shl64 x_.toUInt64 (IntKind.i64.wrap (8 * (t : Int))))), (t + 1))))
  (some (.inr n_))
noncomputable def field_load (b : (List UInt8)) : Option UInt64 :=
  Option.bind
  (loopO (fun s => field_load_l1 b s.1 s.2) ((0 : UInt64), 0)) fun n_ =>
  some n_
noncomputable def field_Reader_Num (r_ : TFieldReader) (width : Int) : Option (UInt64 × TFieldReader) :=
  cond (field_wide width)
  (Option.bind (field_Reader_take r_ width) fun take =>
  Option.bind (field_load take.1) fun load =>
  some (load, take.2))
  (Option.bind (field_Reader_take r_ (-1)) fun take1 =>
  Option.bind (field_load take1.1) fun load1 =>
  some (load1, take1.2))
noncomputable def field_Reader_Bytes (r_ : TFieldReader) (n_ : Int) : Option ((List UInt8) × TFieldReader) :=
  Option.bind (field_Reader_take r_ n_) fun take =>
  Option.bind (field_copied take.1) fun copied =>
  some (copied, take.2)
noncomputable def field_Reader_Err (r_ : TFieldReader) : Option (Int × Int) :=
  some (r_.f_at, r_.f_e)
def bytes_Equal (a : (List UInt8)) (b : (List UInt8)) : Bool :=
  (a == b)
noncomputable def dirent_Decode_l2 (num : (UInt64 × TFieldReader)) (num1 : (UInt64 × TFieldReader)) (b2 : (List UInt8)) (at_1 : Int) (e_1 : Int) (l_1 : (List TApiKid)) (t : UInt64) : Option (Sum ((List UInt8) × Int × Int × (List TApiKid) × UInt64) (Sum ((List UInt8) × Int × Int × (List TApiKid)) (Sum ((List UInt8) × Int × Int × (List TApiKid)) (Sum (List TApiKid) ((List TApiKid) × Int))))) :=
  cond (decide ((t.toNat : Int) < (num.1.toNat : Int)))
  (Option.bind (field_Reader_Num ({ f_b := b2, f_at := at_1, f_e := e_1 } : TFieldReader) 2) fun num2 =>
  Option.bind (field_Reader_Num num2.2 1) fun num3 =>
  Option.bind (field_Reader_Bytes num3.2 (IntKind.i64.wrap (num3.1.toNat : Int))) fun bytes =>
  Option.bind (field_Reader_Err bytes.2) fun err =>
  cond (err.2 != 0)
  (some (.inr (.inr (.inr (.inr ([], 6))))))
  (Option.bind (app l_1 [({ Name := bytes.1, Ino := (IntKind.i64.wrap ((num1.1 + num2.1).toNat : Int)) } : TApiKid)]) fun b3 =>
  some (.inl (bytes.2.f_b, bytes.2.f_at, bytes.2.f_e, b3, (t + (1 : UInt64))))))
  (some (.inr (.inl (b2, at_1, e_1, l_1))))
noncomputable def dirent_Decode_l1 (b1 : (List UInt8)) (at_ : Int) (e_ : Int) (l_ : (List TApiKid)) : Option (Sum ((List UInt8) × Int × Int × (List TApiKid)) (Sum (List TApiKid) ((List TApiKid) × Int))) :=
  Option.bind (field_Reader_Left ({ f_b := b1, f_at := at_, f_e := e_ } : TFieldReader)) fun left =>
  cond (decide (left > 0))
  (Option.bind (field_Reader_Num ({ f_b := b1, f_at := at_, f_e := e_ } : TFieldReader) 2) fun num =>
  Option.bind (field_Reader_Num num.2 4) fun num1 =>
  bnd
  (loopO (fun s => dirent_Decode_l2 num num1 s.1 s.2.1 s.2.2.1 s.2.2.2.1 s.2.2.2.2) (num1.2.f_b, num1.2.f_at, num1.2.f_e, l_, (0 : UInt64))) fun (b2, at_1, e_1, l_1) =>
  Option.bind (field_Reader_Err ({ f_b := b2, f_at := at_1, f_e := e_1 } : TFieldReader)) fun err1 =>
  cond (err1.2 != 0)
  (some (.inr (.inr ([], 6))))
  (some (.inl (b2, at_1, e_1, l_1))))
  (some (.inr (.inl l_)))
noncomputable def dirent_Decode (b : (List UInt8)) : Option ((List TApiKid) × Int) :=
  Option.bind (field_NewReader b) fun newRea =>
  bnd
  (loopO (fun s => dirent_Decode_l1 s.1 s.2.1 s.2.2.1 s.2.2.2) (newRea.f_b, newRea.f_at, newRea.f_e, [])) fun l_ =>
  Option.bind (dirent_Encode l_) fun encode =>
  cond (encode.2 != 0)
  (some ([], 6))
  (cond (bytes_Equal encode.1 b)
  (some (l_, 0))
  (some ([], 6)))
noncomputable def ref16_Same_l1 (a : (List TApiKid)) (b : (List TApiKid)) (i : Nat) : Option (Sum Nat (Sum Unit Bool)) :=
  cond (decide ((i : Int) < (a.length : Int)))
  (Option.bind (a[i]?) fun x_ =>
  Option.bind (b[i]?) fun x_1 =>
  cond (x_.Name != x_1.Name)
  (some (.inr (.inr false)))
  (cond (x_.Ino != x_1.Ino)
  (some (.inr (.inr false)))
  (some (.inl (i + 1)))))
  (some (.inr (.inl ())))
noncomputable def ref16_Same (a : (List TApiKid)) (b : (List TApiKid)) : Option Bool :=
  cond ((a.length : Int) != (b.length : Int))
  (some false)
  (bnd
  (loopO (fun s => ref16_Same_l1 a b s) 0) fun _ =>
  some true)
noncomputable def law16_DirentEncodes (l_ : (List TApiKid)) : Option Bool :=
  Option.bind (law16_much l_) fun much =>
  cond much
  (Option.bind law16_live fun live =>
  some live)
  (Option.bind (dirent_Encode l_) fun encode =>
  Option.bind (ref16_Right l_) fun right =>
  cond right
  (cond ((law16_num encode.2) != 0)
  (some false)
  (Option.bind (dirent_Check l_) fun check =>
  cond ((law16_num check) != 0)
  (some false)
  (Option.bind (ref16_Bytes l_) fun bytes =>
  cond (encode.1 != bytes)
  (some false)
  (Option.bind (dirent_Decode encode.1) fun decode =>
  cond ((law16_num decode.2) == 0)
  (Option.bind (ref16_Same l_ decode.1) fun same =>
  cond same
  (Option.bind law16_live fun live1 =>
  some live1)
  (some false))
  (some false)))))
  (cond ((law16_num encode.2) == 1)
  (cond ((encode.1.length : Int) == 0)
  (Option.bind (dirent_Check l_) fun check1 =>
  cond ((law16_num check1) == 1)
  (Option.bind law16_live fun live2 =>
  some live2)
  (some false))
  (some false))
  (some false)))
noncomputable def ref01_Load_l1 (b : (List UInt8)) (at_ : Int) (n_ : UInt64) (i : Int) : Option (Sum (UInt64 × Int) UInt64) :=
  cond (decide (i ≥ 0))
  (Option.bind (idx b (IntKind.i64.wrap (at_ + i))) fun x_ =>
  some (.inl (((n_ * (256 : UInt64)) + x_.toUInt64), (IntKind.i64.wrap (i - 1)))))
  (some (.inr n_))
noncomputable def ref01_Load (b : (List UInt8)) (at_ : Int) (w_ : Int) : Option UInt64 :=
  Option.bind
  (loopO (fun s => ref01_Load_l1 b at_ s.1 s.2) ((0 : UInt64), (IntKind.i64.wrap (w_ - 1)))) fun n_ =>
  some n_
noncomputable def ref16_Decode_l2 (b : (List UInt8)) (load : UInt64) (load1 : UInt64) (l_1 : (List TApiKid)) (at_1 : Int) (i : Int) : Option (Sum ((List TApiKid) × Int × Int) (Sum ((List TApiKid) × Int) (Sum ((List TApiKid) × Int) (Sum (List TApiKid) ((List TApiKid) × Int))))) :=
  cond (decide (i < (IntKind.i64.wrap (load.toNat : Int))))
  (cond (decide ((IntKind.i64.wrap (at_1 + 3)) > (b.length : Int)))
  (some (.inr (.inr (.inr (.inr ([], 6))))))
  (Option.bind (idx b (IntKind.i64.wrap (at_1 + 2))) fun x_ =>
  cond (decide ((IntKind.i64.wrap ((IntKind.i64.wrap (at_1 + 3)) + (x_.toNat : Int))) > (b.length : Int)))
  (some (.inr (.inr (.inr (.inr ([], 6))))))
  (Option.bind (slc b (IntKind.i64.wrap (at_1 + 3)) (IntKind.i64.wrap ((IntKind.i64.wrap (at_1 + 3)) + (x_.toNat : Int)))) fun y_ =>
  Option.bind (ref01_Load b at_1 2) fun load2 =>
  Option.bind (app l_1 [({ Name := y_, Ino := (IntKind.i64.wrap ((IntKind.i64.wrap (load1.toNat : Int)) + (IntKind.i64.wrap (load2.toNat : Int)))) } : TApiKid)]) fun b1 =>
  some (.inl (b1, (IntKind.i64.wrap ((IntKind.i64.wrap (at_1 + 3)) + (x_.toNat : Int))), (IntKind.i64.wrap (i + 1)))))))
  (some (.inr (.inl (l_1, at_1))))
noncomputable def ref16_Decode_l1 (b : (List UInt8)) (l_ : (List TApiKid)) (at_ : Int) : Option (Sum ((List TApiKid) × Int) (Sum (List TApiKid) ((List TApiKid) × Int))) :=
  cond (decide (at_ < (b.length : Int)))
  (cond (decide ((IntKind.i64.wrap (at_ + 6)) > (b.length : Int)))
  (some (.inr (.inr ([], 6))))
  (Option.bind (ref01_Load b at_ 2) fun load =>
  Option.bind (ref01_Load b (IntKind.i64.wrap (at_ + 2)) 4) fun load1 =>
  bnd
  (loopO (fun s => ref16_Decode_l2 b load load1 s.1 s.2.1 s.2.2) (l_, (IntKind.i64.wrap (at_ + 6)), 0)) fun (l_1, at_1) =>
  some (.inl (l_1, at_1))))
  (some (.inr (.inl l_)))
noncomputable def ref16_Decode (b : (List UInt8)) : Option ((List TApiKid) × Int) :=
  bnd
  (loopO (fun s => ref16_Decode_l1 b s.1 s.2) ([], 0)) fun l_ =>
  Option.bind (ref16_Right l_) fun right =>
  cond right
  (Option.bind (ref16_Bytes l_) fun bytes =>
  cond (bytes != b)
  (some ([], 6))
  (some (l_, 0)))
  (some ([], 6))
noncomputable def law16_DirentDecodes (b : (List UInt8)) : Option Bool :=
  cond (decide ((b.length : Int) > 3000))
  (Option.bind law16_live fun live =>
  some live)
  (Option.bind (app ([] : List UInt8) b) fun b1 =>
  Option.bind (dirent_Decode b1) fun decode =>
  Option.bind (ref16_Decode b) fun decode1 =>
  Option.bind (ref16_Same decode.1 decode1.1) fun same =>
  cond same
  (cond ((law16_num decode.2) != decode1.2)
  (some false)
  (cond (b1 != b)
  (some false)
  (cond (decode1.2 != 0)
  (Option.bind law16_live fun live1 =>
  some live1)
  (Option.bind (dirent_Encode decode.1) fun encode =>
  cond ((law16_num encode.2) == 0)
  (cond (encode.1 == b)
  (Option.bind law16_live fun live2 =>
  some live2)
  (some false))
  (some false)))))
  (some false))
noncomputable def law16_DirentRows_l1 (n_ : Int) (down1 : Bool) (l_ : (List TApiKid)) (i : Int) : Option (Sum (Bool × (List TApiKid) × Int) (Bool × (List TApiKid))) :=
  cond (decide (i < n_))
  (cond down1
  (Option.bind (app l_ [({ Name := [(UInt8.ofInt (IntKind.i64.wrap (97 + (IntKind.i64.wrap (Int.tdiv i 26))))), (UInt8.ofInt (IntKind.i64.wrap (97 + (Int.tmod i 26))))], Ino := (IntKind.i64.wrap (n_ - i)) } : TApiKid)]) fun b =>
  some (.inl (true, b, (IntKind.i64.wrap (i + 1)))))
  (Option.bind (app l_ [({ Name := [(UInt8.ofInt (IntKind.i64.wrap (97 + (IntKind.i64.wrap (Int.tdiv i 26))))), (UInt8.ofInt (IntKind.i64.wrap (97 + (Int.tmod i 26))))], Ino := i } : TApiKid)]) fun b1 =>
  some (.inl (false, b1, (IntKind.i64.wrap (i + 1))))))
  (some (.inr (down1, l_)))
noncomputable def law16_DirentRows (n_ : Int) (down : Bool) : Option Bool :=
  cond (decide (n_ < 0))
  (Option.bind law16_live fun live =>
  some live)
  (cond (decide (n_ > 600))
  (Option.bind law16_live fun live1 =>
  some live1)
  (Option.bind
  (loopO (fun s => law16_DirentRows_l1 n_ s.1 s.2.1 s.2.2) (down, [], 0)) fun (down1, l_) =>
  Option.bind (dirent_Encode l_) fun encode =>
  lt_
  (cond down1
  (n_)
  ((IntKind.i64.wrap (Int.tdiv (n_ + 255) 256)))) fun rows =>
  Option.bind (dirent_Decode encode.1) fun decode =>
  cond ((IntKind.i64.wrap ((law16_num encode.2) + (law16_num decode.2))) == 0)
  (cond ((encode.1.length : Int) == (IntKind.i64.wrap ((IntKind.i64.wrap (6 * rows)) + (5 * n_))))
  (Option.bind (ref16_Same l_ decode.1) fun same =>
  cond same
  (Option.bind law16_live fun live2 =>
  some live2)
  (some false))
  (some false))
  (some false)))
end Go.Proofs.Ytebbaokcgnjfiaa.F
