/- The functions as Lean functions over numbers and lists: printed by lift.py. -/
import Derived.Test.YtebbaokcgnjfiaaM2
set_option linter.unusedVariables false
set_option linter.unusedSimpArgs false
namespace Go.Proofs.Ytebbaokcgnjfiaa.K
open Go Go.RowKit
structure TApiInode where
  Kind : Int
  Mode : Int
  Uid : Int
  Gid : Int
  Time : Int
  Links : Int
  Attrs : Int
  Size : Int
  Start : Int
  Words : (List Int)
  Frag : Int
  Off : Int
  Tail : Int
  Dir : Int
  Bytes : Int
  Parent : Int
  Target : (List UInt8)
  Dev : Int
  deriving DecidableEq
def rApiInode : Rep TApiInode where
  sz := 18
  im m cs x := ∃ A9 c9, cs = [.int .i64 x.Kind, .int .i64 x.Mode, .int .i64 x.Uid, .int .i64 x.Gid, .int .i64 x.Time, .int .i64 x.Links, .int .i64 x.Attrs, .int .i64 x.Size, .int .i64 x.Start, .slice A9 x.Words.length c9, .int .i64 x.Frag, .int .i64 x.Off, .int .i64 x.Tail, .int .i64 x.Dir, .int .i64 x.Bytes, .int .i64 x.Parent, .string ⟨x.Target.toArray⟩, .int .i64 x.Dev] ∧ SlI rI64 m A9 c9 x.Words ∧ x.Target.length ≤ 9223372036854775807
  wf x := rI64.wf x.Kind ∧ rI64.wf x.Mode ∧ rI64.wf x.Uid ∧ rI64.wf x.Gid ∧ rI64.wf x.Time ∧ rI64.wf x.Links ∧ rI64.wf x.Attrs ∧ rI64.wf x.Size ∧ rI64.wf x.Start ∧ (rSl rI64).wf x.Words ∧ rI64.wf x.Frag ∧ rI64.wf x.Off ∧ rI64.wf x.Tail ∧ rI64.wf x.Dir ∧ rI64.wf x.Bytes ∧ rI64.wf x.Parent ∧ rStr.wf x.Target ∧ rI64.wf x.Dev
  mono hs := fun ⟨A9, c9, h, s9, s16⟩ => ⟨A9, c9, h, s9.mono hs, s16⟩
  len := fun ⟨A9, c9, h, s9, s16⟩ => by rw [h]; rfl
  one := fun ⟨A9, c9, h, s9, s16⟩ => by rw [h]; intro u hu; simp only [List.mem_cons, List.mem_nil_iff, or_false] at hu; rcases hu with rfl | rfl | rfl | rfl | rfl | rfl | rfl | rfl | rfl | rfl | rfl | rfl | rfl | rfl | rfl | rfl | rfl | rfl <;> rfl
structure TFieldWriter where
  f_b : (List UInt8)
  f_most : Int
  f_e : Int
  deriving DecidableEq
def rFieldWriter : Rep TFieldWriter where
  sz := 3
  im m cs x := ∃ A0 c0, cs = [.slice A0 x.f_b.length c0, .int .i64 x.f_most, .int .i64 x.f_e] ∧ SlI rU8 m A0 c0 x.f_b
  wf x := (rSl rU8).wf x.f_b ∧ rI64.wf x.f_most ∧ rI64.wf x.f_e
  mono hs := fun ⟨A0, c0, h, s0⟩ => ⟨A0, c0, h, s0.mono hs⟩
  len := fun ⟨A0, c0, h, s0⟩ => by rw [h]; rfl
  one := fun ⟨A0, c0, h, s0⟩ => by rw [h]; intro u hu; simp only [List.mem_cons, List.mem_nil_iff, or_false] at hu; rcases hu with rfl | rfl | rfl <;> rfl
structure TFieldReader where
  f_b : (List UInt8)
  f_at : Int
  f_e : Int
  deriving DecidableEq
def rFieldReader : Rep TFieldReader where
  sz := 3
  im m cs x := ∃ A0 c0, cs = [.slice A0 x.f_b.length c0, .int .i64 x.f_at, .int .i64 x.f_e] ∧ SlI rU8 m A0 c0 x.f_b
  wf x := (rSl rU8).wf x.f_b ∧ rI64.wf x.f_at ∧ rI64.wf x.f_e
  mono hs := fun ⟨A0, c0, h, s0⟩ => ⟨A0, c0, h, s0.mono hs⟩
  len := fun ⟨A0, c0, h, s0⟩ => by rw [h]; rfl
  one := fun ⟨A0, c0, h, s0⟩ => by rw [h]; intro u hu; simp only [List.mem_cons, List.mem_nil_iff, or_false] at hu; rcases hu with rfl | rfl | rfl <;> rfl
end Go.Proofs.Ytebbaokcgnjfiaa.K
namespace Go.Proofs.Ytebbaokcgnjfiaa.F
open Go Go.RowKit Go.Proofs.Ytebbaokcgnjfiaa.K
def inode_between (n_ : Int) (low : Int) (high : Int) : Bool :=
  cond (decide (n_ ≥ low))
  ((decide (n_ ≤ high)))
  (false)
def inode_file_1 (w_ : Int) : Bool :=
  (!(inode_between w_ 0 4294967295))
noncomputable def slices_IndexFunc1_l1 (s_ : (List Int)) (t : Nat) : Option (Sum Nat (Sum Unit Int)) :=
  cond (decide ((t : Int) < (s_.length : Int)))
  (Option.bind (s_[t]?) fun x_ =>
  cond (inode_file_1 x_)
  (some (.inr (.inr (t : Int))))
  (some (.inl (t + 1))))
  (some (.inr (.inl ())))
noncomputable def slices_IndexFunc1 (s_ : (List Int)) : Option Int :=
  bnd
  (loopO (fun s => slices_IndexFunc1_l1 s_ s) 0) fun _ =>
  some (-1)
noncomputable def slices_ContainsFunc (s_ : (List Int)) : Option Bool :=
  Option.bind (slices_IndexFunc1 s_) fun indexF =>
  some (decide (indexF ≥ 0))
noncomputable def inode_file (n_ : TApiInode) : Option Bool :=
  Option.bind
  (cond (decide ((n_.Words.length : Int) ≤ 65536))
  (Option.bind (slices_ContainsFunc n_.Words) fun contai =>
  some (!contai))
  (some false)) fun words =>
  lt_
  (cond (inode_between n_.Frag (-1) 65535)
  (cond (inode_between n_.Off 0 1048575)
  (cond (inode_between n_.Tail 0 1048575)
  (cond (decide (n_.Frag ≥ 0))
  (((decide (n_.Frag ≥ 0)) == (decide (n_.Tail > 0))))
  (cond (n_.Off == 0)
  (((decide (n_.Frag ≥ 0)) == (decide (n_.Tail > 0))))
  (false)))
  (false))
  (false))
  (false)) fun frag =>
  cond (inode_between n_.Size 0 1099511627775)
  (cond (inode_between n_.Start 0 8388608)
  (cond words
  (some frag)
  (some false))
  (some false))
  (some false)
def inode_dir (n_ : TApiInode) : Bool :=
  cond (inode_between n_.Dir 0 16777216)
  (cond (inode_between n_.Bytes 0 16777216)
  ((inode_between n_.Parent 0 16384))
  (false))
  (false)
def internal_stringslite_IndexByte (s_ : (List UInt8)) (c : UInt8) : Int :=
  (Lib.indexByte s_ c)
def strings_IndexByte (s_ : (List UInt8)) (c : UInt8) : Int :=
  (internal_stringslite_IndexByte s_ c)
def inode_link (n_ : TApiInode) : Bool :=
  cond (inode_between (n_.Target.length : Int) 1 4096)
  ((decide ((strings_IndexByte n_.Target (0 : UInt8)) < 0)))
  (false)
def inode_device (n_ : TApiInode) : Bool :=
  (inode_between n_.Dev 0 4294967295)
def inode_rest (n_ : TApiInode) : Bool :=
  lt_
  (cond (n_.Kind == 1)
  (cond (n_.Dir == 0)
  (cond (n_.Bytes == 0)
  (cond (n_.Parent == 0)
  (cond (n_.Target == ([] : List UInt8))
  (cond (decide (n_.Kind ≥ 4))
  (true)
  ((n_.Dev == 0)))
  (false))
  (false))
  (false))
  (false))
  (cond (n_.Size == 0)
  (cond (n_.Start == 0)
  (cond ((n_.Words.length : Int) == 0)
  (cond (n_.Frag == 0)
  (cond (n_.Off == 0)
  (cond (n_.Tail == 0)
  (cond (n_.Kind == 2)
  (cond (n_.Target == ([] : List UInt8))
  (cond (decide (n_.Kind ≥ 4))
  (true)
  ((n_.Dev == 0)))
  (false))
  (cond (n_.Dir == 0)
  (cond (n_.Bytes == 0)
  (cond (n_.Parent == 0)
  (cond (n_.Kind == 3)
  (cond (decide (n_.Kind ≥ 4))
  (true)
  ((n_.Dev == 0)))
  (cond (n_.Target == ([] : List UInt8))
  (cond (decide (n_.Kind ≥ 4))
  (true)
  ((n_.Dev == 0)))
  (false)))
  (false))
  (false))
  (false)))
  (false))
  (false))
  (false))
  (false))
  (false))
  (false))) fun t =>
  t
noncomputable def inode_Check (n_ : TApiInode) : Option Int :=
  cond (inode_between n_.Kind 1 5)
  (lt_
  (cond (inode_between n_.Mode 0 4095)
  (cond (inode_between n_.Time 0 4294967295)
  (cond (inode_between n_.Uid 0 65535)
  (cond (inode_between n_.Gid 0 65535)
  (cond (inode_between n_.Links 1 4294967295)
  ((inode_between n_.Attrs (-1) 16777216))
  (false))
  (false))
  (false))
  (false))
  (false)) fun ok =>
  Option.bind
  (cond (n_.Kind == 1)
  (cond ok
  (Option.bind (inode_file n_) fun file =>
  some file)
  (some false))
  (cond (n_.Kind == 2)
  (cond ok
  (some (inode_dir n_))
  (some false))
  (cond (n_.Kind == 3)
  (cond ok
  (some (inode_link n_))
  (some false))
  (cond (n_.Kind == 4)
  (cond ok
  (some (inode_device n_))
  (some false))
  (cond ok
  (some (inode_device n_))
  (some false)))))) fun ok1 =>
  cond ok1
  (cond (inode_rest n_)
  (some 0)
  (some 1))
  (some 1))
  (some 8)
def field_NewWriter (most : Int) : TFieldWriter :=
  ({ f_b := [], f_most := (if 0 > most then 0 else most), f_e := 0 } : TFieldWriter)
def field_wide (width : Int) : Bool :=
  cond (width == 1)
  (true)
  (cond (width == 2)
  (true)
  (cond (width == 4)
  (true)
  (cond (width == 8)
  (true)
  (false))))
noncomputable def field_fits (n_ : UInt64) (width : Int) : Option Bool :=
  cond (width == 8)
  (some true)
  (Option.bind (chk (decide (0 ≤ (IntKind.i64.wrap (8 * width))))) fun _ =>
  some (((shr64 n_ (IntKind.i64.wrap (8 * width))).toNat : Int) == 0))
noncomputable def field_Writer_right (w_ : TFieldWriter) (e_ : Int) (more : Int) : Option (Bool × TFieldWriter) :=
  cond (w_.f_e != 0)
  (some (false, w_))
  (cond (e_ == 0)
  (cond (decide (more > (IntKind.i64.wrap (w_.f_most - (w_.f_b.length : Int)))))
  (some (false, ({ f_b := w_.f_b, f_most := w_.f_most, f_e := 2 } : TFieldWriter)))
  (some ((e_ == 0), ({ f_b := w_.f_b, f_most := w_.f_most, f_e := e_ } : TFieldWriter))))
  (some ((e_ == 0), ({ f_b := w_.f_b, f_most := w_.f_most, f_e := e_ } : TFieldWriter))))
noncomputable def field_store_l1 (n_ : UInt64) (width : Int) (b1 : (List UInt8)) (t : Int) : Option (Sum ((List UInt8) × Int) (List UInt8)) :=
  cond (decide (t < width))
  (Option.bind (chk (decide (0 ≤ (IntKind.i64.wrap (8 * t))))) fun _ =>
  Option.bind (app b1 [(shr64 n_ (IntKind.i64.wrap (8 * t))).toUInt8]) fun b2 =>
  some (.inl (b2, (IntKind.i64.wrap (t + 1)))))
  (some (.inr b1))
noncomputable def field_store (b : (List UInt8)) (n_ : UInt64) (width : Int) : Option (List UInt8) :=
  Option.bind
  (loopO (fun s => field_store_l1 n_ width s.1 s.2) (b, 0)) fun b1 =>
  some b1
noncomputable def field_Writer_Num (w_ : TFieldWriter) (n_ : UInt64) (width : Int) : Option TFieldWriter :=
  Option.bind
  (cond (field_wide width)
  (Option.bind (field_fits n_ width) fun fits =>
  cond fits
  (some 0)
  (some 9))
  (some 1)) fun e_ =>
  Option.bind (field_Writer_right w_ (e_ : Int) width) fun right =>
  cond right.1
  (Option.bind (field_store right.2.f_b n_ width) fun store =>
  some ({ f_b := store, f_most := right.2.f_most, f_e := right.2.f_e } : TFieldWriter))
  (some right.2)
def inode_none (n_ : Int) : UInt64 :=
  (UInt64.ofInt ((UInt32.ofInt n_).toNat : Int))
noncomputable def field_Writer_Text (w_ : TFieldWriter) (b : (List UInt8)) : Option TFieldWriter :=
  cond (decide ((b.length : Int) > 65535))
  (Option.bind (field_Writer_right w_ 9 (IntKind.i64.wrap ((if 65535 < (b.length : Int) then 65535 else (b.length : Int)) + 2))) fun right =>
  cond right.1
  (Option.bind (field_store right.2.f_b (UInt64.ofInt (b.length : Int)) 2) fun store =>
  Option.bind (app store b) fun b1 =>
  some ({ f_b := b1, f_most := right.2.f_most, f_e := right.2.f_e } : TFieldWriter))
  (some right.2))
  (Option.bind (field_Writer_right w_ 0 ((if 65535 < (b.length : Int) then 65535 else (b.length : Int)) + 2)) fun right1 =>
  cond right1.1
  (Option.bind (field_store right1.2.f_b (UInt64.ofInt (b.length : Int)) 2) fun store1 =>
  Option.bind (app store1 b) fun b2 =>
  some ({ f_b := b2, f_most := right1.2.f_most, f_e := right1.2.f_e } : TFieldWriter))
  (some right1.2))
noncomputable def field_copied (b : (List UInt8)) : Option (List UInt8) :=
  Option.bind (app ([] : List UInt8) b) fun b1 =>
  some b1
noncomputable def field_Writer_Done (w_ : TFieldWriter) : Option ((List UInt8) × Int) :=
  cond (w_.f_e != 0)
  (some ([], w_.f_e))
  (Option.bind (field_copied w_.f_b) fun copied =>
  some (copied, 0))
noncomputable def inode_Encode_l1 (n_ : TApiInode) (b : (List UInt8)) (most : Int) (e_ : Int) (t : Nat) : Option (Sum ((List UInt8) × Int × Int × Nat) ((List UInt8) × Int × Int)) :=
  cond (decide ((t : Int) < (n_.Words.length : Int)))
  (Option.bind (n_.Words[t]?) fun x_ =>
  Option.bind (field_Writer_Num ({ f_b := b, f_most := most, f_e := e_ } : TFieldWriter) (UInt64.ofInt x_) 4) fun num13 =>
  some (.inl (num13.f_b, num13.f_most, num13.f_e, (t + 1))))
  (some (.inr (b, most, e_)))
noncomputable def inode_Encode (n_ : TApiInode) : Option ((List UInt8) × Int) :=
  Option.bind (inode_Check n_) fun check =>
  cond (check != 0)
  (some ([], check))
  (Option.bind (field_Writer_Num (field_NewWriter 8388608) (UInt64.ofInt n_.Kind) 2) fun num =>
  Option.bind (field_Writer_Num num (UInt64.ofInt n_.Mode) 2) fun num1 =>
  Option.bind (field_Writer_Num num1 (UInt64.ofInt n_.Uid) 2) fun num2 =>
  Option.bind (field_Writer_Num num2 (UInt64.ofInt n_.Gid) 2) fun num3 =>
  Option.bind (field_Writer_Num num3 (UInt64.ofInt n_.Time) 4) fun num4 =>
  Option.bind (field_Writer_Num num4 (UInt64.ofInt n_.Links) 4) fun num5 =>
  Option.bind (field_Writer_Num num5 (inode_none n_.Attrs) 4) fun num6 =>
  Option.bind
  (cond (n_.Kind == 1)
  (Option.bind (field_Writer_Num num6 (UInt64.ofInt n_.Size) 8) fun num7 =>
  Option.bind (field_Writer_Num num7 (UInt64.ofInt n_.Start) 4) fun num8 =>
  Option.bind (field_Writer_Num num8 (inode_none n_.Frag) 4) fun num9 =>
  Option.bind (field_Writer_Num num9 (UInt64.ofInt n_.Off) 4) fun num10 =>
  Option.bind (field_Writer_Num num10 (UInt64.ofInt n_.Tail) 4) fun num11 =>
  Option.bind (field_Writer_Num num11 (UInt64.ofInt (n_.Words.length : Int)) 4) fun num12 =>
  Option.bind
  (loopO (fun s => inode_Encode_l1 n_ s.1 s.2.1 s.2.2.1 s.2.2.2) (num12.f_b, num12.f_most, num12.f_e, 0)) fun (b, most, e_) =>
  some (b, most, e_))
  (cond (n_.Kind == 2)
  (Option.bind (field_Writer_Num num6 (UInt64.ofInt n_.Dir) 4) fun num14 =>
  Option.bind (field_Writer_Num num14 (UInt64.ofInt n_.Bytes) 4) fun num15 =>
  Option.bind (field_Writer_Num num15 (UInt64.ofInt n_.Parent) 4) fun num16 =>
  some (num16.f_b, num16.f_most, num16.f_e))
  (cond (n_.Kind == 3)
  (Option.bind (field_Writer_Text num6 n_.Target) fun text =>
  some (text.f_b, text.f_most, text.f_e))
  (Option.bind (field_Writer_Num num6 (UInt64.ofInt n_.Dev) 4) fun num17 =>
  some (num17.f_b, num17.f_most, num17.f_e))))) fun (b, most, e_) =>
  Option.bind (field_Writer_Done ({ f_b := b, f_most := most, f_e := e_ } : TFieldWriter)) fun done =>
  some (done.1, done.2))
def law15_num (e_ : Int) : Int :=
  e_
noncomputable def law15_live : Option Bool :=
  Option.bind (inode_Encode ({ Kind := 5, Mode := 384, Uid := 0, Gid := 0, Time := 0, Links := 1, Attrs := (-1), Size := 0, Start := 0, Words := [], Frag := 0, Off := 0, Tail := 0, Dir := 0, Bytes := 0, Parent := 0, Target := ([] : List UInt8), Dev := 5 } : TApiInode)) fun encode =>
  cond ((law15_num encode.2) == 0)
  (some (encode.1 == ([5, 0, 128, 1, 0, 0, 0, 0, 0, 0, 0, 0, 1, 0, 0, 0, 255, 255, 255, 255, 5, 0, 0, 0] : List UInt8)))
  (some false)
noncomputable def inode_Plain (n_ : TApiInode) (log : Int) (i : Int) : Option (Int × Int) :=
  cond (n_.Kind != 1)
  (some (0, 1))
  (Option.bind (inode_Check n_) fun check =>
  cond (check != 0)
  (some (0, 1))
  (cond (inode_between log 12 20)
  (cond (decide (i < 0))
  (some (0, 9))
  (cond (decide (i ≥ (n_.Words.length : Int)))
  (some (0, 9))
  (Option.bind (chk (decide (0 ≤ log))) fun _ =>
  cond (decide ((shlI i log) ≥ n_.Size))
  (some (0, 9))
  (Option.bind (chk (decide (0 ≤ log))) fun _ =>
  Option.bind (chk (decide (0 ≤ log))) fun _ =>
  some ((if (IntKind.i64.wrap (n_.Size - (shlI i log))) < (shlI 1 log) then (IntKind.i64.wrap (n_.Size - (shlI i log))) else (shlI 1 log)), 0)))))
  (some (0, 1))))
def ref15_in (n_ : Int) (low : Int) (high : Int) : Bool :=
  cond (decide (low ≤ n_))
  ((decide (n_ ≤ high)))
  (false)
noncomputable def ref15_Check_l1 (n_ : TApiInode) (i : Nat) : Option (Sum Nat (Sum Unit (Sum Unit Int))) :=
  cond (decide ((i : Int) < (n_.Words.length : Int)))
  (Option.bind (n_.Words[i]?) fun x_ =>
  cond (ref15_in x_ 0 4294967295)
  (some (.inl (i + 1)))
  (some (.inr (.inr (.inr 1)))))
  (some (.inr (.inl ())))
noncomputable def ref15_Check_l2 (n_ : TApiInode) (i1 : Nat) : Option (Sum Nat (Sum Unit Int)) :=
  cond (decide ((i1 : Int) < (n_.Target.length : Int)))
  (Option.bind (idx n_.Target (i1 : Int)) fun c =>
  cond ((c.toNat : Int) == 0)
  (some (.inr (.inr 1)))
  (some (.inl (i1 + 1))))
  (some (.inr (.inl ())))
noncomputable def ref15_Check (n_ : TApiInode) : Option Int :=
  cond (ref15_in n_.Kind 1 5)
  (lt_
  (cond (ref15_in n_.Mode 0 4095)
  (cond (ref15_in n_.Time 0 4294967295)
  (cond (ref15_in n_.Uid 0 65535)
  (cond (ref15_in n_.Gid 0 65535)
  (cond (ref15_in n_.Links 1 4294967295)
  ((!(ref15_in n_.Attrs (-1) 16777216)))
  (true))
  (true))
  (true))
  (true))
  (true)) fun t =>
  cond t
  (some 1)
  (bnd
  (cond (n_.Kind == 1)
  (lt_
  (cond (ref15_in n_.Size 0 1099511627775)
  (cond (ref15_in n_.Start 0 8388608)
  (cond (decide ((n_.Words.length : Int) > 65536))
  (true)
  (cond (ref15_in n_.Frag (-1) 65535)
  (cond (ref15_in n_.Off 0 1048575)
  (cond (ref15_in n_.Tail 0 1048575)
  (cond (n_.Frag == (-1))
  (cond (n_.Off != 0)
  (true)
  (cond (n_.Tail != 0)
  (true)
  (false)))
  ((n_.Tail == 0)))
  (true))
  (true))
  (true)))
  (true))
  (true)) fun t1 =>
  cond t1
  (some (.inr 1))
  (bnd
  (loopO (fun s => ref15_Check_l1 n_ s) 0) fun _ =>
  some (.inl ())))
  (cond (n_.Size != 0)
  (some (.inr 1))
  (cond (n_.Start != 0)
  (some (.inr 1))
  (cond ((n_.Words.length : Int) != 0)
  (some (.inr 1))
  (cond (n_.Frag != 0)
  (some (.inr 1))
  (cond (n_.Off != 0)
  (some (.inr 1))
  (cond (n_.Tail != 0)
  (some (.inr 1))
  (some (.inl ()))))))))) fun _ =>
  cond (n_.Kind == 2)
  (lt_
  (cond (ref15_in n_.Dir 0 16777216)
  (cond (ref15_in n_.Bytes 0 16777216)
  ((!(ref15_in n_.Parent 0 16384)))
  (true))
  (true)) fun t2 =>
  cond t2
  (some 1)
  (cond (n_.Target != ([] : List UInt8))
  (some 1)
  (cond (decide (n_.Kind > 3))
  (cond (ref15_in n_.Dev 0 4294967295)
  (cond (decide (n_.Kind < 4))
  (cond (n_.Dev != 0)
  (some 1)
  (some 0))
  (some 0))
  (some 1))
  (cond (decide (n_.Kind < 4))
  (cond (n_.Dev != 0)
  (some 1)
  (some 0))
  (some 0)))))
  (cond (n_.Dir != 0)
  (some 1)
  (cond (n_.Bytes != 0)
  (some 1)
  (cond (n_.Parent != 0)
  (some 1)
  (cond (n_.Kind == 3)
  (cond (ref15_in (n_.Target.length : Int) 1 4096)
  (bnd
  (loopO (fun s => ref15_Check_l2 n_ s) 0) fun _ =>
  cond (decide (n_.Kind > 3))
  (cond (ref15_in n_.Dev 0 4294967295)
  (cond (decide (n_.Kind < 4))
  (cond (n_.Dev != 0)
  (some 1)
  (some 0))
  (some 0))
  (some 1))
  (cond (decide (n_.Kind < 4))
  (cond (n_.Dev != 0)
  (some 1)
  (some 0))
  (some 0)))
  (some 1))
  (cond (n_.Target != ([] : List UInt8))
  (some 1)
  (cond (decide (n_.Kind > 3))
  (cond (ref15_in n_.Dev 0 4294967295)
  (cond (decide (n_.Kind < 4))
  (cond (n_.Dev != 0)
  (some 1)
  (some 0))
  (some 0))
  (some 1))
  (cond (decide (n_.Kind < 4))
  (cond (n_.Dev != 0)
  (some 1)
  (some 0))
  (some 0))))))))))
  (some 8)
noncomputable def law15_InodePlains_l1 (log : Int) (size : Int) (j : Int) : Option (Sum (Int × Int) Int) :=
  cond (decide (j < log))
  (some (.inl ((IntKind.i64.wrap (size * 2)), (IntKind.i64.wrap (j + 1)))))
  (some (.inr size))
noncomputable def law15_InodePlains (n_ : TApiInode) (log : Int) (i : Int) : Option Bool :=
  cond (decide ((n_.Words.length : Int) > 1000))
  (Option.bind law15_live fun live =>
  some live)
  (cond (decide ((n_.Target.length : Int) > 5000))
  (Option.bind law15_live fun live1 =>
  some live1)
  (Option.bind (inode_Plain n_ log i) fun plain =>
  Option.bind
  (cond (n_.Kind != 1)
  (some true)
  (Option.bind (ref15_Check n_) fun check =>
  cond (check != 0)
  (some true)
  (cond (decide (log < 12))
  (some true)
  (some (decide (log > 20)))))) fun t =>
  cond t
  (cond (plain.1 == 0)
  (cond ((law15_num plain.2) == 1)
  (Option.bind law15_live fun live2 =>
  some live2)
  (some false))
  (some false))
  (Option.bind
  (loopO (fun s => law15_InodePlains_l1 log s.1 s.2) (1, 0)) fun size =>
  lt_
  (cond (decide (i < 0))
  (true)
  (cond (decide (i ≥ (n_.Words.length : Int)))
  (true)
  ((decide ((IntKind.i64.wrap (i * size)) ≥ n_.Size))))) fun t1 =>
  cond t1
  (cond (plain.1 == 0)
  (cond ((law15_num plain.2) == 9)
  (Option.bind law15_live fun live3 =>
  some live3)
  (some false))
  (some false))
  (cond (decide ((IntKind.i64.wrap (n_.Size - (IntKind.i64.wrap (i * size)))) > size))
  (cond (plain.1 == size)
  (cond ((law15_num plain.2) == 0)
  (Option.bind law15_live fun live4 =>
  some live4)
  (some false))
  (some false))
  (cond (plain.1 == (IntKind.i64.wrap (n_.Size - (IntKind.i64.wrap (i * size)))))
  (cond ((law15_num plain.2) == 0)
  (Option.bind law15_live fun live5 =>
  some live5)
  (some false))
  (some false))))))
noncomputable def inode_Size (n_ : TApiInode) : Option Int :=
  Option.bind (inode_Check n_) fun check =>
  cond (check != 0)
  (some 0)
  (cond (n_.Kind == 1)
  (some (IntKind.i64.wrap (48 + (IntKind.i64.wrap (4 * (n_.Words.length : Int))))))
  (cond (n_.Kind == 2)
  (some 32)
  (cond (n_.Kind == 3)
  (some (IntKind.i64.wrap (22 + (n_.Target.length : Int))))
  (some 24))))
noncomputable def ref01_Store_l1 (w_ : Int) (n_1 : UInt64) (b : (List UInt8)) (i : Int) : Option (Sum (UInt64 × (List UInt8) × Int) (List UInt8)) :=
  cond (decide (i < w_))
  (Option.bind (app b [(n_1 % (256 : UInt64)).toUInt8]) fun b1 =>
  some (.inl ((n_1 / (256 : UInt64)), b1, (IntKind.i64.wrap (i + 1)))))
  (some (.inr b))
noncomputable def ref01_Store (n_ : UInt64) (w_ : Int) : Option (List UInt8) :=
  Option.bind
  (loopO (fun s => ref01_Store_l1 w_ s.1 s.2.1 s.2.2) (n_, [], 0)) fun b =>
  some b
noncomputable def ref15_four (n_ : Int) : Option (List UInt8) :=
  cond (n_ == (-1))
  (some [(255 : UInt8), (255 : UInt8), (255 : UInt8), (255 : UInt8)])
  (Option.bind (ref01_Store (UInt64.ofInt n_) 4) fun store =>
  some store)
noncomputable def ref15_Bytes_l1 (n_ : TApiInode) (b12 : (List UInt8)) (i : Nat) : Option (Sum ((List UInt8) × Nat) (List UInt8)) :=
  cond (decide ((i : Int) < (n_.Words.length : Int)))
  (Option.bind (n_.Words[i]?) fun x_ =>
  Option.bind (ref15_four x_) fun four8 =>
  Option.bind (app b12 four8) fun b13 =>
  some (.inl (b13, (i + 1))))
  (some (.inr b12))
noncomputable def ref15_Bytes (n_ : TApiInode) : Option (List UInt8) :=
  Option.bind (ref01_Store (UInt64.ofInt n_.Mode) 2) fun store =>
  Option.bind (app [(UInt8.ofInt n_.Kind), (0 : UInt8)] store) fun b =>
  Option.bind (ref01_Store (UInt64.ofInt n_.Uid) 2) fun store1 =>
  Option.bind (app b store1) fun b1 =>
  Option.bind (ref01_Store (UInt64.ofInt n_.Gid) 2) fun store2 =>
  Option.bind (app b1 store2) fun b2 =>
  Option.bind (ref15_four n_.Time) fun four =>
  Option.bind (app b2 four) fun b3 =>
  Option.bind (ref15_four n_.Links) fun four1 =>
  Option.bind (app b3 four1) fun b4 =>
  Option.bind (ref15_four n_.Attrs) fun four2 =>
  Option.bind (app b4 four2) fun b5 =>
  cond (n_.Kind == 1)
  (Option.bind (ref01_Store (UInt64.ofInt n_.Size) 8) fun store3 =>
  Option.bind (app b5 store3) fun b6 =>
  Option.bind (ref15_four n_.Start) fun four3 =>
  Option.bind (app b6 four3) fun b7 =>
  Option.bind (ref15_four n_.Frag) fun four4 =>
  Option.bind (app b7 four4) fun b8 =>
  Option.bind (ref15_four n_.Off) fun four5 =>
  Option.bind (app b8 four5) fun b9 =>
  Option.bind (ref15_four n_.Tail) fun four6 =>
  Option.bind (app b9 four6) fun b10 =>
  Option.bind (ref15_four (n_.Words.length : Int)) fun four7 =>
  Option.bind (app b10 four7) fun b11 =>
  Option.bind
  (loopO (fun s => ref15_Bytes_l1 n_ s.1 s.2) (b11, 0)) fun b12 =>
  some b12)
  (cond (n_.Kind == 2)
  (Option.bind (ref15_four n_.Dir) fun four9 =>
  Option.bind (app b5 four9) fun b14 =>
  Option.bind (ref15_four n_.Bytes) fun four10 =>
  Option.bind (app b14 four10) fun b15 =>
  Option.bind (ref15_four n_.Parent) fun four11 =>
  Option.bind (app b15 four11) fun b16 =>
  some b16)
  (cond (n_.Kind == 3)
  (Option.bind (ref01_Store (UInt64.ofInt (n_.Target.length : Int)) 2) fun store4 =>
  Option.bind (app b5 store4) fun b17 =>
  Option.bind (app b17 n_.Target) fun b18 =>
  some b18)
  (Option.bind (ref15_four n_.Dev) fun four12 =>
  Option.bind (app b5 four12) fun b19 =>
  some b19)))
noncomputable def law15_InodeEncodes (n_ : TApiInode) : Option Bool :=
  cond (decide ((n_.Words.length : Int) > 1000))
  (cond (decide ((n_.Words.length : Int) ≤ 65536))
  (Option.bind law15_live fun live =>
  some live)
  (cond (decide ((n_.Target.length : Int) > 5000))
  (Option.bind law15_live fun live1 =>
  some live1)
  (Option.bind (inode_Encode n_) fun encode =>
  Option.bind (ref15_Check n_) fun check =>
  cond ((law15_num encode.2) != check)
  (some false)
  (Option.bind (inode_Check n_) fun check1 =>
  cond ((law15_num check1) != check)
  (some false)
  (cond (check != 0)
  (cond ((encode.1.length : Int) == 0)
  (Option.bind (inode_Size n_) fun size =>
  cond (size == 0)
  (Option.bind law15_live fun live2 =>
  some live2)
  (some false))
  (some false))
  (Option.bind (ref15_Bytes n_) fun bytes =>
  cond (encode.1 == bytes)
  (Option.bind (inode_Size n_) fun size1 =>
  cond (size1 == (encode.1.length : Int))
  (Option.bind law15_live fun live3 =>
  some live3)
  (some false))
  (some false)))))))
  (cond (decide ((n_.Target.length : Int) > 5000))
  (Option.bind law15_live fun live4 =>
  some live4)
  (Option.bind (inode_Encode n_) fun encode1 =>
  Option.bind (ref15_Check n_) fun check2 =>
  cond ((law15_num encode1.2) != check2)
  (some false)
  (Option.bind (inode_Check n_) fun check3 =>
  cond ((law15_num check3) != check2)
  (some false)
  (cond (check2 != 0)
  (cond ((encode1.1.length : Int) == 0)
  (Option.bind (inode_Size n_) fun size2 =>
  cond (size2 == 0)
  (Option.bind law15_live fun live5 =>
  some live5)
  (some false))
  (some false))
  (Option.bind (ref15_Bytes n_) fun bytes1 =>
  cond (encode1.1 == bytes1)
  (Option.bind (inode_Size n_) fun size3 =>
  cond (size3 == (encode1.1.length : Int))
  (Option.bind law15_live fun live6 =>
  some live6)
  (some false))
  (some false))))))
noncomputable def field_NewReader (b : (List UInt8)) : Option TFieldReader :=
  Option.bind (field_copied b) fun copied =>
  some ({ f_b := copied, f_at := 0, f_e := 0 } : TFieldReader)
def field_within (b : (List UInt8)) (at_ : Int) (n_ : Int) : Bool :=
  cond (decide (at_ ≥ 0))
  (cond (decide (n_ ≥ 0))
  (cond (decide (n_ ≤ (b.length : Int)))
  ((decide (at_ ≤ ((b.length : Int) - n_))))
  (false))
  (false))
  (false)
noncomputable def field_Reader_take (r_ : TFieldReader) (n_ : Int) : Option ((List UInt8) × TFieldReader) :=
  cond (r_.f_e != 0)
  (some ([], r_))
  (cond (decide (n_ < 0))
  (some ([], ({ f_b := r_.f_b, f_at := r_.f_at, f_e := 1 } : TFieldReader)))
  (cond (field_within r_.f_b r_.f_at n_)
  (Option.bind (slc r_.f_b (IntKind.i64.wrap ((IntKind.i64.wrap (r_.f_at + n_)) - n_)) (IntKind.i64.wrap (r_.f_at + n_))) fun y_ =>
  some (y_, ({ f_b := r_.f_b, f_at := (IntKind.i64.wrap (r_.f_at + n_)), f_e := r_.f_e } : TFieldReader)))
  (some ([], ({ f_b := r_.f_b, f_at := r_.f_at, f_e := 6 } : TFieldReader)))))
noncomputable def field_load_l1 (b : (List UInt8)) (n_ : UInt64) (t : Nat) : Option (Sum (UInt64 × Nat) UInt64) :=
  cond (decide ((t : Int) < (b.length : Int)))
  (Option.bind (b[t]?) fun x_ =>
  Option.bind (chk (decide (0 ≤ (IntKind.i64.wrap (8 * (t : Int)))))) fun _ =>
  some (.inl ((n_ ||| (shl64 x_.toUInt64 (IntKind.i64.wrap (8 * (t : Int))))), (t + 1))))
  (some (.inr n_))
noncomputable def field_load (b : (List UInt8)) : Option UInt64 :=
  Option.bind
  (loopO (fun s => field_load_l1 b s.1 s.2) ((0 : UInt64), 0)) fun n_ =>
  some n_
noncomputable def field_Reader_Num (r_ : TFieldReader) (width : Int) : Option (UInt64 × TFieldReader) :=
  cond (field_wide width)
  (Option.bind (field_Reader_take r_ width) fun take =>
  Option.bind (field_load take.1) fun load =>
  some (load, take.2))
  (Option.bind (field_Reader_take r_ (-1)) fun take1 =>
  Option.bind (field_load take1.1) fun load1 =>
  some (load1, take1.2))
def inode_signed (n_ : UInt64) : Int :=
  (IntKind.i64.wrap (IntKind.i32.wrap ((UInt32.ofInt (n_.toNat : Int)).toNat : Int)))
noncomputable def field_Reader_Left (r_ : TFieldReader) : Option Int :=
  some (IntKind.i64.wrap ((r_.f_b.length : Int) - r_.f_at))
noncomputable def field_Reader_Bytes (r_ : TFieldReader) (n_ : Int) : Option ((List UInt8) × TFieldReader) :=
  Option.bind (field_Reader_take r_ n_) fun take =>
  Option.bind (field_copied take.1) fun copied =>
  some (copied, take.2)
noncomputable def field_Reader_Text (r_ : TFieldReader) (most : Int) : Option ((List UInt8) × TFieldReader) :=
  cond (r_.f_e != 0)
  (some ([], r_))
  (cond (decide (most < 0))
  (some ([], ({ f_b := r_.f_b, f_at := r_.f_at, f_e := 1 } : TFieldReader)))
  (Option.bind (field_Reader_take r_ 2) fun take =>
  Option.bind (field_load take.1) fun load =>
  lt_
  (cond (take.2.f_e == 0)
  ((decide ((IntKind.i64.wrap (load.toNat : Int)) > most)))
  (false)) fun t =>
  cond t
  (Option.bind (field_Reader_take ({ f_b := take.2.f_b, f_at := take.2.f_at, f_e := 2 } : TFieldReader) (IntKind.i64.wrap (load.toNat : Int))) fun take1 =>
  cond (take1.2.f_e != 0)
  (some ([], ({ f_b := take1.2.f_b, f_at := r_.f_at, f_e := take1.2.f_e } : TFieldReader)))
  (Option.bind (field_copied take1.1) fun copied =>
  some (copied, take1.2)))
  (Option.bind (field_Reader_take take.2 (IntKind.i64.wrap (load.toNat : Int))) fun take2 =>
  cond (take2.2.f_e != 0)
  (some ([], ({ f_b := take2.2.f_b, f_at := r_.f_at, f_e := take2.2.f_e } : TFieldReader)))
  (Option.bind (field_copied take2.1) fun copied1 =>
  some (copied1, take2.2)))))
noncomputable def inode_own_l1 (num5 : (UInt64 × TFieldReader)) (Words : (List Int)) (b : (List UInt8)) (at_ : Int) (e_ : Int) (t : UInt64) : Option (Sum ((List Int) × (List UInt8) × Int × Int × UInt64) ((List UInt8) × Int × Int × (List Int))) :=
  cond (decide ((t.toNat : Int) < (num5.1.toNat : Int)))
  (Option.bind (field_Reader_Num ({ f_b := b, f_at := at_, f_e := e_ } : TFieldReader) 4) fun num6 =>
  Option.bind (app Words [(IntKind.i64.wrap (num6.1.toNat : Int))]) fun b1 =>
  some (.inl (b1, num6.2.f_b, num6.2.f_at, num6.2.f_e, (t + (1 : UInt64)))))
  (some (.inr (b, at_, e_, Words)))
noncomputable def inode_own (r_ : TFieldReader) (n_ : TApiInode) : Option (TFieldReader × TApiInode) :=
  cond (n_.Kind == 1)
  (Option.bind (field_Reader_Num r_ 8) fun num =>
  Option.bind (field_Reader_Num num.2 4) fun num1 =>
  Option.bind (field_Reader_Num num1.2 4) fun num2 =>
  Option.bind (field_Reader_Num num2.2 4) fun num3 =>
  Option.bind (field_Reader_Num num3.2 4) fun num4 =>
  Option.bind (field_Reader_Num num4.2 4) fun num5 =>
  Option.bind (field_Reader_Left num5.2) fun left =>
  cond (decide ((num5.1.toNat : Int) > ((UInt64.ofInt (IntKind.i64.wrap (Int.tdiv left 4))).toNat : Int)))
  (Option.bind (field_Reader_Left num5.2) fun left1 =>
  Option.bind (field_Reader_Bytes num5.2 (IntKind.i64.wrap (left1 + 1))) fun bytes =>
  some (bytes.2, ({ Kind := n_.Kind, Mode := n_.Mode, Uid := n_.Uid, Gid := n_.Gid, Time := n_.Time, Links := n_.Links, Attrs := n_.Attrs, Size := (IntKind.i64.wrap (num.1.toNat : Int)), Start := (IntKind.i64.wrap (num1.1.toNat : Int)), Words := n_.Words, Frag := (inode_signed num2.1), Off := (IntKind.i64.wrap (num3.1.toNat : Int)), Tail := (IntKind.i64.wrap (num4.1.toNat : Int)), Dir := n_.Dir, Bytes := n_.Bytes, Parent := n_.Parent, Target := n_.Target, Dev := n_.Dev } : TApiInode)))
  (Option.bind
  (loopO (fun s => inode_own_l1 num5 s.1 s.2.1 s.2.2.1 s.2.2.2.1 s.2.2.2.2) (n_.Words, num5.2.f_b, num5.2.f_at, num5.2.f_e, (0 : UInt64))) fun (b, at_, e_, Words) =>
  some (({ f_b := b, f_at := at_, f_e := e_ } : TFieldReader), ({ Kind := n_.Kind, Mode := n_.Mode, Uid := n_.Uid, Gid := n_.Gid, Time := n_.Time, Links := n_.Links, Attrs := n_.Attrs, Size := (IntKind.i64.wrap (num.1.toNat : Int)), Start := (IntKind.i64.wrap (num1.1.toNat : Int)), Words := Words, Frag := (inode_signed num2.1), Off := (IntKind.i64.wrap (num3.1.toNat : Int)), Tail := (IntKind.i64.wrap (num4.1.toNat : Int)), Dir := n_.Dir, Bytes := n_.Bytes, Parent := n_.Parent, Target := n_.Target, Dev := n_.Dev } : TApiInode))))
  (cond (n_.Kind == 2)
  (Option.bind (field_Reader_Num r_ 4) fun num7 =>
  Option.bind (field_Reader_Num num7.2 4) fun num8 =>
  Option.bind (field_Reader_Num num8.2 4) fun num9 =>
  some (num9.2, ({ Kind := n_.Kind, Mode := n_.Mode, Uid := n_.Uid, Gid := n_.Gid, Time := n_.Time, Links := n_.Links, Attrs := n_.Attrs, Size := n_.Size, Start := n_.Start, Words := n_.Words, Frag := n_.Frag, Off := n_.Off, Tail := n_.Tail, Dir := (IntKind.i64.wrap (num7.1.toNat : Int)), Bytes := (IntKind.i64.wrap (num8.1.toNat : Int)), Parent := (IntKind.i64.wrap (num9.1.toNat : Int)), Target := n_.Target, Dev := n_.Dev } : TApiInode)))
  (cond (n_.Kind == 3)
  (Option.bind (field_Reader_Text r_ 4096) fun text =>
  some (text.2, ({ Kind := n_.Kind, Mode := n_.Mode, Uid := n_.Uid, Gid := n_.Gid, Time := n_.Time, Links := n_.Links, Attrs := n_.Attrs, Size := n_.Size, Start := n_.Start, Words := n_.Words, Frag := n_.Frag, Off := n_.Off, Tail := n_.Tail, Dir := n_.Dir, Bytes := n_.Bytes, Parent := n_.Parent, Target := text.1, Dev := n_.Dev } : TApiInode)))
  (Option.bind (field_Reader_Num r_ 4) fun num10 =>
  some (num10.2, ({ Kind := n_.Kind, Mode := n_.Mode, Uid := n_.Uid, Gid := n_.Gid, Time := n_.Time, Links := n_.Links, Attrs := n_.Attrs, Size := n_.Size, Start := n_.Start, Words := n_.Words, Frag := n_.Frag, Off := n_.Off, Tail := n_.Tail, Dir := n_.Dir, Bytes := n_.Bytes, Parent := n_.Parent, Target := n_.Target, Dev := (IntKind.i64.wrap (num10.1.toNat : Int)) } : TApiInode)))))
noncomputable def field_Reader_Err (r_ : TFieldReader) : Option (Int × Int) :=
  some (r_.f_at, r_.f_e)
noncomputable def inode_Decode (b : (List UInt8)) (at_ : Int) : Option (TApiInode × Int × Int) :=
  cond (decide (at_ < 0))
  (some (({ Kind := 0, Mode := 0, Uid := 0, Gid := 0, Time := 0, Links := 0, Attrs := 0, Size := 0, Start := 0, Words := [], Frag := 0, Off := 0, Tail := 0, Dir := 0, Bytes := 0, Parent := 0, Target := ([] : List UInt8), Dev := 0 } : TApiInode), 0, 9))
  (cond (decide (at_ > (b.length : Int)))
  (some (({ Kind := 0, Mode := 0, Uid := 0, Gid := 0, Time := 0, Links := 0, Attrs := 0, Size := 0, Start := 0, Words := [], Frag := 0, Off := 0, Tail := 0, Dir := 0, Bytes := 0, Parent := 0, Target := ([] : List UInt8), Dev := 0 } : TApiInode), 0, 9))
  (Option.bind (slc b at_ (b.length : Int)) fun y_ =>
  Option.bind (field_NewReader y_) fun newRea =>
  Option.bind (field_Reader_Num newRea 2) fun num =>
  Option.bind (field_Reader_Num num.2 2) fun num1 =>
  Option.bind (field_Reader_Num num1.2 2) fun num2 =>
  Option.bind (field_Reader_Num num2.2 2) fun num3 =>
  Option.bind (field_Reader_Num num3.2 4) fun num4 =>
  Option.bind (field_Reader_Num num4.2 4) fun num5 =>
  Option.bind (field_Reader_Num num5.2 4) fun num6 =>
  Option.bind (inode_own num6.2 ({ Kind := (IntKind.i64.wrap (num.1.toNat : Int)), Mode := (IntKind.i64.wrap (num1.1.toNat : Int)), Uid := (IntKind.i64.wrap (num2.1.toNat : Int)), Gid := (IntKind.i64.wrap (num3.1.toNat : Int)), Time := (IntKind.i64.wrap (num4.1.toNat : Int)), Links := (IntKind.i64.wrap (num5.1.toNat : Int)), Attrs := (inode_signed num6.1), Size := 0, Start := 0, Words := [], Frag := 0, Off := 0, Tail := 0, Dir := 0, Bytes := 0, Parent := 0, Target := ([] : List UInt8), Dev := 0 } : TApiInode)) fun own =>
  Option.bind (field_Reader_Err own.1) fun err =>
  cond (err.2 != 0)
  (some (({ Kind := 0, Mode := 0, Uid := 0, Gid := 0, Time := 0, Links := 0, Attrs := 0, Size := 0, Start := 0, Words := [], Frag := 0, Off := 0, Tail := 0, Dir := 0, Bytes := 0, Parent := 0, Target := ([] : List UInt8), Dev := 0 } : TApiInode), 0, 6))
  (Option.bind (inode_Check own.2) fun check =>
  cond (check != 0)
  (some (({ Kind := 0, Mode := 0, Uid := 0, Gid := 0, Time := 0, Links := 0, Attrs := 0, Size := 0, Start := 0, Words := [], Frag := 0, Off := 0, Tail := 0, Dir := 0, Bytes := 0, Parent := 0, Target := ([] : List UInt8), Dev := 0 } : TApiInode), 0, 6))
  (some (own.2, (IntKind.i64.wrap (at_ + err.1)), 0)))))
noncomputable def ref01_Load_l1 (b : (List UInt8)) (at_ : Int) (n_ : UInt64) (i : Int) : Option (Sum (UInt64 × Int) UInt64) :=
  cond (decide (i ≥ 0))
  (Option.bind (idx b (IntKind.i64.wrap (at_ + i))) fun x_ =>
  some (.inl (((n_ * (256 : UInt64)) + x_.toUInt64), (IntKind.i64.wrap (i - 1)))))
  (some (.inr n_))
noncomputable def ref01_Load (b : (List UInt8)) (at_ : Int) (w_ : Int) : Option UInt64 :=
  Option.bind
  (loopO (fun s => ref01_Load_l1 b at_ s.1 s.2) ((0 : UInt64), (IntKind.i64.wrap (w_ - 1)))) fun n_ =>
  some n_
noncomputable def ref15_minus (b : (List UInt8)) (at_ : Int) : Option Int :=
  Option.bind (ref01_Load b at_ 4) fun load =>
  cond ((IntKind.i64.wrap (load.toNat : Int)) == 4294967295)
  (some (-1))
  (some (IntKind.i64.wrap (load.toNat : Int)))
noncomputable def ref15_guess_l1 (b : (List UInt8)) (at_ : Int) (load9 : UInt64) (Words : (List Int)) (i : Int) : Option (Sum ((List Int) × Int) (List Int)) :=
  cond (decide (i < (IntKind.i64.wrap (load9.toNat : Int))))
  (Option.bind (ref01_Load b (IntKind.i64.wrap ((IntKind.i64.wrap (at_ + 48)) + (IntKind.i64.wrap (4 * i)))) 4) fun load10 =>
  Option.bind (app Words [(IntKind.i64.wrap (load10.toNat : Int))]) fun b1 =>
  some (.inl (b1, (IntKind.i64.wrap (i + 1)))))
  (some (.inr Words))
noncomputable def ref15_guess (b : (List UInt8)) (at_ : Int) : Option (TApiInode × Bool) :=
  cond (decide ((IntKind.i64.wrap (at_ + 24)) > (b.length : Int)))
  (some (({ Kind := 0, Mode := 0, Uid := 0, Gid := 0, Time := 0, Links := 0, Attrs := 0, Size := 0, Start := 0, Words := [], Frag := 0, Off := 0, Tail := 0, Dir := 0, Bytes := 0, Parent := 0, Target := ([] : List UInt8), Dev := 0 } : TApiInode), false))
  (Option.bind
  (Option.bind (idx b at_) fun x_ =>
  Option.bind (ref01_Load b (IntKind.i64.wrap (at_ + 2)) 2) fun load =>
  Option.bind (ref01_Load b (IntKind.i64.wrap (at_ + 4)) 2) fun load1 =>
  Option.bind (ref01_Load b (IntKind.i64.wrap (at_ + 6)) 2) fun load2 =>
  Option.bind (ref01_Load b (IntKind.i64.wrap (at_ + 8)) 4) fun load3 =>
  Option.bind (ref01_Load b (IntKind.i64.wrap (at_ + 12)) 4) fun load4 =>
  Option.bind (ref15_minus b (IntKind.i64.wrap (at_ + 16))) fun minus =>
  some (x_.toNat, (IntKind.i64.wrap (load.toNat : Int)), (IntKind.i64.wrap (load1.toNat : Int)), (IntKind.i64.wrap (load2.toNat : Int)), (IntKind.i64.wrap (load3.toNat : Int)), (IntKind.i64.wrap (load4.toNat : Int)), minus)) fun (Kind, Mode, Uid, Gid, Time, Links, Attrs) =>
  cond ((Kind : Int) == 1)
  (cond (decide ((IntKind.i64.wrap (at_ + 48)) > (b.length : Int)))
  (some (({ Kind := (Kind : Int), Mode := Mode, Uid := Uid, Gid := Gid, Time := Time, Links := Links, Attrs := Attrs, Size := 0, Start := 0, Words := [], Frag := 0, Off := 0, Tail := 0, Dir := 0, Bytes := 0, Parent := 0, Target := ([] : List UInt8), Dev := 0 } : TApiInode), false))
  (Option.bind (ref01_Load b (IntKind.i64.wrap (at_ + 20)) 8) fun load5 =>
  Option.bind (ref01_Load b (IntKind.i64.wrap (at_ + 28)) 4) fun load6 =>
  Option.bind (ref15_minus b (IntKind.i64.wrap (at_ + 32))) fun minus1 =>
  Option.bind (ref01_Load b (IntKind.i64.wrap (at_ + 36)) 4) fun load7 =>
  Option.bind (ref01_Load b (IntKind.i64.wrap (at_ + 40)) 4) fun load8 =>
  Option.bind (ref01_Load b (IntKind.i64.wrap (at_ + 44)) 4) fun load9 =>
  cond (decide ((IntKind.i64.wrap (load9.toNat : Int)) > (IntKind.i64.wrap (Int.tdiv (IntKind.i64.wrap ((IntKind.i64.wrap ((b.length : Int) - at_)) - 48)) 4))))
  (some (({ Kind := (Kind : Int), Mode := Mode, Uid := Uid, Gid := Gid, Time := Time, Links := Links, Attrs := Attrs, Size := (IntKind.i64.wrap (load5.toNat : Int)), Start := (IntKind.i64.wrap (load6.toNat : Int)), Words := [], Frag := minus1, Off := (IntKind.i64.wrap (load7.toNat : Int)), Tail := (IntKind.i64.wrap (load8.toNat : Int)), Dir := 0, Bytes := 0, Parent := 0, Target := ([] : List UInt8), Dev := 0 } : TApiInode), false))
  (Option.bind
  (loopO (fun s => ref15_guess_l1 b at_ load9 s.1 s.2) ([], 0)) fun Words =>
  some (({ Kind := (Kind : Int), Mode := Mode, Uid := Uid, Gid := Gid, Time := Time, Links := Links, Attrs := Attrs, Size := (IntKind.i64.wrap (load5.toNat : Int)), Start := (IntKind.i64.wrap (load6.toNat : Int)), Words := Words, Frag := minus1, Off := (IntKind.i64.wrap (load7.toNat : Int)), Tail := (IntKind.i64.wrap (load8.toNat : Int)), Dir := 0, Bytes := 0, Parent := 0, Target := ([] : List UInt8), Dev := 0 } : TApiInode), true))))
  (cond ((Kind : Int) == 2)
  (cond (decide ((IntKind.i64.wrap (at_ + 32)) > (b.length : Int)))
  (some (({ Kind := (Kind : Int), Mode := Mode, Uid := Uid, Gid := Gid, Time := Time, Links := Links, Attrs := Attrs, Size := 0, Start := 0, Words := [], Frag := 0, Off := 0, Tail := 0, Dir := 0, Bytes := 0, Parent := 0, Target := ([] : List UInt8), Dev := 0 } : TApiInode), false))
  (Option.bind (ref01_Load b (IntKind.i64.wrap (at_ + 20)) 4) fun load11 =>
  Option.bind (ref01_Load b (IntKind.i64.wrap (at_ + 24)) 4) fun load12 =>
  Option.bind (ref01_Load b (IntKind.i64.wrap (at_ + 28)) 4) fun load13 =>
  some (({ Kind := (Kind : Int), Mode := Mode, Uid := Uid, Gid := Gid, Time := Time, Links := Links, Attrs := Attrs, Size := 0, Start := 0, Words := [], Frag := 0, Off := 0, Tail := 0, Dir := (IntKind.i64.wrap (load11.toNat : Int)), Bytes := (IntKind.i64.wrap (load12.toNat : Int)), Parent := (IntKind.i64.wrap (load13.toNat : Int)), Target := ([] : List UInt8), Dev := 0 } : TApiInode), true)))
  (cond ((Kind : Int) == 3)
  (Option.bind (ref01_Load b (IntKind.i64.wrap (at_ + 20)) 2) fun load14 =>
  cond (decide ((IntKind.i64.wrap (load14.toNat : Int)) > (IntKind.i64.wrap ((IntKind.i64.wrap ((b.length : Int) - at_)) - 22))))
  (some (({ Kind := (Kind : Int), Mode := Mode, Uid := Uid, Gid := Gid, Time := Time, Links := Links, Attrs := Attrs, Size := 0, Start := 0, Words := [], Frag := 0, Off := 0, Tail := 0, Dir := 0, Bytes := 0, Parent := 0, Target := ([] : List UInt8), Dev := 0 } : TApiInode), false))
  (Option.bind (slc b (IntKind.i64.wrap (at_ + 22)) (IntKind.i64.wrap ((IntKind.i64.wrap (at_ + 22)) + (IntKind.i64.wrap (load14.toNat : Int))))) fun y_ =>
  some (({ Kind := (Kind : Int), Mode := Mode, Uid := Uid, Gid := Gid, Time := Time, Links := Links, Attrs := Attrs, Size := 0, Start := 0, Words := [], Frag := 0, Off := 0, Tail := 0, Dir := 0, Bytes := 0, Parent := 0, Target := y_, Dev := 0 } : TApiInode), true)))
  (Option.bind (ref01_Load b (IntKind.i64.wrap (at_ + 20)) 4) fun load15 =>
  some (({ Kind := (Kind : Int), Mode := Mode, Uid := Uid, Gid := Gid, Time := Time, Links := Links, Attrs := Attrs, Size := 0, Start := 0, Words := [], Frag := 0, Off := 0, Tail := 0, Dir := 0, Bytes := 0, Parent := 0, Target := ([] : List UInt8), Dev := (IntKind.i64.wrap (load15.toNat : Int)) } : TApiInode), true)))))
noncomputable def ref15_short (b : (List UInt8)) (at_ : Int) : Option (TApiInode × Bool) :=
  cond ((IntKind.i64.wrap ((b.length : Int) - at_)) != 23)
  (some (({ Kind := 0, Mode := 0, Uid := 0, Gid := 0, Time := 0, Links := 0, Attrs := 0, Size := 0, Start := 0, Words := [], Frag := 0, Off := 0, Tail := 0, Dir := 0, Bytes := 0, Parent := 0, Target := ([] : List UInt8), Dev := 0 } : TApiInode), false))
  (Option.bind (idx b at_) fun x_ =>
  cond ((x_.toNat : Int) != 3)
  (some (({ Kind := 0, Mode := 0, Uid := 0, Gid := 0, Time := 0, Links := 0, Attrs := 0, Size := 0, Start := 0, Words := [], Frag := 0, Off := 0, Tail := 0, Dir := 0, Bytes := 0, Parent := 0, Target := ([] : List UInt8), Dev := 0 } : TApiInode), false))
  (Option.bind (idx b (IntKind.i64.wrap (at_ + 20))) fun x_1 =>
  cond ((x_1.toNat : Int) != 1)
  (some (({ Kind := 0, Mode := 0, Uid := 0, Gid := 0, Time := 0, Links := 0, Attrs := 0, Size := 0, Start := 0, Words := [], Frag := 0, Off := 0, Tail := 0, Dir := 0, Bytes := 0, Parent := 0, Target := ([] : List UInt8), Dev := 0 } : TApiInode), false))
  (Option.bind (idx b (IntKind.i64.wrap (at_ + 21))) fun x_2 =>
  cond ((x_2.toNat : Int) != 0)
  (some (({ Kind := 0, Mode := 0, Uid := 0, Gid := 0, Time := 0, Links := 0, Attrs := 0, Size := 0, Start := 0, Words := [], Frag := 0, Off := 0, Tail := 0, Dir := 0, Bytes := 0, Parent := 0, Target := ([] : List UInt8), Dev := 0 } : TApiInode), false))
  (Option.bind (slc b at_ (b.length : Int)) fun y_ =>
  Option.bind (app ([] : List UInt8) y_) fun b1 =>
  Option.bind (app b1 [(0 : UInt8)]) fun b2 =>
  Option.bind (ref15_guess b2 0) fun guess =>
  some (guess.1, guess.2)))))
noncomputable def ref15_Decode (b : (List UInt8)) (at_ : Int) : Option (TApiInode × Int × Int) :=
  cond (decide (at_ < 0))
  (some (({ Kind := 0, Mode := 0, Uid := 0, Gid := 0, Time := 0, Links := 0, Attrs := 0, Size := 0, Start := 0, Words := [], Frag := 0, Off := 0, Tail := 0, Dir := 0, Bytes := 0, Parent := 0, Target := ([] : List UInt8), Dev := 0 } : TApiInode), 0, 9))
  (cond (decide (at_ > (b.length : Int)))
  (some (({ Kind := 0, Mode := 0, Uid := 0, Gid := 0, Time := 0, Links := 0, Attrs := 0, Size := 0, Start := 0, Words := [], Frag := 0, Off := 0, Tail := 0, Dir := 0, Bytes := 0, Parent := 0, Target := ([] : List UInt8), Dev := 0 } : TApiInode), 0, 9))
  (Option.bind (ref15_guess b at_) fun guess =>
  Option.bind
  (cond guess.2
  (some (guess.1.Kind, guess.1.Mode, guess.1.Uid, guess.1.Gid, guess.1.Time, guess.1.Links, guess.1.Attrs, guess.1.Size, guess.1.Start, guess.1.Words, guess.1.Frag, guess.1.Off, guess.1.Tail, guess.1.Dir, guess.1.Bytes, guess.1.Parent, guess.1.Target, guess.1.Dev, true))
  (Option.bind (ref15_short b at_) fun short =>
  some (short.1.Kind, short.1.Mode, short.1.Uid, short.1.Gid, short.1.Time, short.1.Links, short.1.Attrs, short.1.Size, short.1.Start, short.1.Words, short.1.Frag, short.1.Off, short.1.Tail, short.1.Dir, short.1.Bytes, short.1.Parent, short.1.Target, short.1.Dev, short.2))) fun (Kind, Mode, Uid, Gid, Time, Links, Attrs, Size, Start, Words, Frag, Off, Tail, Dir, Bytes, Parent, Target, Dev, ok) =>
  cond ok
  (Option.bind (ref15_Check ({ Kind := Kind, Mode := Mode, Uid := Uid, Gid := Gid, Time := Time, Links := Links, Attrs := Attrs, Size := Size, Start := Start, Words := Words, Frag := Frag, Off := Off, Tail := Tail, Dir := Dir, Bytes := Bytes, Parent := Parent, Target := Target, Dev := Dev } : TApiInode)) fun check =>
  cond (check != 0)
  (some (({ Kind := 0, Mode := 0, Uid := 0, Gid := 0, Time := 0, Links := 0, Attrs := 0, Size := 0, Start := 0, Words := [], Frag := 0, Off := 0, Tail := 0, Dir := 0, Bytes := 0, Parent := 0, Target := ([] : List UInt8), Dev := 0 } : TApiInode), 0, 6))
  (Option.bind (ref15_Bytes ({ Kind := Kind, Mode := Mode, Uid := Uid, Gid := Gid, Time := Time, Links := Links, Attrs := Attrs, Size := Size, Start := Start, Words := Words, Frag := Frag, Off := Off, Tail := Tail, Dir := Dir, Bytes := Bytes, Parent := Parent, Target := Target, Dev := Dev } : TApiInode)) fun bytes =>
  cond (decide ((bytes.length : Int) > ((b.length : Int) - at_)))
  (some (({ Kind := 0, Mode := 0, Uid := 0, Gid := 0, Time := 0, Links := 0, Attrs := 0, Size := 0, Start := 0, Words := [], Frag := 0, Off := 0, Tail := 0, Dir := 0, Bytes := 0, Parent := 0, Target := ([] : List UInt8), Dev := 0 } : TApiInode), 0, 6))
  (Option.bind (slc b at_ (IntKind.i64.wrap (at_ + (bytes.length : Int)))) fun y_ =>
  cond (bytes != y_)
  (some (({ Kind := 0, Mode := 0, Uid := 0, Gid := 0, Time := 0, Links := 0, Attrs := 0, Size := 0, Start := 0, Words := [], Frag := 0, Off := 0, Tail := 0, Dir := 0, Bytes := 0, Parent := 0, Target := ([] : List UInt8), Dev := 0 } : TApiInode), 0, 6))
  (some (({ Kind := Kind, Mode := Mode, Uid := Uid, Gid := Gid, Time := Time, Links := Links, Attrs := Attrs, Size := Size, Start := Start, Words := Words, Frag := Frag, Off := Off, Tail := Tail, Dir := Dir, Bytes := Bytes, Parent := Parent, Target := Target, Dev := Dev } : TApiInode), (IntKind.i64.wrap (at_ + (bytes.length : Int))), 0)))))
  (some (({ Kind := 0, Mode := 0, Uid := 0, Gid := 0, Time := 0, Links := 0, Attrs := 0, Size := 0, Start := 0, Words := [], Frag := 0, Off := 0, Tail := 0, Dir := 0, Bytes := 0, Parent := 0, Target := ([] : List UInt8), Dev := 0 } : TApiInode), 0, 6))))
noncomputable def ref15_Same_l1 (a : TApiInode) (b : TApiInode) (i : Nat) : Option (Sum Nat (Sum Unit Bool)) :=
  cond (decide ((i : Int) < (a.Words.length : Int)))
  (Option.bind (a.Words[i]?) fun x_ =>
  Option.bind (b.Words[i]?) fun x_1 =>
  cond (x_ != x_1)
  (some (.inr (.inr false)))
  (some (.inl (i + 1))))
  (some (.inr (.inl ())))
noncomputable def ref15_Same (a : TApiInode) (b : TApiInode) : Option Bool :=
  lt_
  (cond (a.Kind != b.Kind)
  (true)
  (cond (a.Mode != b.Mode)
  (true)
  (cond (a.Uid != b.Uid)
  (true)
  (cond (a.Gid != b.Gid)
  (true)
  (cond (a.Time != b.Time)
  (true)
  (cond (a.Links != b.Links)
  (true)
  (cond (a.Attrs != b.Attrs)
  (true)
  (cond (a.Size != b.Size)
  (true)
  (cond (a.Start != b.Start)
  (true)
  (cond (a.Frag != b.Frag)
  (true)
  (cond (a.Off != b.Off)
  (true)
  (cond (a.Tail != b.Tail)
  (true)
  (cond (a.Dir != b.Dir)
  (true)
  (cond (a.Bytes != b.Bytes)
  (true)
  (cond (a.Parent != b.Parent)
  (true)
  (cond (a.Target != b.Target)
  (true)
  (cond (a.Dev != b.Dev)
  (true)
  (((a.Words.length : Int) != (b.Words.length : Int)))))))))))))))))))) fun t =>
  cond t
  (some false)
  (bnd
  (loopO (fun s => ref15_Same_l1 a b s) 0) fun _ =>
  some true)
noncomputable def law15_InodeDecodes (b : (List UInt8)) (at_ : Int) : Option Bool :=
  cond (decide ((b.length : Int) > 3000))
  (Option.bind law15_live fun live =>
  some live)
  (Option.bind (app ([] : List UInt8) b) fun b1 =>
  Option.bind (inode_Decode b1 at_) fun decode =>
  Option.bind (ref15_Decode b at_) fun decode1 =>
  Option.bind (ref15_Same decode.1 decode1.1) fun same =>
  cond same
  (cond (decode.2.1 == decode1.2.1)
  (cond ((law15_num decode.2.2) == decode1.2.2)
  (cond (b1 == b)
  (Option.bind law15_live fun live1 =>
  some live1)
  (some false))
  (some false))
  (some false))
  (some false))
noncomputable def law15_InodeBack (n_ : TApiInode) (a : (List UInt8)) (b : (List UInt8)) : Option Bool :=
  lt_
  (cond (decide ((n_.Words.length : Int) > 1000))
  (true)
  (cond (decide ((n_.Target.length : Int) > 5000))
  (true)
  (cond (decide ((a.length : Int) > 300))
  (true)
  ((decide ((b.length : Int) > 300)))))) fun t =>
  cond t
  (Option.bind law15_live fun live =>
  some live)
  (Option.bind (inode_Encode n_) fun encode =>
  cond ((law15_num encode.2) != 0)
  (cond ((encode.1.length : Int) == 0)
  (Option.bind law15_live fun live1 =>
  some live1)
  (some false))
  (Option.bind (app ([] : List UInt8) a) fun b1 =>
  Option.bind (app b1 encode.1) fun b2 =>
  Option.bind (app b2 b) fun b3 =>
  Option.bind (inode_Decode b3 (a.length : Int)) fun decode =>
  cond ((law15_num decode.2.2) == 0)
  (cond (decode.2.1 == (IntKind.i64.wrap ((a.length : Int) + (encode.1.length : Int))))
  (Option.bind (ref15_Same n_ decode.1) fun same =>
  cond same
  (Option.bind law15_live fun live2 =>
  some live2)
  (some false))
  (some false))
  (some false)))
end Go.Proofs.Ytebbaokcgnjfiaa.F
