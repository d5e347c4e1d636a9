/- The functions as Lean functions over numbers and lists: printed by lift.py. -/
import Derived.Test.YtgoedcjjckdlpaaDoorM5
import Derived.Test.YtgoedcjjckdlpaaDoorM10
import Derived.Test.YtgoedcjjckdlpaaDoorLays10
import Derived.Test.YtgoedcjjckdlpaaDoorM7
set_option linter.unusedVariables false
set_option linter.unusedSimpArgs false
namespace Go.Proofs.YtgoedcjjckdlpaaDoor.K
open Go Go.RowKit
structure TApiCrash where
  After : Int
  Torn : (List UInt8)
  deriving DecidableEq
def rApiCrash : Rep TApiCrash where
  sz := 2
  im m cs x := ∃ A1 c1, cs = [.int .i64 x.After, .slice A1 x.Torn.length c1] ∧ SlI rU8 m A1 c1 x.Torn
  wf x := rI64.wf x.After ∧ (rSl rU8).wf x.Torn
  mono hs := fun ⟨A1, c1, h, s1⟩ => ⟨A1, c1, h, s1.mono hs⟩
  len := fun ⟨A1, c1, h, s1⟩ => by rw [h]; rfl
  one := fun ⟨A1, c1, h, s1⟩ => by rw [h]; intro u hu; simp only [List.mem_cons, List.mem_nil_iff, or_false] at hu; rcases hu with rfl | rfl <;> rfl
structure TApiCall where
  Do : Int
  Ino : Int
  A : Int
  B : Int
  Name : (List UInt8)
  On : Bool
  deriving DecidableEq
def rApiCall : Rep TApiCall where
  sz := 6
  im m cs x := cs = [.int .i64 x.Do, .int .i64 x.Ino, .int .i64 x.A, .int .i64 x.B, .string ⟨x.Name.toArray⟩, .bool x.On] ∧ x.Name.length ≤ 9223372036854775807
  wf x := rI64.wf x.Do ∧ rI64.wf x.Ino ∧ rI64.wf x.A ∧ rI64.wf x.B ∧ rStr.wf x.Name ∧ rBool.wf x.On
  mono hs := fun ⟨h, s4⟩ => ⟨h, s4⟩
  len := fun ⟨h, s4⟩ => by rw [h]; rfl
  one := fun ⟨h, s4⟩ => by rw [h]; intro u hu; simp only [List.mem_cons, List.mem_nil_iff, or_false] at hu; rcases hu with rfl | rfl | rfl | rfl | rfl | rfl <;> rfl
structure TApiAct where
  Do : Int
  Len : Int
  Sum : UInt64
  Bytes : (List UInt8)
  Crash : TApiCrash
  Call : TApiCall
  deriving DecidableEq
def rApiAct : Rep TApiAct where
  sz := 12
  im m cs x := ∃ A3 c3, ∃ A5 c5, cs = [.int .i64 x.Do, .int .i64 x.Len, .int .u64 (x.Sum.toNat : Int), .slice A3 x.Bytes.length c3, .int .i64 x.Crash.After, .slice A5 x.Crash.Torn.length c5, .int .i64 x.Call.Do, .int .i64 x.Call.Ino, .int .i64 x.Call.A, .int .i64 x.Call.B, .string ⟨x.Call.Name.toArray⟩, .bool x.Call.On] ∧ SlI rU8 m A3 c3 x.Bytes ∧ SlI rU8 m A5 c5 x.Crash.Torn ∧ x.Call.Name.length ≤ 9223372036854775807
  wf x := rI64.wf x.Do ∧ rI64.wf x.Len ∧ rU64.wf x.Sum ∧ (rSl rU8).wf x.Bytes ∧ rApiCrash.wf x.Crash ∧ rApiCall.wf x.Call
  mono hs := fun ⟨A3, c3, A5, c5, h, s3, s5, s10⟩ => ⟨A3, c3, A5, c5, h, s3.mono hs, s5.mono hs, s10⟩
  len := fun ⟨A3, c3, A5, c5, h, s3, s5, s10⟩ => by rw [h]; rfl
  one := fun ⟨A3, c3, A5, c5, h, s3, s5, s10⟩ => by rw [h]; intro u hu; simp only [List.mem_cons, List.mem_nil_iff, or_false] at hu; rcases hu with rfl | rfl | rfl | rfl | rfl | rfl | rfl | rfl | rfl | rfl | rfl | rfl <;> rfl
structure TStringsBuilder where
  f_addr : Bool
  f_buf : (List UInt8)
  deriving DecidableEq
end Go.Proofs.YtgoedcjjckdlpaaDoor.K
namespace Go.Proofs.YtgoedcjjckdlpaaDoor.F
open Go Go.RowKit Go.Proofs.YtgoedcjjckdlpaaDoor.K
/-- internal/strconv.uint64pow10 -/
def tab0 : List UInt64 := [1, 10, 100, 1000, 10000, 100000, 1000000, 10000000, 100000000, 1000000000, 10000000000, 100000000000, 1000000000000, 10000000000000, 100000000000000, 1000000000000000, 10000000000000000, 100000000000000000, 1000000000000000000, 10000000000000000000]
/-- math/bits.deBruijn32tab -/
def tab1 : List UInt8 := [0, 1, 28, 2, 29, 14, 24, 3, 30, 22, 20, 15, 25, 17, 4, 8, 31, 27, 13, 23, 21, 19, 16, 7, 26, 12, 18, 6, 11, 5, 10, 9]
/-- math/bits.deBruijn64tab -/
def tab2 : List UInt8 := [0, 1, 56, 2, 57, 49, 28, 3, 61, 58, 42, 50, 38, 29, 17, 4, 62, 47, 59, 36, 45, 43, 51, 22, 53, 39, 33, 30, 24, 18, 12, 5, 63, 55, 48, 27, 60, 41, 37, 16, 46, 35, 44, 21, 52, 32, 23, 11, 54, 26, 40, 15, 34, 20, 31, 10, 25, 14, 19, 9, 13, 8, 7, 6]
noncomputable def ref31_Much_l1 (l_ : (List TApiAct)) (i : Nat) : Option (Sum Nat (Sum Unit Bool)) :=
  cond (decide ((i : Int) < (l_.length : Int)))
  (Option.bind (l_[i]?) fun x_ =>
  cond (decide ((x_.Bytes.length : Int) > 3000))
  (some (.inr (.inr true)))
  (cond (decide ((x_.Crash.Torn.length : Int) > 3000))
  (some (.inr (.inr true)))
  (cond (decide ((x_.Call.Name.length : Int) > 3000))
  (some (.inr (.inr true)))
  (some (.inl (i + 1))))))
  (some (.inr (.inl ())))
noncomputable def ref31_Much (l_ : (List TApiAct)) : Option Bool :=
  cond (decide ((l_.length : Int) > 60))
  (some true)
  (bnd
  (loopO (fun s => ref31_Much_l1 l_ s) 0) fun _ =>
  some false)
def script_numbers (c : TApiCall) : (List Int) :=
  cond (c.Do == 3)
  ([c.Ino, c.A, c.B])
  (cond (c.Do == 5)
  ([c.Ino, c.A, c.B])
  ([c.Ino]))
noncomputable def script_Check_l1 (l_ : (List Int)) (t : Nat) : Option (Sum Nat (Sum Unit Int)) :=
  cond (decide ((t : Int) < (l_.length : Int)))
  (Option.bind (l_[t]?) fun x_ =>
  cond (decide (x_ < 0))
  (some (.inr (.inr 1)))
  (cond (decide (x_ > 1099511627776))
  (some (.inr (.inr 1)))
  (some (.inl (t + 1)))))
  (some (.inr (.inl ())))
noncomputable def script_Check (a : TApiAct) : Option Int :=
  bnd
  (cond (a.Do == 1)
  (some (.inl [a.Len]))
  (cond (a.Do == 5)
  (some (.inl [a.Crash.After]))
  (cond (a.Do == 2)
  (some (.inl []))
  (cond (a.Do == 3)
  (some (.inl []))
  (cond (a.Do == 4)
  (some (.inl []))
  (cond (a.Do == 6)
  (some (.inl []))
  (cond (a.Do == 7)
  (cond (decide (a.Call.Do < 1))
  (some (.inr 8))
  (cond (decide (a.Call.Do > 8))
  (some (.inr 8))
  (some (.inl (script_numbers a.Call)))))
  (some (.inr 8))))))))) fun l_ =>
  bnd
  (loopO (fun s => script_Check_l1 l_ s) 0) fun _ =>
  some 0
noncomputable def script_whole (a : TApiAct) : Option TApiAct :=
  Option.bind (chk (decide (a.Bytes.length ≤ 137438953472))) fun _ =>
  Option.bind (chk (decide (a.Crash.Torn.length ≤ 137438953472))) fun _ =>
  some a
def script_named (do_ : Int) : Bool :=
  cond (do_ == 1)
  (true)
  (cond (do_ == 7)
  (true)
  ((do_ == 8)))
noncomputable def script_Plain (a : TApiAct) : Option TApiAct :=
  cond (a.Do == 1)
  (some ({ Do := a.Do, Len := a.Len, Sum := a.Sum, Bytes := [], Crash := ({ After := 0, Torn := [] } : TApiCrash), Call := ({ Do := 0, Ino := 0, A := 0, B := 0, Name := ([] : List UInt8), On := false } : TApiCall) } : TApiAct))
  (bnd
  (cond (a.Do == 2)
  (Option.bind (chk (decide (a.Bytes.length ≤ 137438953472))) fun _ =>
  some (.inl (a.Bytes, 0, [], 0, 0, 0, 0, ([] : List UInt8), false)))
  (cond (a.Do == 5)
  (Option.bind (chk (decide (a.Crash.Torn.length ≤ 137438953472))) fun _ =>
  some (.inl ([], a.Crash.After, a.Crash.Torn, 0, 0, 0, 0, ([] : List UInt8), false)))
  (cond (a.Do == 3)
  (some (.inl ([], 0, [], 0, 0, 0, 0, ([] : List UInt8), false)))
  (cond (a.Do == 4)
  (some (.inl ([], 0, [], 0, 0, 0, 0, ([] : List UInt8), false)))
  (cond (a.Do == 6)
  (some (.inl ([], 0, [], 0, 0, 0, 0, ([] : List UInt8), false)))
  (cond (a.Do == 7)
  (cond (decide (a.Call.Do < 1))
  (Option.bind (script_whole a) fun whole =>
  some (.inr whole))
  (cond (decide (a.Call.Do > 8))
  (Option.bind (script_whole a) fun whole1 =>
  some (.inr whole1))
  (lt_
  (cond (((script_numbers a.Call).length : Int) == 3)
  ((a.Call.A, a.Call.B))
  ((0, 0))) fun (A, B_) =>
  cond (script_named a.Call.Do)
  (cond (a.Call.Do == 8)
  (some (.inl ([], 0, [], a.Call.Do, a.Call.Ino, A, B_, a.Call.Name, a.Call.On)))
  (some (.inl ([], 0, [], a.Call.Do, a.Call.Ino, A, B_, a.Call.Name, false))))
  (cond (a.Call.Do == 8)
  (some (.inl ([], 0, [], a.Call.Do, a.Call.Ino, A, B_, ([] : List UInt8), a.Call.On)))
  (some (.inl ([], 0, [], a.Call.Do, a.Call.Ino, A, B_, ([] : List UInt8), false)))))))
  (Option.bind (script_whole a) fun whole2 =>
  some (.inr whole2)))))))) fun (Bytes, After, Torn, Do, Ino, A, B_, Name, On) =>
  some ({ Do := a.Do, Len := 0, Sum := (0 : UInt64), Bytes := Bytes, Crash := ({ After := After, Torn := Torn } : TApiCrash), Call := ({ Do := Do, Ino := Ino, A := A, B := B_, Name := Name, On := On } : TApiCall) } : TApiAct))
def script_actWords : (List (List UInt8)) :=
  [([] : List UInt8), ([98, 101, 103, 105, 110] : List UInt8), ([99, 104, 117, 110, 107] : List UInt8), ([102, 105, 110, 105, 115, 104] : List UInt8), ([97, 98, 111, 114, 116] : List UInt8), ([97, 114, 109] : List UInt8), ([114, 101, 98, 111, 111, 116] : List UInt8)]
noncomputable def internal_strconv_small (i : Int) : Option (List UInt8) :=
  cond (decide (i < 10))
  (Option.bind (slc ([48, 49, 50, 51, 52, 53, 54, 55, 56, 57, 97, 98, 99, 100, 101, 102, 103, 104, 105, 106, 107, 108, 109, 110, 111, 112, 113, 114, 115, 116, 117, 118, 119, 120, 121, 122] : List UInt8) i (IntKind.i64.wrap (i + 1))) fun y_ =>
  some y_)
  (Option.bind (slc ([48, 48, 48, 49, 48, 50, 48, 51, 48, 52, 48, 53, 48, 54, 48, 55, 48, 56, 48, 57, 49, 48, 49, 49, 49, 50, 49, 51, 49, 52, 49, 53, 49, 54, 49, 55, 49, 56, 49, 57, 50, 48, 50, 49, 50, 50, 50, 51, 50, 52, 50, 53, 50, 54, 50, 55, 50, 56, 50, 57, 51, 48, 51, 49, 51, 50, 51, 51, 51, 52, 51, 53, 51, 54, 51, 55, 51, 56, 51, 57, 52, 48, 52, 49, 52, 50, 52, 51, 52, 52, 52, 53, 52, 54, 52, 55, 52, 56, 52, 57, 53, 48, 53, 49, 53, 50, 53, 51, 53, 52, 53, 53, 53, 54, 53, 55, 53, 56, 53, 57, 54, 48, 54, 49, 54, 50, 54, 51, 54, 52, 54, 53, 54, 54, 54, 55, 54, 56, 54, 57, 55, 48, 55, 49, 55, 50, 55, 51, 55, 52, 55, 53, 55, 54, 55, 55, 55, 56, 55, 57, 56, 48, 56, 49, 56, 50, 56, 51, 56, 52, 56, 53, 56, 54, 56, 55, 56, 56, 56, 57, 57, 48, 57, 49, 57, 50, 57, 51, 57, 52, 57, 53, 57, 54, 57, 55, 57, 56, 57, 57] : List UInt8) (IntKind.i64.wrap (i * 2)) (IntKind.i64.wrap ((IntKind.i64.wrap (i * 2)) + 2))) fun y_1 =>
  some y_1)
noncomputable def math_bits_Len64 (x_ : UInt64) : Option Int :=
  cond (decide ((x_.toNat : Int) ≥ 4294967296))
  (cond (decide (((shr64 x_ 32).toNat : Int) ≥ 65536))
  (cond (decide (((shr64 (shr64 x_ 32) 16).toNat : Int) ≥ 256))
  (Option.bind (idx ([0, 1, 2, 2, 3, 3, 3, 3, 4, 4, 4, 4, 4, 4, 4, 4, 5, 5, 5, 5, 5, 5, 5, 5, 5, 5, 5, 5, 5, 5, 5, 5, 6, 6, 6, 6, 6, 6, 6, 6, 6, 6, 6, 6, 6, 6, 6, 6, 6, 6, 6, 6, 6, 6, 6, 6, 6, 6, 6, 6, 6, 6, 6, 6, 7, 7, 7, 7, 7, 7, 7, 7, 7, 7, 7, 7, 7, 7, 7, 7, 7, 7, 7, 7, 7, 7, 7, 7, 7, 7, 7, 7, 7, 7, 7, 7, 7, 7, 7, 7, 7, 7, 7, 7, 7, 7, 7, 7, 7, 7, 7, 7, 7, 7, 7, 7, 7, 7, 7, 7, 7, 7, 7, 7, 7, 7, 7, 7, 8, 8, 8, 8, 8, 8, 8, 8, 8, 8, 8, 8, 8, 8, 8, 8, 8, 8, 8, 8, 8, 8, 8, 8, 8, 8, 8, 8, 8, 8, 8, 8, 8, 8, 8, 8, 8, 8, 8, 8, 8, 8, 8, 8, 8, 8, 8, 8, 8, 8, 8, 8, 8, 8, 8, 8, 8, 8, 8, 8, 8, 8, 8, 8, 8, 8, 8, 8, 8, 8, 8, 8, 8, 8, 8, 8, 8, 8, 8, 8, 8, 8, 8, 8, 8, 8, 8, 8, 8, 8, 8, 8, 8, 8, 8, 8, 8, 8, 8, 8, 8, 8, 8, 8, 8, 8, 8, 8, 8, 8, 8, 8, 8, 8, 8, 8, 8, 8, 8, 8, 8, 8, 8, 8, 8, 8, 8, 8] : List UInt8) (((shr64 (shr64 (shr64 x_ 32) 16) 8).toUInt8).toNat : Int)) fun c =>
  some (56 + (c.toNat : Int)))
  (Option.bind (idx ([0, 1, 2, 2, 3, 3, 3, 3, 4, 4, 4, 4, 4, 4, 4, 4, 5, 5, 5, 5, 5, 5, 5, 5, 5, 5, 5, 5, 5, 5, 5, 5, 6, 6, 6, 6, 6, 6, 6, 6, 6, 6, 6, 6, 6, 6, 6, 6, 6, 6, 6, 6, 6, 6, 6, 6, 6, 6, 6, 6, 6, 6, 6, 6, 7, 7, 7, 7, 7, 7, 7, 7, 7, 7, 7, 7, 7, 7, 7, 7, 7, 7, 7, 7, 7, 7, 7, 7, 7, 7, 7, 7, 7, 7, 7, 7, 7, 7, 7, 7, 7, 7, 7, 7, 7, 7, 7, 7, 7, 7, 7, 7, 7, 7, 7, 7, 7, 7, 7, 7, 7, 7, 7, 7, 7, 7, 7, 7, 8, 8, 8, 8, 8, 8, 8, 8, 8, 8, 8, 8, 8, 8, 8, 8, 8, 8, 8, 8, 8, 8, 8, 8, 8, 8, 8, 8, 8, 8, 8, 8, 8, 8, 8, 8, 8, 8, 8, 8, 8, 8, 8, 8, 8, 8, 8, 8, 8, 8, 8, 8, 8, 8, 8, 8, 8, 8, 8, 8, 8, 8, 8, 8, 8, 8, 8, 8, 8, 8, 8, 8, 8, 8, 8, 8, 8, 8, 8, 8, 8, 8, 8, 8, 8, 8, 8, 8, 8, 8, 8, 8, 8, 8, 8, 8, 8, 8, 8, 8, 8, 8, 8, 8, 8, 8, 8, 8, 8, 8, 8, 8, 8, 8, 8, 8, 8, 8, 8, 8, 8, 8, 8, 8, 8, 8, 8, 8] : List UInt8) (((shr64 (shr64 x_ 32) 16).toUInt8).toNat : Int)) fun c1 =>
  some (48 + (c1.toNat : Int))))
  (cond (decide (((shr64 x_ 32).toNat : Int) ≥ 256))
  (Option.bind (idx ([0, 1, 2, 2, 3, 3, 3, 3, 4, 4, 4, 4, 4, 4, 4, 4, 5, 5, 5, 5, 5, 5, 5, 5, 5, 5, 5, 5, 5, 5, 5, 5, 6, 6, 6, 6, 6, 6, 6, 6, 6, 6, 6, 6, 6, 6, 6, 6, 6, 6, 6, 6, 6, 6, 6, 6, 6, 6, 6, 6, 6, 6, 6, 6, 7, 7, 7, 7, 7, 7, 7, 7, 7, 7, 7, 7, 7, 7, 7, 7, 7, 7, 7, 7, 7, 7, 7, 7, 7, 7, 7, 7, 7, 7, 7, 7, 7, 7, 7, 7, 7, 7, 7, 7, 7, 7, 7, 7, 7, 7, 7, 7, 7, 7, 7, 7, 7, 7, 7, 7, 7, 7, 7, 7, 7, 7, 7, 7, 8, 8, 8, 8, 8, 8, 8, 8, 8, 8, 8, 8, 8, 8, 8, 8, 8, 8, 8, 8, 8, 8, 8, 8, 8, 8, 8, 8, 8, 8, 8, 8, 8, 8, 8, 8, 8, 8, 8, 8, 8, 8, 8, 8, 8, 8, 8, 8, 8, 8, 8, 8, 8, 8, 8, 8, 8, 8, 8, 8, 8, 8, 8, 8, 8, 8, 8, 8, 8, 8, 8, 8, 8, 8, 8, 8, 8, 8, 8, 8, 8, 8, 8, 8, 8, 8, 8, 8, 8, 8, 8, 8, 8, 8, 8, 8, 8, 8, 8, 8, 8, 8, 8, 8, 8, 8, 8, 8, 8, 8, 8, 8, 8, 8, 8, 8, 8, 8, 8, 8, 8, 8, 8, 8, 8, 8, 8, 8] : List UInt8) (((shr64 (shr64 x_ 32) 8).toUInt8).toNat : Int)) fun c2 =>
  some (40 + (c2.toNat : Int)))
  (Option.bind (idx ([0, 1, 2, 2, 3, 3, 3, 3, 4, 4, 4, 4, 4, 4, 4, 4, 5, 5, 5, 5, 5, 5, 5, 5, 5, 5, 5, 5, 5, 5, 5, 5, 6, 6, 6, 6, 6, 6, 6, 6, 6, 6, 6, 6, 6, 6, 6, 6, 6, 6, 6, 6, 6, 6, 6, 6, 6, 6, 6, 6, 6, 6, 6, 6, 7, 7, 7, 7, 7, 7, 7, 7, 7, 7, 7, 7, 7, 7, 7, 7, 7, 7, 7, 7, 7, 7, 7, 7, 7, 7, 7, 7, 7, 7, 7, 7, 7, 7, 7, 7, 7, 7, 7, 7, 7, 7, 7, 7, 7, 7, 7, 7, 7, 7, 7, 7, 7, 7, 7, 7, 7, 7, 7, 7, 7, 7, 7, 7, 8, 8, 8, 8, 8, 8, 8, 8, 8, 8, 8, 8, 8, 8, 8, 8, 8, 8, 8, 8, 8, 8, 8, 8, 8, 8, 8, 8, 8, 8, 8, 8, 8, 8, 8, 8, 8, 8, 8, 8, 8, 8, 8, 8, 8, 8, 8, 8, 8, 8, 8, 8, 8, 8, 8, 8, 8, 8, 8, 8, 8, 8, 8, 8, 8, 8, 8, 8, 8, 8, 8, 8, 8, 8, 8, 8, 8, 8, 8, 8, 8, 8, 8, 8, 8, 8, 8, 8, 8, 8, 8, 8, 8, 8, 8, 8, 8, 8, 8, 8, 8, 8, 8, 8, 8, 8, 8, 8, 8, 8, 8, 8, 8, 8, 8, 8, 8, 8, 8, 8, 8, 8, 8, 8, 8, 8, 8, 8] : List UInt8) (((shr64 x_ 32).toUInt8).toNat : Int)) fun c3 =>
  some (32 + (c3.toNat : Int)))))
  (cond (decide ((x_.toNat : Int) ≥ 65536))
  (cond (decide (((shr64 x_ 16).toNat : Int) ≥ 256))
  (Option.bind (idx ([0, 1, 2, 2, 3, 3, 3, 3, 4, 4, 4, 4, 4, 4, 4, 4, 5, 5, 5, 5, 5, 5, 5, 5, 5, 5, 5, 5, 5, 5, 5, 5, 6, 6, 6, 6, 6, 6, 6, 6, 6, 6, 6, 6, 6, 6, 6, 6, 6, 6, 6, 6, 6, 6, 6, 6, 6, 6, 6, 6, 6, 6, 6, 6, 7, 7, 7, 7, 7, 7, 7, 7, 7, 7, 7, 7, 7, 7, 7, 7, 7, 7, 7, 7, 7, 7, 7, 7, 7, 7, 7, 7, 7, 7, 7, 7, 7, 7, 7, 7, 7, 7, 7, 7, 7, 7, 7, 7, 7, 7, 7, 7, 7, 7, 7, 7, 7, 7, 7, 7, 7, 7, 7, 7, 7, 7, 7, 7, 8, 8, 8, 8, 8, 8, 8, 8, 8, 8, 8, 8, 8, 8, 8, 8, 8, 8, 8, 8, 8, 8, 8, 8, 8, 8, 8, 8, 8, 8, 8, 8, 8, 8, 8, 8, 8, 8, 8, 8, 8, 8, 8, 8, 8, 8, 8, 8, 8, 8, 8, 8, 8, 8, 8, 8, 8, 8, 8, 8, 8, 8, 8, 8, 8, 8, 8, 8, 8, 8, 8, 8, 8, 8, 8, 8, 8, 8, 8, 8, 8, 8, 8, 8, 8, 8, 8, 8, 8, 8, 8, 8, 8, 8, 8, 8, 8, 8, 8, 8, 8, 8, 8, 8, 8, 8, 8, 8, 8, 8, 8, 8, 8, 8, 8, 8, 8, 8, 8, 8, 8, 8, 8, 8, 8, 8, 8, 8] : List UInt8) (((shr64 (shr64 x_ 16) 8).toUInt8).toNat : Int)) fun c4 =>
  some (24 + (c4.toNat : Int)))
  (Option.bind (idx ([0, 1, 2, 2, 3, 3, 3, 3, 4, 4, 4, 4, 4, 4, 4, 4, 5, 5, 5, 5, 5, 5, 5, 5, 5, 5, 5, 5, 5, 5, 5, 5, 6, 6, 6, 6, 6, 6, 6, 6, 6, 6, 6, 6, 6, 6, 6, 6, 6, 6, 6, 6, 6, 6, 6, 6, 6, 6, 6, 6, 6, 6, 6, 6, 7, 7, 7, 7, 7, 7, 7, 7, 7, 7, 7, 7, 7, 7, 7, 7, 7, 7, 7, 7, 7, 7, 7, 7, 7, 7, 7, 7, 7, 7, 7, 7, 7, 7, 7, 7, 7, 7, 7, 7, 7, 7, 7, 7, 7, 7, 7, 7, 7, 7, 7, 7, 7, 7, 7, 7, 7, 7, 7, 7, 7, 7, 7, 7, 8, 8, 8, 8, 8, 8, 8, 8, 8, 8, 8, 8, 8, 8, 8, 8, 8, 8, 8, 8, 8, 8, 8, 8, 8, 8, 8, 8, 8, 8, 8, 8, 8, 8, 8, 8, 8, 8, 8, 8, 8, 8, 8, 8, 8, 8, 8, 8, 8, 8, 8, 8, 8, 8, 8, 8, 8, 8, 8, 8, 8, 8, 8, 8, 8, 8, 8, 8, 8, 8, 8, 8, 8, 8, 8, 8, 8, 8, 8, 8, 8, 8, 8, 8, 8, 8, 8, 8, 8, 8, 8, 8, 8, 8, 8, 8, 8, 8, 8, 8, 8, 8, 8, 8, 8, 8, 8, 8, 8, 8, 8, 8, 8, 8, 8, 8, 8, 8, 8, 8, 8, 8, 8, 8, 8, 8, 8, 8] : List UInt8) (((shr64 x_ 16).toUInt8).toNat : Int)) fun c5 =>
  some (16 + (c5.toNat : Int))))
  (cond (decide ((x_.toNat : Int) ≥ 256))
  (Option.bind (idx ([0, 1, 2, 2, 3, 3, 3, 3, 4, 4, 4, 4, 4, 4, 4, 4, 5, 5, 5, 5, 5, 5, 5, 5, 5, 5, 5, 5, 5, 5, 5, 5, 6, 6, 6, 6, 6, 6, 6, 6, 6, 6, 6, 6, 6, 6, 6, 6, 6, 6, 6, 6, 6, 6, 6, 6, 6, 6, 6, 6, 6, 6, 6, 6, 7, 7, 7, 7, 7, 7, 7, 7, 7, 7, 7, 7, 7, 7, 7, 7, 7, 7, 7, 7, 7, 7, 7, 7, 7, 7, 7, 7, 7, 7, 7, 7, 7, 7, 7, 7, 7, 7, 7, 7, 7, 7, 7, 7, 7, 7, 7, 7, 7, 7, 7, 7, 7, 7, 7, 7, 7, 7, 7, 7, 7, 7, 7, 7, 8, 8, 8, 8, 8, 8, 8, 8, 8, 8, 8, 8, 8, 8, 8, 8, 8, 8, 8, 8, 8, 8, 8, 8, 8, 8, 8, 8, 8, 8, 8, 8, 8, 8, 8, 8, 8, 8, 8, 8, 8, 8, 8, 8, 8, 8, 8, 8, 8, 8, 8, 8, 8, 8, 8, 8, 8, 8, 8, 8, 8, 8, 8, 8, 8, 8, 8, 8, 8, 8, 8, 8, 8, 8, 8, 8, 8, 8, 8, 8, 8, 8, 8, 8, 8, 8, 8, 8, 8, 8, 8, 8, 8, 8, 8, 8, 8, 8, 8, 8, 8, 8, 8, 8, 8, 8, 8, 8, 8, 8, 8, 8, 8, 8, 8, 8, 8, 8, 8, 8, 8, 8, 8, 8, 8, 8, 8, 8] : List UInt8) (((shr64 x_ 8).toUInt8).toNat : Int)) fun c6 =>
  some (8 + (c6.toNat : Int)))
  (Option.bind (idx ([0, 1, 2, 2, 3, 3, 3, 3, 4, 4, 4, 4, 4, 4, 4, 4, 5, 5, 5, 5, 5, 5, 5, 5, 5, 5, 5, 5, 5, 5, 5, 5, 6, 6, 6, 6, 6, 6, 6, 6, 6, 6, 6, 6, 6, 6, 6, 6, 6, 6, 6, 6, 6, 6, 6, 6, 6, 6, 6, 6, 6, 6, 6, 6, 7, 7, 7, 7, 7, 7, 7, 7, 7, 7, 7, 7, 7, 7, 7, 7, 7, 7, 7, 7, 7, 7, 7, 7, 7, 7, 7, 7, 7, 7, 7, 7, 7, 7, 7, 7, 7, 7, 7, 7, 7, 7, 7, 7, 7, 7, 7, 7, 7, 7, 7, 7, 7, 7, 7, 7, 7, 7, 7, 7, 7, 7, 7, 7, 8, 8, 8, 8, 8, 8, 8, 8, 8, 8, 8, 8, 8, 8, 8, 8, 8, 8, 8, 8, 8, 8, 8, 8, 8, 8, 8, 8, 8, 8, 8, 8, 8, 8, 8, 8, 8, 8, 8, 8, 8, 8, 8, 8, 8, 8, 8, 8, 8, 8, 8, 8, 8, 8, 8, 8, 8, 8, 8, 8, 8, 8, 8, 8, 8, 8, 8, 8, 8, 8, 8, 8, 8, 8, 8, 8, 8, 8, 8, 8, 8, 8, 8, 8, 8, 8, 8, 8, 8, 8, 8, 8, 8, 8, 8, 8, 8, 8, 8, 8, 8, 8, 8, 8, 8, 8, 8, 8, 8, 8, 8, 8, 8, 8, 8, 8, 8, 8, 8, 8, 8, 8, 8, 8, 8, 8, 8, 8] : List UInt8) (x_.toUInt8.toNat : Int)) fun c7 =>
  some (0 + (c7.toNat : Int)))))
def internal_strconv_log10Pow2 (x_ : Int) : Int :=
  (shrI (IntKind.i64.wrap (x_ * 78913)) 18)
def internal_strconv_bool2 (b : Bool) : Int :=
  cond b
  (1)
  (0)
noncomputable def internal_strconv_numDigits (d : UInt64) : Option Int :=
  Option.bind (math_bits_Len64 d) fun len64 =>
  Option.bind (idx tab0 (internal_strconv_log10Pow2 len64)) fun x_ =>
  some (IntKind.i64.wrap ((internal_strconv_log10Pow2 len64) + (internal_strconv_bool2 (decide ((d.toNat : Int) ≥ (x_.toNat : Int))))))
noncomputable def internal_strconv_formatBase10_l1 (len : Nat) (a1 : (List UInt8)) (u1 : UInt64) (nd : Int) : Option (Sum ((List UInt8) × UInt64 × Int) ((List UInt8) × UInt64 × Int)) :=
  cond (decide (nd ≥ 8))
  (Option.bind (idx ([48, 48, 48, 49, 48, 50, 48, 51, 48, 52, 48, 53, 48, 54, 48, 55, 48, 56, 48, 57, 49, 48, 49, 49, 49, 50, 49, 51, 49, 52, 49, 53, 49, 54, 49, 55, 49, 56, 49, 57, 50, 48, 50, 49, 50, 50, 50, 51, 50, 52, 50, 53, 50, 54, 50, 55, 50, 56, 50, 57, 51, 48, 51, 49, 51, 50, 51, 51, 51, 52, 51, 53, 51, 54, 51, 55, 51, 56, 51, 57, 52, 48, 52, 49, 52, 50, 52, 51, 52, 52, 52, 53, 52, 54, 52, 55, 52, 56, 52, 57, 53, 48, 53, 49, 53, 50, 53, 51, 53, 52, 53, 53, 53, 54, 53, 55, 53, 56, 53, 57, 54, 48, 54, 49, 54, 50, 54, 51, 54, 52, 54, 53, 54, 54, 54, 55, 54, 56, 54, 57, 55, 48, 55, 49, 55, 50, 55, 51, 55, 52, 55, 53, 55, 54, 55, 55, 55, 56, 55, 57, 56, 48, 56, 49, 56, 50, 56, 51, 56, 52, 56, 53, 56, 54, 56, 55, 56, 56, 56, 57, 57, 48, 57, 49, 57, 50, 57, 51, 57, 52, 57, 53, 57, 54, 57, 55, 57, 56, 57, 57] : List UInt8) ((UInt32.ofInt (((UInt32.ofInt ((Int.tmod (Int.tmod ((UInt32.ofInt ((u1 % (100000000 : UInt64)).toNat : Int)).toNat : Int) 10000) 100) * 2)).toNat : Int) + 1)).toNat : Int)) fun c =>
  Option.bind (idx ([48, 48, 48, 49, 48, 50, 48, 51, 48, 52, 48, 53, 48, 54, 48, 55, 48, 56, 48, 57, 49, 48, 49, 49, 49, 50, 49, 51, 49, 52, 49, 53, 49, 54, 49, 55, 49, 56, 49, 57, 50, 48, 50, 49, 50, 50, 50, 51, 50, 52, 50, 53, 50, 54, 50, 55, 50, 56, 50, 57, 51, 48, 51, 49, 51, 50, 51, 51, 51, 52, 51, 53, 51, 54, 51, 55, 51, 56, 51, 57, 52, 48, 52, 49, 52, 50, 52, 51, 52, 52, 52, 53, 52, 54, 52, 55, 52, 56, 52, 57, 53, 48, 53, 49, 53, 50, 53, 51, 53, 52, 53, 53, 53, 54, 53, 55, 53, 56, 53, 57, 54, 48, 54, 49, 54, 50, 54, 51, 54, 52, 54, 53, 54, 54, 54, 55, 54, 56, 54, 57, 55, 48, 55, 49, 55, 50, 55, 51, 55, 52, 55, 53, 55, 54, 55, 55, 55, 56, 55, 57, 56, 48, 56, 49, 56, 50, 56, 51, 56, 52, 56, 53, 56, 54, 56, 55, 56, 56, 56, 57, 57, 48, 57, 49, 57, 50, 57, 51, 57, 52, 57, 53, 57, 54, 57, 55, 57, 56, 57, 57] : List UInt8) ((UInt32.ofInt ((Int.tmod (Int.tmod ((UInt32.ofInt ((u1 % (100000000 : UInt64)).toNat : Int)).toNat : Int) 10000) 100) * 2)).toNat : Int)) fun c1 =>
  Option.bind (idx a1 (IntKind.i64.wrap (nd - 1))) fun x_ =>
  Option.bind (chk (decide ((IntKind.i64.wrap (nd - 1)) < (len : Int)))) fun _ =>
  Option.bind (idx (a1.set ((IntKind.i64.wrap (nd - 1)).toNat) c) (IntKind.i64.wrap (nd - 2))) fun x_1 =>
  Option.bind (chk (decide ((IntKind.i64.wrap (nd - 2)) < (len : Int)))) fun _ =>
  Option.bind (idx ([48, 48, 48, 49, 48, 50, 48, 51, 48, 52, 48, 53, 48, 54, 48, 55, 48, 56, 48, 57, 49, 48, 49, 49, 49, 50, 49, 51, 49, 52, 49, 53, 49, 54, 49, 55, 49, 56, 49, 57, 50, 48, 50, 49, 50, 50, 50, 51, 50, 52, 50, 53, 50, 54, 50, 55, 50, 56, 50, 57, 51, 48, 51, 49, 51, 50, 51, 51, 51, 52, 51, 53, 51, 54, 51, 55, 51, 56, 51, 57, 52, 48, 52, 49, 52, 50, 52, 51, 52, 52, 52, 53, 52, 54, 52, 55, 52, 56, 52, 57, 53, 48, 53, 49, 53, 50, 53, 51, 53, 52, 53, 53, 53, 54, 53, 55, 53, 56, 53, 57, 54, 48, 54, 49, 54, 50, 54, 51, 54, 52, 54, 53, 54, 54, 54, 55, 54, 56, 54, 57, 55, 48, 55, 49, 55, 50, 55, 51, 55, 52, 55, 53, 55, 54, 55, 55, 55, 56, 55, 57, 56, 48, 56, 49, 56, 50, 56, 51, 56, 52, 56, 53, 56, 54, 56, 55, 56, 56, 56, 57, 57, 48, 57, 49, 57, 50, 57, 51, 57, 52, 57, 53, 57, 54, 57, 55, 57, 56, 57, 57] : List UInt8) ((UInt32.ofInt (((UInt32.ofInt (((UInt32.ofInt (Int.tdiv (Int.tmod ((UInt32.ofInt ((u1 % (100000000 : UInt64)).toNat : Int)).toNat : Int) 10000) 100)).toNat : Int) * 2)).toNat : Int) + 1)).toNat : Int)) fun c2 =>
  Option.bind (idx ([48, 48, 48, 49, 48, 50, 48, 51, 48, 52, 48, 53, 48, 54, 48, 55, 48, 56, 48, 57, 49, 48, 49, 49, 49, 50, 49, 51, 49, 52, 49, 53, 49, 54, 49, 55, 49, 56, 49, 57, 50, 48, 50, 49, 50, 50, 50, 51, 50, 52, 50, 53, 50, 54, 50, 55, 50, 56, 50, 57, 51, 48, 51, 49, 51, 50, 51, 51, 51, 52, 51, 53, 51, 54, 51, 55, 51, 56, 51, 57, 52, 48, 52, 49, 52, 50, 52, 51, 52, 52, 52, 53, 52, 54, 52, 55, 52, 56, 52, 57, 53, 48, 53, 49, 53, 50, 53, 51, 53, 52, 53, 53, 53, 54, 53, 55, 53, 56, 53, 57, 54, 48, 54, 49, 54, 50, 54, 51, 54, 52, 54, 53, 54, 54, 54, 55, 54, 56, 54, 57, 55, 48, 55, 49, 55, 50, 55, 51, 55, 52, 55, 53, 55, 54, 55, 55, 55, 56, 55, 57, 56, 48, 56, 49, 56, 50, 56, 51, 56, 52, 56, 53, 56, 54, 56, 55, 56, 56, 56, 57, 57, 48, 57, 49, 57, 50, 57, 51, 57, 52, 57, 53, 57, 54, 57, 55, 57, 56, 57, 57] : List UInt8) ((UInt32.ofInt (((UInt32.ofInt (Int.tdiv (Int.tmod ((UInt32.ofInt ((u1 % (100000000 : UInt64)).toNat : Int)).toNat : Int) 10000) 100)).toNat : Int) * 2)).toNat : Int)) fun c3 =>
  Option.bind (idx ((a1.set ((IntKind.i64.wrap (nd - 1)).toNat) c).set ((IntKind.i64.wrap (nd - 2)).toNat) c1) (IntKind.i64.wrap (nd - 3))) fun x_2 =>
  Option.bind (chk (decide ((IntKind.i64.wrap (nd - 3)) < (len : Int)))) fun _ =>
  Option.bind (idx (((a1.set ((IntKind.i64.wrap (nd - 1)).toNat) c).set ((IntKind.i64.wrap (nd - 2)).toNat) c1).set ((IntKind.i64.wrap (nd - 3)).toNat) c2) (IntKind.i64.wrap (nd - 4))) fun x_3 =>
  Option.bind (chk (decide ((IntKind.i64.wrap (nd - 4)) < (len : Int)))) fun _ =>
  Option.bind (idx ([48, 48, 48, 49, 48, 50, 48, 51, 48, 52, 48, 53, 48, 54, 48, 55, 48, 56, 48, 57, 49, 48, 49, 49, 49, 50, 49, 51, 49, 52, 49, 53, 49, 54, 49, 55, 49, 56, 49, 57, 50, 48, 50, 49, 50, 50, 50, 51, 50, 52, 50, 53, 50, 54, 50, 55, 50, 56, 50, 57, 51, 48, 51, 49, 51, 50, 51, 51, 51, 52, 51, 53, 51, 54, 51, 55, 51, 56, 51, 57, 52, 48, 52, 49, 52, 50, 52, 51, 52, 52, 52, 53, 52, 54, 52, 55, 52, 56, 52, 57, 53, 48, 53, 49, 53, 50, 53, 51, 53, 52, 53, 53, 53, 54, 53, 55, 53, 56, 53, 57, 54, 48, 54, 49, 54, 50, 54, 51, 54, 52, 54, 53, 54, 54, 54, 55, 54, 56, 54, 57, 55, 48, 55, 49, 55, 50, 55, 51, 55, 52, 55, 53, 55, 54, 55, 55, 55, 56, 55, 57, 56, 48, 56, 49, 56, 50, 56, 51, 56, 52, 56, 53, 56, 54, 56, 55, 56, 56, 56, 57, 57, 48, 57, 49, 57, 50, 57, 51, 57, 52, 57, 53, 57, 54, 57, 55, 57, 56, 57, 57] : List UInt8) ((UInt32.ofInt (((UInt32.ofInt ((Int.tmod ((UInt32.ofInt (Int.tdiv ((UInt32.ofInt ((u1 % (100000000 : UInt64)).toNat : Int)).toNat : Int) 10000)).toNat : Int) 100) * 2)).toNat : Int) + 1)).toNat : Int)) fun c4 =>
  Option.bind (idx ([48, 48, 48, 49, 48, 50, 48, 51, 48, 52, 48, 53, 48, 54, 48, 55, 48, 56, 48, 57, 49, 48, 49, 49, 49, 50, 49, 51, 49, 52, 49, 53, 49, 54, 49, 55, 49, 56, 49, 57, 50, 48, 50, 49, 50, 50, 50, 51, 50, 52, 50, 53, 50, 54, 50, 55, 50, 56, 50, 57, 51, 48, 51, 49, 51, 50, 51, 51, 51, 52, 51, 53, 51, 54, 51, 55, 51, 56, 51, 57, 52, 48, 52, 49, 52, 50, 52, 51, 52, 52, 52, 53, 52, 54, 52, 55, 52, 56, 52, 57, 53, 48, 53, 49, 53, 50, 53, 51, 53, 52, 53, 53, 53, 54, 53, 55, 53, 56, 53, 57, 54, 48, 54, 49, 54, 50, 54, 51, 54, 52, 54, 53, 54, 54, 54, 55, 54, 56, 54, 57, 55, 48, 55, 49, 55, 50, 55, 51, 55, 52, 55, 53, 55, 54, 55, 55, 55, 56, 55, 57, 56, 48, 56, 49, 56, 50, 56, 51, 56, 52, 56, 53, 56, 54, 56, 55, 56, 56, 56, 57, 57, 48, 57, 49, 57, 50, 57, 51, 57, 52, 57, 53, 57, 54, 57, 55, 57, 56, 57, 57] : List UInt8) ((UInt32.ofInt ((Int.tmod ((UInt32.ofInt (Int.tdiv ((UInt32.ofInt ((u1 % (100000000 : UInt64)).toNat : Int)).toNat : Int) 10000)).toNat : Int) 100) * 2)).toNat : Int)) fun c5 =>
  Option.bind (idx ((((a1.set ((IntKind.i64.wrap (nd - 1)).toNat) c).set ((IntKind.i64.wrap (nd - 2)).toNat) c1).set ((IntKind.i64.wrap (nd - 3)).toNat) c2).set ((IntKind.i64.wrap (nd - 4)).toNat) c3) (IntKind.i64.wrap (nd - 5))) fun x_4 =>
  Option.bind (chk (decide ((IntKind.i64.wrap (nd - 5)) < (len : Int)))) fun _ =>
  Option.bind (idx (((((a1.set ((IntKind.i64.wrap (nd - 1)).toNat) c).set ((IntKind.i64.wrap (nd - 2)).toNat) c1).set ((IntKind.i64.wrap (nd - 3)).toNat) c2).set ((IntKind.i64.wrap (nd - 4)).toNat) c3).set ((IntKind.i64.wrap (nd - 5)).toNat) c4) (IntKind.i64.wrap (nd - 6))) fun x_5 =>
  Option.bind (chk (decide ((IntKind.i64.wrap (nd - 6)) < (len : Int)))) fun _ =>
  Option.bind (idx ([48, 48, 48, 49, 48, 50, 48, 51, 48, 52, 48, 53, 48, 54, 48, 55, 48, 56, 48, 57, 49, 48, 49, 49, 49, 50, 49, 51, 49, 52, 49, 53, 49, 54, 49, 55, 49, 56, 49, 57, 50, 48, 50, 49, 50, 50, 50, 51, 50, 52, 50, 53, 50, 54, 50, 55, 50, 56, 50, 57, 51, 48, 51, 49, 51, 50, 51, 51, 51, 52, 51, 53, 51, 54, 51, 55, 51, 56, 51, 57, 52, 48, 52, 49, 52, 50, 52, 51, 52, 52, 52, 53, 52, 54, 52, 55, 52, 56, 52, 57, 53, 48, 53, 49, 53, 50, 53, 51, 53, 52, 53, 53, 53, 54, 53, 55, 53, 56, 53, 57, 54, 48, 54, 49, 54, 50, 54, 51, 54, 52, 54, 53, 54, 54, 54, 55, 54, 56, 54, 57, 55, 48, 55, 49, 55, 50, 55, 51, 55, 52, 55, 53, 55, 54, 55, 55, 55, 56, 55, 57, 56, 48, 56, 49, 56, 50, 56, 51, 56, 52, 56, 53, 56, 54, 56, 55, 56, 56, 56, 57, 57, 48, 57, 49, 57, 50, 57, 51, 57, 52, 57, 53, 57, 54, 57, 55, 57, 56, 57, 57] : List UInt8) ((UInt32.ofInt (((UInt32.ofInt (((UInt32.ofInt (Int.tdiv ((UInt32.ofInt (Int.tdiv ((UInt32.ofInt ((u1 % (100000000 : UInt64)).toNat : Int)).toNat : Int) 10000)).toNat : Int) 100)).toNat : Int) * 2)).toNat : Int) + 1)).toNat : Int)) fun c6 =>
  Option.bind (idx ([48, 48, 48, 49, 48, 50, 48, 51, 48, 52, 48, 53, 48, 54, 48, 55, 48, 56, 48, 57, 49, 48, 49, 49, 49, 50, 49, 51, 49, 52, 49, 53, 49, 54, 49, 55, 49, 56, 49, 57, 50, 48, 50, 49, 50, 50, 50, 51, 50, 52, 50, 53, 50, 54, 50, 55, 50, 56, 50, 57, 51, 48, 51, 49, 51, 50, 51, 51, 51, 52, 51, 53, 51, 54, 51, 55, 51, 56, 51, 57, 52, 48, 52, 49, 52, 50, 52, 51, 52, 52, 52, 53, 52, 54, 52, 55, 52, 56, 52, 57, 53, 48, 53, 49, 53, 50, 53, 51, 53, 52, 53, 53, 53, 54, 53, 55, 53, 56, 53, 57, 54, 48, 54, 49, 54, 50, 54, 51, 54, 52, 54, 53, 54, 54, 54, 55, 54, 56, 54, 57, 55, 48, 55, 49, 55, 50, 55, 51, 55, 52, 55, 53, 55, 54, 55, 55, 55, 56, 55, 57, 56, 48, 56, 49, 56, 50, 56, 51, 56, 52, 56, 53, 56, 54, 56, 55, 56, 56, 56, 57, 57, 48, 57, 49, 57, 50, 57, 51, 57, 52, 57, 53, 57, 54, 57, 55, 57, 56, 57, 57] : List UInt8) ((UInt32.ofInt (((UInt32.ofInt (Int.tdiv ((UInt32.ofInt (Int.tdiv ((UInt32.ofInt ((u1 % (100000000 : UInt64)).toNat : Int)).toNat : Int) 10000)).toNat : Int) 100)).toNat : Int) * 2)).toNat : Int)) fun c7 =>
  Option.bind (idx ((((((a1.set ((IntKind.i64.wrap (nd - 1)).toNat) c).set ((IntKind.i64.wrap (nd - 2)).toNat) c1).set ((IntKind.i64.wrap (nd - 3)).toNat) c2).set ((IntKind.i64.wrap (nd - 4)).toNat) c3).set ((IntKind.i64.wrap (nd - 5)).toNat) c4).set ((IntKind.i64.wrap (nd - 6)).toNat) c5) (IntKind.i64.wrap (nd - 7))) fun x_6 =>
  Option.bind (chk (decide ((IntKind.i64.wrap (nd - 7)) < (len : Int)))) fun _ =>
  Option.bind (idx (((((((a1.set ((IntKind.i64.wrap (nd - 1)).toNat) c).set ((IntKind.i64.wrap (nd - 2)).toNat) c1).set ((IntKind.i64.wrap (nd - 3)).toNat) c2).set ((IntKind.i64.wrap (nd - 4)).toNat) c3).set ((IntKind.i64.wrap (nd - 5)).toNat) c4).set ((IntKind.i64.wrap (nd - 6)).toNat) c5).set ((IntKind.i64.wrap (nd - 7)).toNat) c6) (IntKind.i64.wrap (nd - 8))) fun x_7 =>
  Option.bind (chk (decide ((IntKind.i64.wrap (nd - 8)) < (len : Int)))) fun _ =>
  some (.inl (((((((((a1.set ((IntKind.i64.wrap (nd - 1)).toNat) c).set ((IntKind.i64.wrap (nd - 2)).toNat) c1).set ((IntKind.i64.wrap (nd - 3)).toNat) c2).set ((IntKind.i64.wrap (nd - 4)).toNat) c3).set ((IntKind.i64.wrap (nd - 5)).toNat) c4).set ((IntKind.i64.wrap (nd - 6)).toNat) c5).set ((IntKind.i64.wrap (nd - 7)).toNat) c6).set ((IntKind.i64.wrap (nd - 8)).toNat) c7), (u1 / (100000000 : UInt64)), (IntKind.i64.wrap (nd - 8)))))
  (some (.inr (a1, u1, nd)))
noncomputable def internal_strconv_formatBase10 (a : (List UInt8)) (len : Nat) (u : UInt64) : Option (List UInt8) :=
  Option.bind
  (loopO (fun s => internal_strconv_formatBase10_l1 len s.1 s.2.1 s.2.2) (a, u, (len : Int))) fun (a1, u1, nd) =>
  cond (decide (nd ≥ 4))
  (Option.bind (idx ([48, 48, 48, 49, 48, 50, 48, 51, 48, 52, 48, 53, 48, 54, 48, 55, 48, 56, 48, 57, 49, 48, 49, 49, 49, 50, 49, 51, 49, 52, 49, 53, 49, 54, 49, 55, 49, 56, 49, 57, 50, 48, 50, 49, 50, 50, 50, 51, 50, 52, 50, 53, 50, 54, 50, 55, 50, 56, 50, 57, 51, 48, 51, 49, 51, 50, 51, 51, 51, 52, 51, 53, 51, 54, 51, 55, 51, 56, 51, 57, 52, 48, 52, 49, 52, 50, 52, 51, 52, 52, 52, 53, 52, 54, 52, 55, 52, 56, 52, 57, 53, 48, 53, 49, 53, 50, 53, 51, 53, 52, 53, 53, 53, 54, 53, 55, 53, 56, 53, 57, 54, 48, 54, 49, 54, 50, 54, 51, 54, 52, 54, 53, 54, 54, 54, 55, 54, 56, 54, 57, 55, 48, 55, 49, 55, 50, 55, 51, 55, 52, 55, 53, 55, 54, 55, 55, 55, 56, 55, 57, 56, 48, 56, 49, 56, 50, 56, 51, 56, 52, 56, 53, 56, 54, 56, 55, 56, 56, 56, 57, 57, 48, 57, 49, 57, 50, 57, 51, 57, 52, 57, 53, 57, 54, 57, 55, 57, 56, 57, 57] : List UInt8) ((UInt32.ofInt (((UInt32.ofInt ((Int.tmod (Int.tmod ((UInt32.ofInt (u1.toNat : Int)).toNat : Int) 10000) 100) * 2)).toNat : Int) + 1)).toNat : Int)) fun c8 =>
  Option.bind (idx ([48, 48, 48, 49, 48, 50, 48, 51, 48, 52, 48, 53, 48, 54, 48, 55, 48, 56, 48, 57, 49, 48, 49, 49, 49, 50, 49, 51, 49, 52, 49, 53, 49, 54, 49, 55, 49, 56, 49, 57, 50, 48, 50, 49, 50, 50, 50, 51, 50, 52, 50, 53, 50, 54, 50, 55, 50, 56, 50, 57, 51, 48, 51, 49, 51, 50, 51, 51, 51, 52, 51, 53, 51, 54, 51, 55, 51, 56, 51, 57, 52, 48, 52, 49, 52, 50, 52, 51, 52, 52, 52, 53, 52, 54, 52, 55, 52, 56, 52, 57, 53, 48, 53, 49, 53, 50, 53, 51, 53, 52, 53, 53, 53, 54, 53, 55, 53, 56, 53, 57, 54, 48, 54, 49, 54, 50, 54, 51, 54, 52, 54, 53, 54, 54, 54, 55, 54, 56, 54, 57, 55, 48, 55, 49, 55, 50, 55, 51, 55, 52, 55, 53, 55, 54, 55, 55, 55, 56, 55, 57, 56, 48, 56, 49, 56, 50, 56, 51, 56, 52, 56, 53, 56, 54, 56, 55, 56, 56, 56, 57, 57, 48, 57, 49, 57, 50, 57, 51, 57, 52, 57, 53, 57, 54, 57, 55, 57, 56, 57, 57] : List UInt8) ((UInt32.ofInt ((Int.tmod (Int.tmod ((UInt32.ofInt (u1.toNat : Int)).toNat : Int) 10000) 100) * 2)).toNat : Int)) fun c9 =>
  Option.bind (idx a1 (IntKind.i64.wrap (nd - 1))) fun x_8 =>
  Option.bind (chk (decide ((IntKind.i64.wrap (nd - 1)) < (len : Int)))) fun _ =>
  Option.bind (idx (a1.set ((IntKind.i64.wrap (nd - 1)).toNat) c8) (IntKind.i64.wrap (nd - 2))) fun x_9 =>
  Option.bind (chk (decide ((IntKind.i64.wrap (nd - 2)) < (len : Int)))) fun _ =>
  Option.bind (idx ([48, 48, 48, 49, 48, 50, 48, 51, 48, 52, 48, 53, 48, 54, 48, 55, 48, 56, 48, 57, 49, 48, 49, 49, 49, 50, 49, 51, 49, 52, 49, 53, 49, 54, 49, 55, 49, 56, 49, 57, 50, 48, 50, 49, 50, 50, 50, 51, 50, 52, 50, 53, 50, 54, 50, 55, 50, 56, 50, 57, 51, 48, 51, 49, 51, 50, 51, 51, 51, 52, 51, 53, 51, 54, 51, 55, 51, 56, 51, 57, 52, 48, 52, 49, 52, 50, 52, 51, 52, 52, 52, 53, 52, 54, 52, 55, 52, 56, 52, 57, 53, 48, 53, 49, 53, 50, 53, 51, 53, 52, 53, 53, 53, 54, 53, 55, 53, 56, 53, 57, 54, 48, 54, 49, 54, 50, 54, 51, 54, 52, 54, 53, 54, 54, 54, 55, 54, 56, 54, 57, 55, 48, 55, 49, 55, 50, 55, 51, 55, 52, 55, 53, 55, 54, 55, 55, 55, 56, 55, 57, 56, 48, 56, 49, 56, 50, 56, 51, 56, 52, 56, 53, 56, 54, 56, 55, 56, 56, 56, 57, 57, 48, 57, 49, 57, 50, 57, 51, 57, 52, 57, 53, 57, 54, 57, 55, 57, 56, 57, 57] : List UInt8) ((UInt32.ofInt (((UInt32.ofInt (((UInt32.ofInt (Int.tdiv (Int.tmod ((UInt32.ofInt (u1.toNat : Int)).toNat : Int) 10000) 100)).toNat : Int) * 2)).toNat : Int) + 1)).toNat : Int)) fun c10 =>
  Option.bind (idx ([48, 48, 48, 49, 48, 50, 48, 51, 48, 52, 48, 53, 48, 54, 48, 55, 48, 56, 48, 57, 49, 48, 49, 49, 49, 50, 49, 51, 49, 52, 49, 53, 49, 54, 49, 55, 49, 56, 49, 57, 50, 48, 50, 49, 50, 50, 50, 51, 50, 52, 50, 53, 50, 54, 50, 55, 50, 56, 50, 57, 51, 48, 51, 49, 51, 50, 51, 51, 51, 52, 51, 53, 51, 54, 51, 55, 51, 56, 51, 57, 52, 48, 52, 49, 52, 50, 52, 51, 52, 52, 52, 53, 52, 54, 52, 55, 52, 56, 52, 57, 53, 48, 53, 49, 53, 50, 53, 51, 53, 52, 53, 53, 53, 54, 53, 55, 53, 56, 53, 57, 54, 48, 54, 49, 54, 50, 54, 51, 54, 52, 54, 53, 54, 54, 54, 55, 54, 56, 54, 57, 55, 48, 55, 49, 55, 50, 55, 51, 55, 52, 55, 53, 55, 54, 55, 55, 55, 56, 55, 57, 56, 48, 56, 49, 56, 50, 56, 51, 56, 52, 56, 53, 56, 54, 56, 55, 56, 56, 56, 57, 57, 48, 57, 49, 57, 50, 57, 51, 57, 52, 57, 53, 57, 54, 57, 55, 57, 56, 57, 57] : List UInt8) ((UInt32.ofInt (((UInt32.ofInt (Int.tdiv (Int.tmod ((UInt32.ofInt (u1.toNat : Int)).toNat : Int) 10000) 100)).toNat : Int) * 2)).toNat : Int)) fun c11 =>
  Option.bind (idx ((a1.set ((IntKind.i64.wrap (nd - 1)).toNat) c8).set ((IntKind.i64.wrap (nd - 2)).toNat) c9) (IntKind.i64.wrap (nd - 3))) fun x_10 =>
  Option.bind (chk (decide ((IntKind.i64.wrap (nd - 3)) < (len : Int)))) fun _ =>
  Option.bind (idx (((a1.set ((IntKind.i64.wrap (nd - 1)).toNat) c8).set ((IntKind.i64.wrap (nd - 2)).toNat) c9).set ((IntKind.i64.wrap (nd - 3)).toNat) c10) (IntKind.i64.wrap (nd - 4))) fun x_11 =>
  Option.bind (chk (decide ((IntKind.i64.wrap (nd - 4)) < (len : Int)))) fun _ =>
  cond (decide ((IntKind.i64.wrap (nd - 4)) ≥ 2))
  (Option.bind (idx ([48, 48, 48, 49, 48, 50, 48, 51, 48, 52, 48, 53, 48, 54, 48, 55, 48, 56, 48, 57, 49, 48, 49, 49, 49, 50, 49, 51, 49, 52, 49, 53, 49, 54, 49, 55, 49, 56, 49, 57, 50, 48, 50, 49, 50, 50, 50, 51, 50, 52, 50, 53, 50, 54, 50, 55, 50, 56, 50, 57, 51, 48, 51, 49, 51, 50, 51, 51, 51, 52, 51, 53, 51, 54, 51, 55, 51, 56, 51, 57, 52, 48, 52, 49, 52, 50, 52, 51, 52, 52, 52, 53, 52, 54, 52, 55, 52, 56, 52, 57, 53, 48, 53, 49, 53, 50, 53, 51, 53, 52, 53, 53, 53, 54, 53, 55, 53, 56, 53, 57, 54, 48, 54, 49, 54, 50, 54, 51, 54, 52, 54, 53, 54, 54, 54, 55, 54, 56, 54, 57, 55, 48, 55, 49, 55, 50, 55, 51, 55, 52, 55, 53, 55, 54, 55, 55, 55, 56, 55, 57, 56, 48, 56, 49, 56, 50, 56, 51, 56, 52, 56, 53, 56, 54, 56, 55, 56, 56, 56, 57, 57, 48, 57, 49, 57, 50, 57, 51, 57, 52, 57, 53, 57, 54, 57, 55, 57, 56, 57, 57] : List UInt8) ((UInt32.ofInt (((UInt32.ofInt ((Int.tmod ((UInt32.ofInt (Int.tdiv ((UInt32.ofInt (u1.toNat : Int)).toNat : Int) 10000)).toNat : Int) 100) * 2)).toNat : Int) + 1)).toNat : Int)) fun c12 =>
  Option.bind (idx ([48, 48, 48, 49, 48, 50, 48, 51, 48, 52, 48, 53, 48, 54, 48, 55, 48, 56, 48, 57, 49, 48, 49, 49, 49, 50, 49, 51, 49, 52, 49, 53, 49, 54, 49, 55, 49, 56, 49, 57, 50, 48, 50, 49, 50, 50, 50, 51, 50, 52, 50, 53, 50, 54, 50, 55, 50, 56, 50, 57, 51, 48, 51, 49, 51, 50, 51, 51, 51, 52, 51, 53, 51, 54, 51, 55, 51, 56, 51, 57, 52, 48, 52, 49, 52, 50, 52, 51, 52, 52, 52, 53, 52, 54, 52, 55, 52, 56, 52, 57, 53, 48, 53, 49, 53, 50, 53, 51, 53, 52, 53, 53, 53, 54, 53, 55, 53, 56, 53, 57, 54, 48, 54, 49, 54, 50, 54, 51, 54, 52, 54, 53, 54, 54, 54, 55, 54, 56, 54, 57, 55, 48, 55, 49, 55, 50, 55, 51, 55, 52, 55, 53, 55, 54, 55, 55, 55, 56, 55, 57, 56, 48, 56, 49, 56, 50, 56, 51, 56, 52, 56, 53, 56, 54, 56, 55, 56, 56, 56, 57, 57, 48, 57, 49, 57, 50, 57, 51, 57, 52, 57, 53, 57, 54, 57, 55, 57, 56, 57, 57] : List UInt8) ((UInt32.ofInt ((Int.tmod ((UInt32.ofInt (Int.tdiv ((UInt32.ofInt (u1.toNat : Int)).toNat : Int) 10000)).toNat : Int) 100) * 2)).toNat : Int)) fun c13 =>
  Option.bind (idx ((((a1.set ((IntKind.i64.wrap (nd - 1)).toNat) c8).set ((IntKind.i64.wrap (nd - 2)).toNat) c9).set ((IntKind.i64.wrap (nd - 3)).toNat) c10).set ((IntKind.i64.wrap (nd - 4)).toNat) c11) (IntKind.i64.wrap ((IntKind.i64.wrap (nd - 4)) - 1))) fun x_12 =>
  Option.bind (chk (decide ((IntKind.i64.wrap ((IntKind.i64.wrap (nd - 4)) - 1)) < (len : Int)))) fun _ =>
  Option.bind (idx (((((a1.set ((IntKind.i64.wrap (nd - 1)).toNat) c8).set ((IntKind.i64.wrap (nd - 2)).toNat) c9).set ((IntKind.i64.wrap (nd - 3)).toNat) c10).set ((IntKind.i64.wrap (nd - 4)).toNat) c11).set ((IntKind.i64.wrap ((IntKind.i64.wrap (nd - 4)) - 1)).toNat) c12) (IntKind.i64.wrap ((IntKind.i64.wrap (nd - 4)) - 2))) fun x_13 =>
  Option.bind (chk (decide ((IntKind.i64.wrap ((IntKind.i64.wrap (nd - 4)) - 2)) < (len : Int)))) fun _ =>
  cond (decide ((IntKind.i64.wrap ((IntKind.i64.wrap (nd - 4)) - 2)) > 0))
  (Option.bind (idx ((((((a1.set ((IntKind.i64.wrap (nd - 1)).toNat) c8).set ((IntKind.i64.wrap (nd - 2)).toNat) c9).set ((IntKind.i64.wrap (nd - 3)).toNat) c10).set ((IntKind.i64.wrap (nd - 4)).toNat) c11).set ((IntKind.i64.wrap ((IntKind.i64.wrap (nd - 4)) - 1)).toNat) c12).set ((IntKind.i64.wrap ((IntKind.i64.wrap (nd - 4)) - 2)).toNat) c13) 0) fun x_14 =>
  Option.bind (chk (decide (0 < (len : Int)))) fun _ =>
  some (((((((a1.set ((IntKind.i64.wrap (nd - 1)).toNat) c8).set ((IntKind.i64.wrap (nd - 2)).toNat) c9).set ((IntKind.i64.wrap (nd - 3)).toNat) c10).set ((IntKind.i64.wrap (nd - 4)).toNat) c11).set ((IntKind.i64.wrap ((IntKind.i64.wrap (nd - 4)) - 1)).toNat) c12).set ((IntKind.i64.wrap ((IntKind.i64.wrap (nd - 4)) - 2)).toNat) c13).set ((0 : Int).toNat) (UInt8.ofInt ((UInt32.ofInt (48 + ((UInt32.ofInt (Int.tdiv ((UInt32.ofInt (Int.tdiv ((UInt32.ofInt (u1.toNat : Int)).toNat : Int) 10000)).toNat : Int) 100)).toNat : Int))).toNat : Int))))
  (some ((((((a1.set ((IntKind.i64.wrap (nd - 1)).toNat) c8).set ((IntKind.i64.wrap (nd - 2)).toNat) c9).set ((IntKind.i64.wrap (nd - 3)).toNat) c10).set ((IntKind.i64.wrap (nd - 4)).toNat) c11).set ((IntKind.i64.wrap ((IntKind.i64.wrap (nd - 4)) - 1)).toNat) c12).set ((IntKind.i64.wrap ((IntKind.i64.wrap (nd - 4)) - 2)).toNat) c13)))
  (cond (decide ((IntKind.i64.wrap (nd - 4)) > 0))
  (Option.bind (idx ((((a1.set ((IntKind.i64.wrap (nd - 1)).toNat) c8).set ((IntKind.i64.wrap (nd - 2)).toNat) c9).set ((IntKind.i64.wrap (nd - 3)).toNat) c10).set ((IntKind.i64.wrap (nd - 4)).toNat) c11) 0) fun x_15 =>
  Option.bind (chk (decide (0 < (len : Int)))) fun _ =>
  some (((((a1.set ((IntKind.i64.wrap (nd - 1)).toNat) c8).set ((IntKind.i64.wrap (nd - 2)).toNat) c9).set ((IntKind.i64.wrap (nd - 3)).toNat) c10).set ((IntKind.i64.wrap (nd - 4)).toNat) c11).set ((0 : Int).toNat) (UInt8.ofInt ((UInt32.ofInt (48 + ((UInt32.ofInt (Int.tdiv ((UInt32.ofInt (u1.toNat : Int)).toNat : Int) 10000)).toNat : Int))).toNat : Int))))
  (some ((((a1.set ((IntKind.i64.wrap (nd - 1)).toNat) c8).set ((IntKind.i64.wrap (nd - 2)).toNat) c9).set ((IntKind.i64.wrap (nd - 3)).toNat) c10).set ((IntKind.i64.wrap (nd - 4)).toNat) c11))))
  (cond (decide (nd ≥ 2))
  (Option.bind (idx ([48, 48, 48, 49, 48, 50, 48, 51, 48, 52, 48, 53, 48, 54, 48, 55, 48, 56, 48, 57, 49, 48, 49, 49, 49, 50, 49, 51, 49, 52, 49, 53, 49, 54, 49, 55, 49, 56, 49, 57, 50, 48, 50, 49, 50, 50, 50, 51, 50, 52, 50, 53, 50, 54, 50, 55, 50, 56, 50, 57, 51, 48, 51, 49, 51, 50, 51, 51, 51, 52, 51, 53, 51, 54, 51, 55, 51, 56, 51, 57, 52, 48, 52, 49, 52, 50, 52, 51, 52, 52, 52, 53, 52, 54, 52, 55, 52, 56, 52, 57, 53, 48, 53, 49, 53, 50, 53, 51, 53, 52, 53, 53, 53, 54, 53, 55, 53, 56, 53, 57, 54, 48, 54, 49, 54, 50, 54, 51, 54, 52, 54, 53, 54, 54, 54, 55, 54, 56, 54, 57, 55, 48, 55, 49, 55, 50, 55, 51, 55, 52, 55, 53, 55, 54, 55, 55, 55, 56, 55, 57, 56, 48, 56, 49, 56, 50, 56, 51, 56, 52, 56, 53, 56, 54, 56, 55, 56, 56, 56, 57, 57, 48, 57, 49, 57, 50, 57, 51, 57, 52, 57, 53, 57, 54, 57, 55, 57, 56, 57, 57] : List UInt8) ((UInt32.ofInt (((UInt32.ofInt ((Int.tmod ((UInt32.ofInt (u1.toNat : Int)).toNat : Int) 100) * 2)).toNat : Int) + 1)).toNat : Int)) fun c14 =>
  Option.bind (idx ([48, 48, 48, 49, 48, 50, 48, 51, 48, 52, 48, 53, 48, 54, 48, 55, 48, 56, 48, 57, 49, 48, 49, 49, 49, 50, 49, 51, 49, 52, 49, 53, 49, 54, 49, 55, 49, 56, 49, 57, 50, 48, 50, 49, 50, 50, 50, 51, 50, 52, 50, 53, 50, 54, 50, 55, 50, 56, 50, 57, 51, 48, 51, 49, 51, 50, 51, 51, 51, 52, 51, 53, 51, 54, 51, 55, 51, 56, 51, 57, 52, 48, 52, 49, 52, 50, 52, 51, 52, 52, 52, 53, 52, 54, 52, 55, 52, 56, 52, 57, 53, 48, 53, 49, 53, 50, 53, 51, 53, 52, 53, 53, 53, 54, 53, 55, 53, 56, 53, 57, 54, 48, 54, 49, 54, 50, 54, 51, 54, 52, 54, 53, 54, 54, 54, 55, 54, 56, 54, 57, 55, 48, 55, 49, 55, 50, 55, 51, 55, 52, 55, 53, 55, 54, 55, 55, 55, 56, 55, 57, 56, 48, 56, 49, 56, 50, 56, 51, 56, 52, 56, 53, 56, 54, 56, 55, 56, 56, 56, 57, 57, 48, 57, 49, 57, 50, 57, 51, 57, 52, 57, 53, 57, 54, 57, 55, 57, 56, 57, 57] : List UInt8) ((UInt32.ofInt ((Int.tmod ((UInt32.ofInt (u1.toNat : Int)).toNat : Int) 100) * 2)).toNat : Int)) fun c15 =>
  Option.bind (idx a1 (nd - 1)) fun x_16 =>
  Option.bind (chk (decide ((nd - 1) < (len : Int)))) fun _ =>
  Option.bind (idx (a1.set ((nd - 1).toNat) c14) (nd - 2)) fun x_17 =>
  Option.bind (chk (decide ((nd - 2) < (len : Int)))) fun _ =>
  cond (decide ((nd - 2) > 0))
  (Option.bind (idx ((a1.set ((nd - 1).toNat) c14).set ((nd - 2).toNat) c15) 0) fun x_18 =>
  Option.bind (chk (decide (0 < (len : Int)))) fun _ =>
  some (((a1.set ((nd - 1).toNat) c14).set ((nd - 2).toNat) c15).set ((0 : Int).toNat) (UInt8.ofInt ((UInt32.ofInt (48 + ((UInt32.ofInt (Int.tdiv ((UInt32.ofInt (u1.toNat : Int)).toNat : Int) 100)).toNat : Int))).toNat : Int))))
  (some ((a1.set ((nd - 1).toNat) c14).set ((nd - 2).toNat) c15)))
  (cond (decide (nd > 0))
  (Option.bind (idx a1 0) fun x_19 =>
  Option.bind (chk (decide (0 < (len : Int)))) fun _ =>
  some (a1.set ((0 : Int).toNat) (UInt8.ofInt ((UInt32.ofInt (48 + ((UInt32.ofInt (u1.toNat : Int)).toNat : Int))).toNat : Int))))
  (some a1)))
def internal_strconv_isPowerOfTwo (x_ : Int) : Bool :=
  ((Go.bits .and .i64 x_ (IntKind.i64.wrap (x_ - 1))) == 0)
noncomputable def math_bits_TrailingZeros64 (x_ : UInt64) : Option Int :=
  cond ((x_.toNat : Int) == 0)
  (some 64)
  (Option.bind (idx tab2 ((shr64 ((x_ &&& ((0 : UInt64) - x_)) * (285870213051353865 : UInt64)) 58).toNat : Int)) fun x_1 =>
  some (x_1.toNat : Int))
noncomputable def math_bits_TrailingZeros (x_ : UInt64) : Option Int :=
  Option.bind (math_bits_TrailingZeros64 x_) fun traili =>
  some traili
noncomputable def internal_strconv_formatBits_l1 (base : Int) (traili : Int) (u2 : UInt64) (a : (List UInt8)) (i : Int) : Option (Sum (UInt64 × (List UInt8) × Int) (UInt64 × (List UInt8) × Int)) :=
  cond (decide ((u2.toNat : Int) ≥ ((UInt64.ofInt base).toNat : Int)))
  (Option.bind (idx ([48, 49, 50, 51, 52, 53, 54, 55, 56, 57, 97, 98, 99, 100, 101, 102, 103, 104, 105, 106, 107, 108, 109, 110, 111, 112, 113, 114, 115, 116, 117, 118, 119, 120, 121, 122] : List UInt8) ((u2 &&& ((UInt64.ofInt base) - (1 : UInt64))).toNat : Int)) fun c =>
  Option.bind (idx a (IntKind.i64.wrap (i - 1))) fun x_ =>
  Option.bind (chk (decide ((IntKind.i64.wrap (i - 1)) < 65))) fun _ =>
  some (.inl ((shr64 u2 ((UInt64.ofInt traili).toNat : Int)), (a.set ((IntKind.i64.wrap (i - 1)).toNat) c), (IntKind.i64.wrap (i - 1)))))
  (some (.inr (u2, a, i)))
noncomputable def internal_strconv_formatBits_l2 (base : Int) (u3 : UInt64) (a1 : (List UInt8)) (i1 : Int) : Option (Sum (UInt64 × (List UInt8) × Int) (UInt64 × (List UInt8) × Int)) :=
  cond (decide ((u3.toNat : Int) ≥ ((UInt64.ofInt base).toNat : Int)))
  (Option.bind (chk (decide (((UInt64.ofInt base).toNat : Int) ≠ 0))) fun _ =>
  Option.bind (idx ([48, 49, 50, 51, 52, 53, 54, 55, 56, 57, 97, 98, 99, 100, 101, 102, 103, 104, 105, 106, 107, 108, 109, 110, 111, 112, 113, 114, 115, 116, 117, 118, 119, 120, 121, 122] : List UInt8) ((u3 - ((u3 / (UInt64.ofInt base)) * (UInt64.ofInt base))).toNat : Int)) fun c2 =>
  Option.bind (idx a1 (IntKind.i64.wrap (i1 - 1))) fun x_3 =>
  Option.bind (chk (decide ((IntKind.i64.wrap (i1 - 1)) < 65))) fun _ =>
  some (.inl ((u3 / (UInt64.ofInt base)), (a1.set ((IntKind.i64.wrap (i1 - 1)).toNat) c2), (IntKind.i64.wrap (i1 - 1)))))
  (some (.inr (u3, a1, i1)))
noncomputable def internal_strconv_formatBits (dst : (List UInt8)) (u : UInt64) (base : Int) (neg : Bool) (append_ : Bool) : Option ((List UInt8) × (List UInt8)) :=
  cond (decide (base < 2))
  (none)
  (cond (base == 10)
  (none)
  (cond (decide (base > 36))
  (none)
  (lt_
  (cond neg
  ((((0 : UInt64) - u), true))
  ((u, false))) fun (u1, neg1) =>
  cond (internal_strconv_isPowerOfTwo base)
  (Option.bind (math_bits_TrailingZeros (UInt64.ofInt base)) fun traili =>
  Option.bind
  (loopO (fun s => internal_strconv_formatBits_l1 base traili s.1 s.2.1 s.2.2) (u1, (List.replicate 65 (0 : UInt8)), 65)) fun (u2, a, i) =>
  Option.bind (idx ([48, 49, 50, 51, 52, 53, 54, 55, 56, 57, 97, 98, 99, 100, 101, 102, 103, 104, 105, 106, 107, 108, 109, 110, 111, 112, 113, 114, 115, 116, 117, 118, 119, 120, 121, 122] : List UInt8) (u2.toNat : Int)) fun c1 =>
  Option.bind (idx a (IntKind.i64.wrap (i - 1))) fun x_1 =>
  Option.bind (chk (decide ((IntKind.i64.wrap (i - 1)) < 65))) fun _ =>
  cond neg1
  (Option.bind (idx (a.set ((IntKind.i64.wrap (i - 1)).toNat) c1) (IntKind.i64.wrap ((IntKind.i64.wrap (i - 1)) - 1))) fun x_2 =>
  Option.bind (chk (decide ((IntKind.i64.wrap ((IntKind.i64.wrap (i - 1)) - 1)) < 65))) fun _ =>
  cond append_
  (Option.bind (chk (decide (((a.set ((IntKind.i64.wrap (i - 1)).toNat) c1).set ((IntKind.i64.wrap ((IntKind.i64.wrap (i - 1)) - 1)).toNat) (45 : UInt8)).length = 65))) fun _ =>
  Option.bind (slc ((a.set ((IntKind.i64.wrap (i - 1)).toNat) c1).set ((IntKind.i64.wrap ((IntKind.i64.wrap (i - 1)) - 1)).toNat) (45 : UInt8)) (IntKind.i64.wrap ((IntKind.i64.wrap (i - 1)) - 1)) (((a.set ((IntKind.i64.wrap (i - 1)).toNat) c1).set ((IntKind.i64.wrap ((IntKind.i64.wrap (i - 1)) - 1)).toNat) (45 : UInt8)).length : Int)) fun y_ =>
  Option.bind (app dst y_) fun b =>
  some (b, ([] : List UInt8)))
  (Option.bind (chk (decide (((a.set ((IntKind.i64.wrap (i - 1)).toNat) c1).set ((IntKind.i64.wrap ((IntKind.i64.wrap (i - 1)) - 1)).toNat) (45 : UInt8)).length = 65))) fun _ =>
  Option.bind (slc ((a.set ((IntKind.i64.wrap (i - 1)).toNat) c1).set ((IntKind.i64.wrap ((IntKind.i64.wrap (i - 1)) - 1)).toNat) (45 : UInt8)) (IntKind.i64.wrap ((IntKind.i64.wrap (i - 1)) - 1)) (((a.set ((IntKind.i64.wrap (i - 1)).toNat) c1).set ((IntKind.i64.wrap ((IntKind.i64.wrap (i - 1)) - 1)).toNat) (45 : UInt8)).length : Int)) fun y_1 =>
  some ([], y_1)))
  (cond append_
  (Option.bind (chk (decide ((a.set ((IntKind.i64.wrap (i - 1)).toNat) c1).length = 65))) fun _ =>
  Option.bind (slc (a.set ((IntKind.i64.wrap (i - 1)).toNat) c1) (IntKind.i64.wrap (i - 1)) ((a.set ((IntKind.i64.wrap (i - 1)).toNat) c1).length : Int)) fun y_2 =>
  Option.bind (app dst y_2) fun b1 =>
  some (b1, ([] : List UInt8)))
  (Option.bind (chk (decide ((a.set ((IntKind.i64.wrap (i - 1)).toNat) c1).length = 65))) fun _ =>
  Option.bind (slc (a.set ((IntKind.i64.wrap (i - 1)).toNat) c1) (IntKind.i64.wrap (i - 1)) ((a.set ((IntKind.i64.wrap (i - 1)).toNat) c1).length : Int)) fun y_3 =>
  some ([], y_3))))
  (Option.bind
  (loopO (fun s => internal_strconv_formatBits_l2 base s.1 s.2.1 s.2.2) (u1, (List.replicate 65 (0 : UInt8)), 65)) fun (u3, a1, i1) =>
  Option.bind (idx ([48, 49, 50, 51, 52, 53, 54, 55, 56, 57, 97, 98, 99, 100, 101, 102, 103, 104, 105, 106, 107, 108, 109, 110, 111, 112, 113, 114, 115, 116, 117, 118, 119, 120, 121, 122] : List UInt8) (u3.toNat : Int)) fun c3 =>
  Option.bind (idx a1 (IntKind.i64.wrap (i1 - 1))) fun x_4 =>
  Option.bind (chk (decide ((IntKind.i64.wrap (i1 - 1)) < 65))) fun _ =>
  cond neg1
  (Option.bind (idx (a1.set ((IntKind.i64.wrap (i1 - 1)).toNat) c3) (IntKind.i64.wrap ((IntKind.i64.wrap (i1 - 1)) - 1))) fun x_5 =>
  Option.bind (chk (decide ((IntKind.i64.wrap ((IntKind.i64.wrap (i1 - 1)) - 1)) < 65))) fun _ =>
  cond append_
  (Option.bind (chk (decide (((a1.set ((IntKind.i64.wrap (i1 - 1)).toNat) c3).set ((IntKind.i64.wrap ((IntKind.i64.wrap (i1 - 1)) - 1)).toNat) (45 : UInt8)).length = 65))) fun _ =>
  Option.bind (slc ((a1.set ((IntKind.i64.wrap (i1 - 1)).toNat) c3).set ((IntKind.i64.wrap ((IntKind.i64.wrap (i1 - 1)) - 1)).toNat) (45 : UInt8)) (IntKind.i64.wrap ((IntKind.i64.wrap (i1 - 1)) - 1)) (((a1.set ((IntKind.i64.wrap (i1 - 1)).toNat) c3).set ((IntKind.i64.wrap ((IntKind.i64.wrap (i1 - 1)) - 1)).toNat) (45 : UInt8)).length : Int)) fun y_4 =>
  Option.bind (app dst y_4) fun b2 =>
  some (b2, ([] : List UInt8)))
  (Option.bind (chk (decide (((a1.set ((IntKind.i64.wrap (i1 - 1)).toNat) c3).set ((IntKind.i64.wrap ((IntKind.i64.wrap (i1 - 1)) - 1)).toNat) (45 : UInt8)).length = 65))) fun _ =>
  Option.bind (slc ((a1.set ((IntKind.i64.wrap (i1 - 1)).toNat) c3).set ((IntKind.i64.wrap ((IntKind.i64.wrap (i1 - 1)) - 1)).toNat) (45 : UInt8)) (IntKind.i64.wrap ((IntKind.i64.wrap (i1 - 1)) - 1)) (((a1.set ((IntKind.i64.wrap (i1 - 1)).toNat) c3).set ((IntKind.i64.wrap ((IntKind.i64.wrap (i1 - 1)) - 1)).toNat) (45 : UInt8)).length : Int)) fun y_5 =>
  some ([], y_5)))
  (cond append_
  (Option.bind (chk (decide ((a1.set ((IntKind.i64.wrap (i1 - 1)).toNat) c3).length = 65))) fun _ =>
  Option.bind (slc (a1.set ((IntKind.i64.wrap (i1 - 1)).toNat) c3) (IntKind.i64.wrap (i1 - 1)) ((a1.set ((IntKind.i64.wrap (i1 - 1)).toNat) c3).length : Int)) fun y_6 =>
  Option.bind (app dst y_6) fun b3 =>
  some (b3, ([] : List UInt8)))
  (Option.bind (chk (decide ((a1.set ((IntKind.i64.wrap (i1 - 1)).toNat) c3).length = 65))) fun _ =>
  Option.bind (slc (a1.set ((IntKind.i64.wrap (i1 - 1)).toNat) c3) (IntKind.i64.wrap (i1 - 1)) ((a1.set ((IntKind.i64.wrap (i1 - 1)).toNat) c3).length : Int)) fun y_7 =>
  some ([], y_7)))))))
noncomputable def internal_strconv_FormatUint (i : UInt64) (base : Int) : Option (List UInt8) :=
  cond (base == 10)
  (cond (decide ((i.toNat : Int) < 100))
  (Option.bind (internal_strconv_small (IntKind.i64.wrap (i.toNat : Int))) fun small =>
  some small)
  (Option.bind (internal_strconv_numDigits i) fun numDig =>
  Option.bind (chk (decide (0 ≤ numDig ∧ numDig ≤ 24))) fun _ =>
  Option.bind (internal_strconv_formatBase10 (List.replicate 24 (0 : UInt8)) numDig.toNat i) fun format =>
  Option.bind (chk (decide (0 ≤ numDig ∧ numDig ≤ 24))) fun _ =>
  Option.bind (chk (decide ((format.take numDig.toNat).length = numDig.toNat ∧ numDig.toNat ≤ 9223372036854775807))) fun _ =>
  some (format.take numDig.toNat)))
  (Option.bind (internal_strconv_formatBits [] i base false false) fun format1 =>
  some format1.2)
noncomputable def strconv_FormatUint (i : UInt64) (base : Int) : Option (List UInt8) :=
  Option.bind (internal_strconv_FormatUint i base) fun format =>
  some format
noncomputable def strings_Builder_WriteByte (b : TStringsBuilder) (c : UInt8) : Option TStringsBuilder :=
  Option.bind (app b.f_buf [c]) fun b1 =>
  some ({ f_addr := true, f_buf := b1 } : TStringsBuilder)
noncomputable def script_hex_l1 (x_ : (List UInt8)) (addr : Bool) (buf : (List UInt8)) (t : Nat) : Option (Sum (Bool × (List UInt8) × Nat) (Bool × (List UInt8))) :=
  cond (decide ((t : Int) < (x_.length : Int)))
  (Option.bind (x_[t]?) fun x_1 =>
  Option.bind (idx ([48, 49, 50, 51, 52, 53, 54, 55, 56, 57, 97, 98, 99, 100, 101, 102] : List UInt8) ((shr8 x_1 4).toNat : Int)) fun c =>
  Option.bind (strings_Builder_WriteByte ({ f_addr := addr, f_buf := buf } : TStringsBuilder) c) fun writeB =>
  Option.bind (idx ([48, 49, 50, 51, 52, 53, 54, 55, 56, 57, 97, 98, 99, 100, 101, 102] : List UInt8) ((x_1 &&& (15 : UInt8)).toNat : Int)) fun c1 =>
  Option.bind (strings_Builder_WriteByte writeB c1) fun writeB1 =>
  some (.inl (writeB1.f_addr, writeB1.f_buf, (t + 1))))
  (some (.inr (addr, buf)))
noncomputable def script_hex (x_ : (List UInt8)) : Option (List UInt8) :=
  cond ((x_.length : Int) == 0)
  (some ([45] : List UInt8))
  (Option.bind
  (loopO (fun s => script_hex_l1 x_ s.1 s.2.1 s.2.2) (false, [], 0)) fun (addr, buf) =>
  some buf)
def script_callWords : (List (List UInt8)) :=
  [([] : List UInt8), ([108, 111, 111, 107, 117, 112] : List UInt8), ([115, 116, 97, 116] : List UInt8), ([114, 101, 97, 100, 100, 105, 114] : List UInt8), ([114, 101, 97, 100, 108, 105, 110, 107] : List UInt8), ([114, 101, 97, 100] : List UInt8), ([110, 97, 109, 101, 115] : List UInt8), ([97, 116, 116, 114] : List UInt8), ([119, 97, 108, 107] : List UInt8)]
def manifest_plain (c : UInt8) : Bool :=
  cond (decide ((c.toNat : Int) > 32))
  (cond (decide ((c.toNat : Int) < 127))
  (((c.toNat : Int) != 37))
  (false))
  (false)
noncomputable def manifest_Quote_l1 (s_ : (List UInt8)) (b : (List UInt8)) (t : Nat) : Option (Sum ((List UInt8) × Nat) (List UInt8)) :=
  cond (decide ((t : Int) < (s_.length : Int)))
  (Option.bind (idx s_ (t : Int)) fun c =>
  cond (manifest_plain c)
  (Option.bind (app b [c]) fun b1 =>
  some (.inl (b1, (t + 1))))
  (Option.bind (idx ([48, 49, 50, 51, 52, 53, 54, 55, 56, 57, 97, 98, 99, 100, 101, 102] : List UInt8) ((shr8 c 4).toNat : Int)) fun c1 =>
  Option.bind (idx ([48, 49, 50, 51, 52, 53, 54, 55, 56, 57, 97, 98, 99, 100, 101, 102] : List UInt8) ((c &&& (15 : UInt8)).toNat : Int)) fun c2 =>
  Option.bind (app b [(37 : UInt8), c1, c2]) fun b2 =>
  some (.inl (b2, (t + 1)))))
  (some (.inr b))
noncomputable def manifest_Quote (s_ : (List UInt8)) : Option (List UInt8) :=
  cond (s_ == ([] : List UInt8))
  (some ([37] : List UInt8))
  (Option.bind
  (loopO (fun s => manifest_Quote_l1 s_ s.1 s.2) ([], 0)) fun b =>
  some b)
noncomputable def script_words_l1 (a : TApiAct) (l_ : (List (List UInt8))) (t : Nat) : Option (Sum ((List (List UInt8)) × Nat) (List (List UInt8))) :=
  cond (decide ((t : Int) < ((script_numbers a.Call).length : Int)))
  (Option.bind ((script_numbers a.Call)[t]?) fun x_2 =>
  Option.bind (chk (decide (-9223372036854775808 ≤ x_2 ∧ x_2 ≤ 9223372036854775807))) fun _ =>
  Option.bind (app l_ [(Lib.itoa x_2)]) fun b3 =>
  some (.inl (b3, (t + 1))))
  (some (.inr l_))
noncomputable def script_words (a : TApiAct) : Option (List (List UInt8)) :=
  cond (a.Do != 7)
  (Option.bind (idx script_actWords a.Do) fun x_ =>
  cond (a.Do == 1)
  (Option.bind (strconv_FormatUint a.Sum 16) fun format =>
  Option.bind (chk (decide (-9223372036854775808 ≤ a.Len ∧ a.Len ≤ 9223372036854775807))) fun _ =>
  Option.bind (chk (decide (0 ≤ (16 - (format.length : Int)) ∧ (16 - (format.length : Int)) ≤ 137438953472 ∧ ([48] : List UInt8).length * (16 - (format.length : Int)).toNat ≤ 137438953472))) fun _ =>
  Option.bind (cat (Lib.repeatL ([48] : List UInt8) (16 - (format.length : Int)).toNat) format) fun s_ =>
  Option.bind (app [x_] [(Lib.itoa a.Len), s_]) fun b =>
  some b)
  (cond (a.Do == 2)
  (Option.bind (script_hex a.Bytes) fun hex =>
  Option.bind (app [x_] [hex]) fun b1 =>
  some b1)
  (cond (a.Do == 5)
  (Option.bind (chk (decide (-9223372036854775808 ≤ a.Crash.After ∧ a.Crash.After ≤ 9223372036854775807))) fun _ =>
  Option.bind (script_hex a.Crash.Torn) fun hex1 =>
  Option.bind (app [x_] [(Lib.itoa a.Crash.After), hex1]) fun b2 =>
  some b2)
  (some [x_]))))
  (Option.bind (idx script_callWords a.Call.Do) fun x_1 =>
  Option.bind
  (loopO (fun s => script_words_l1 a s.1 s.2) ([x_1], 0)) fun l_ =>
  cond (script_named a.Call.Do)
  (Option.bind (manifest_Quote a.Call.Name) fun quote =>
  Option.bind (app l_ [quote]) fun b4 =>
  cond (a.Call.Do == 8)
  (cond a.Call.On
  (Option.bind (app b4 [([111, 110] : List UInt8)]) fun b5 =>
  some b5)
  (some b4))
  (some b4))
  (cond (a.Call.Do == 8)
  (cond a.Call.On
  (Option.bind (app l_ [([111, 110] : List UInt8)]) fun b6 =>
  some b6)
  (some l_))
  (some l_)))
noncomputable def script_Print_l1 (l_ : (List TApiAct)) (t : Nat) : Option (Sum Nat (Sum Unit ((List UInt8) × Int))) :=
  cond (decide ((t : Int) < (l_.length : Int)))
  (Option.bind (l_[t]?) fun x_ =>
  Option.bind (script_Check x_) fun check =>
  cond (check != 0)
  (some (.inr (.inr ([], check))))
  (some (.inl (t + 1))))
  (some (.inr (.inl ())))
noncomputable def script_Print_l2 (l_ : (List TApiAct)) (b : (List UInt8)) (t1 : Nat) : Option (Sum ((List UInt8) × Nat) (Sum (List UInt8) ((List UInt8) × Int))) :=
  cond (decide ((t1 : Int) < (l_.length : Int)))
  (Option.bind (l_[t1]?) fun x_1 =>
  Option.bind (script_Plain x_1) fun plain =>
  cond (decide ((if (plain.Call.Name.length : Int) > (if (plain.Crash.Torn.length : Int) > (plain.Bytes.length : Int) then (plain.Crash.Torn.length : Int) else (plain.Bytes.length : Int)) then (plain.Call.Name.length : Int) else (if (plain.Crash.Torn.length : Int) > (plain.Bytes.length : Int) then (plain.Crash.Torn.length : Int) else (plain.Bytes.length : Int))) > 1048576))
  (some (.inr (.inr ([], 2))))
  (Option.bind (script_words x_1) fun words =>
  Option.bind (chk (decide (words.length ≤ 137438953472 ∧ (Lib.join words ([32] : List UInt8)).length ≤ 137438953472))) fun _ =>
  Option.bind (app b (Lib.join words ([32] : List UInt8))) fun b1 =>
  Option.bind (app b1 [(10 : UInt8)]) fun b2 =>
  cond (decide ((b2.length : Int) > 1048576))
  (some (.inr (.inr ([], 2))))
  (some (.inl (b2, (t1 + 1))))))
  (some (.inr (.inl b)))
noncomputable def script_Print (l_ : (List TApiAct)) : Option ((List UInt8) × Int) :=
  cond (decide ((l_.length : Int) > 16384))
  (some ([], 3))
  (bnd
  (loopO (fun s => script_Print_l1 l_ s) 0) fun _ =>
  bnd
  (loopO (fun s => script_Print_l2 l_ s.1 s.2) ([], 0)) fun b =>
  some (b, 0))
def law31_num (e_ : Int) : Int :=
  e_
noncomputable def law31_live : Option Bool :=
  Option.bind (script_Print [({ Do := 5, Len := 0, Sum := (0 : UInt64), Bytes := [], Crash := ({ After := 3, Torn := [(1 : UInt8), (255 : UInt8)] } : TApiCrash), Call := ({ Do := 0, Ino := 0, A := 0, B := 0, Name := ([] : List UInt8), On := false } : TApiCall) } : TApiAct), ({ Do := 7, Len := 0, Sum := (0 : UInt64), Bytes := [], Crash := ({ After := 0, Torn := [] } : TApiCrash), Call := ({ Do := 5, Ino := 1, A := 0, B := 9, Name := ([] : List UInt8), On := false } : TApiCall) } : TApiAct)]) fun print =>
  cond ((law31_num print.2) == 0)
  (some (print.1 == ([97, 114, 109, 32, 51, 32, 48, 49, 102, 102, 10, 114, 101, 97, 100, 32, 49, 32, 48, 32, 57, 10] : List UInt8)))
  (some false)
def ref31_three (do_ : Int) : Bool :=
  cond (do_ == 3)
  (true)
  ((do_ == 5))
def ref31_named (do_ : Int) : Bool :=
  cond (do_ == 1)
  (true)
  (cond (do_ == 7)
  (true)
  ((do_ == 8)))
noncomputable def ref31_Plain (a : TApiAct) : Option TApiAct :=
  bnd
  (cond (a.Do == 1)
  (some (.inl (a.Len, a.Sum, [], 0, [], 0, 0, 0, 0, ([] : List UInt8), false)))
  (cond (a.Do == 2)
  (some (.inl (0, (0 : UInt64), a.Bytes, 0, [], 0, 0, 0, 0, ([] : List UInt8), false)))
  (cond (a.Do == 3)
  (some (.inr ({ Do := a.Do, Len := 0, Sum := (0 : UInt64), Bytes := [], Crash := ({ After := 0, Torn := [] } : TApiCrash), Call := ({ Do := 0, Ino := 0, A := 0, B := 0, Name := ([] : List UInt8), On := false } : TApiCall) } : TApiAct)))
  (cond (a.Do == 4)
  (some (.inr ({ Do := a.Do, Len := 0, Sum := (0 : UInt64), Bytes := [], Crash := ({ After := 0, Torn := [] } : TApiCrash), Call := ({ Do := 0, Ino := 0, A := 0, B := 0, Name := ([] : List UInt8), On := false } : TApiCall) } : TApiAct)))
  (cond (a.Do == 6)
  (some (.inr ({ Do := a.Do, Len := 0, Sum := (0 : UInt64), Bytes := [], Crash := ({ After := 0, Torn := [] } : TApiCrash), Call := ({ Do := 0, Ino := 0, A := 0, B := 0, Name := ([] : List UInt8), On := false } : TApiCall) } : TApiAct)))
  (cond (a.Do == 5)
  (some (.inl (0, (0 : UInt64), [], a.Crash.After, a.Crash.Torn, 0, 0, 0, 0, ([] : List UInt8), false)))
  (cond (a.Do == 7)
  (cond (decide (a.Call.Do < 1))
  (some (.inr a))
  (cond (decide (a.Call.Do > 8))
  (some (.inr a))
  (lt_
  (cond (ref31_three a.Call.Do)
  ((a.Call.A, a.Call.B))
  ((0, 0))) fun (A, B_) =>
  cond (ref31_named a.Call.Do)
  (cond (a.Call.Do == 8)
  (some (.inl (0, (0 : UInt64), [], 0, [], a.Call.Do, a.Call.Ino, A, B_, a.Call.Name, a.Call.On)))
  (some (.inl (0, (0 : UInt64), [], 0, [], a.Call.Do, a.Call.Ino, A, B_, a.Call.Name, false))))
  (cond (a.Call.Do == 8)
  (some (.inl (0, (0 : UInt64), [], 0, [], a.Call.Do, a.Call.Ino, A, B_, ([] : List UInt8), a.Call.On)))
  (some (.inl (0, (0 : UInt64), [], 0, [], a.Call.Do, a.Call.Ino, A, B_, ([] : List UInt8), false)))))))
  (some (.inr a))))))))) fun (Len, Sum, Bytes, After, Torn, Do, Ino, A, B_, Name, On) =>
  some ({ Do := a.Do, Len := Len, Sum := Sum, Bytes := Bytes, Crash := ({ After := After, Torn := Torn } : TApiCrash), Call := ({ Do := Do, Ino := Ino, A := A, B := B_, Name := Name, On := On } : TApiCall) } : TApiAct)
def ref31_in (n_ : Int) : Bool :=
  cond (decide (n_ ≥ 0))
  ((decide (n_ ≤ 1099511627776)))
  (false)
noncomputable def ref31_Check (a : TApiAct) : Option Int :=
  cond (decide (a.Do < 1))
  (some 8)
  (cond (decide (a.Do > 7))
  (some 8)
  (cond (a.Do == 7)
  (cond (decide (a.Call.Do < 1))
  (some 8)
  (cond (decide (a.Call.Do > 8))
  (some 8)
  (Option.bind (ref31_Plain a) fun plain =>
  cond (ref31_in plain.Len)
  (cond (ref31_in plain.Crash.After)
  (cond (ref31_in plain.Call.Ino)
  (cond (ref31_in plain.Call.A)
  (cond (ref31_in plain.Call.B)
  (some 0)
  (some 1))
  (some 1))
  (some 1))
  (some 1))
  (some 1))))
  (Option.bind (ref31_Plain a) fun plain1 =>
  cond (ref31_in plain1.Len)
  (cond (ref31_in plain1.Crash.After)
  (cond (ref31_in plain1.Call.Ino)
  (cond (ref31_in plain1.Call.A)
  (cond (ref31_in plain1.Call.B)
  (some 0)
  (some 1))
  (some 1))
  (some 1))
  (some 1))
  (some 1))))
noncomputable def ref31_Same_l1 (a : (List TApiAct)) (b : (List TApiAct)) (plain1 : Bool) (i : Nat) : Option (Sum (Bool × Nat) (Sum Unit Bool)) :=
  cond (decide ((i : Int) < (a.length : Int)))
  (Option.bind
  (Option.bind (a[i]?) fun x_ =>
  Option.bind (b[i]?) fun x_1 =>
  some (x_.Do, x_.Len, x_.Sum, x_.Bytes, x_.Crash.After, x_.Crash.Torn, x_.Call.Do, x_.Call.Ino, x_.Call.A, x_.Call.B, x_.Call.Name, x_.Call.On, x_1.Do, x_1.Len, x_1.Sum, x_1.Bytes, x_1.Crash.After, x_1.Crash.Torn, x_1.Call.Do, x_1.Call.Ino, x_1.Call.A, x_1.Call.B, x_1.Call.Name, x_1.Call.On)) fun (Do, Len, Sum, Bytes, After, Torn, Do1, Ino, A, B_, Name, On, Do2, Len1, Sum1, Bytes1, After1, Torn1, Do3, Ino1, A1, B_1, Name1, On1) =>
  Option.bind
  (cond plain1
  (Option.bind (ref31_Plain ({ Do := Do, Len := Len, Sum := Sum, Bytes := Bytes, Crash := ({ After := After, Torn := Torn } : TApiCrash), Call := ({ Do := Do1, Ino := Ino, A := A, B := B_, Name := Name, On := On } : TApiCall) } : TApiAct)) fun plain2 =>
  Option.bind (ref31_Plain ({ Do := Do2, Len := Len1, Sum := Sum1, Bytes := Bytes1, Crash := ({ After := After1, Torn := Torn1 } : TApiCrash), Call := ({ Do := Do3, Ino := Ino1, A := A1, B := B_1, Name := Name1, On := On1 } : TApiCall) } : TApiAct)) fun plain3 =>
  some (true, plain2.Do, plain2.Len, plain2.Sum, plain2.Bytes, plain2.Crash.After, plain2.Crash.Torn, plain2.Call.Do, plain2.Call.Ino, plain2.Call.A, plain2.Call.B, plain2.Call.Name, plain2.Call.On, plain3.Do, plain3.Len, plain3.Sum, plain3.Bytes, plain3.Crash.After, plain3.Crash.Torn, plain3.Call.Do, plain3.Call.Ino, plain3.Call.A, plain3.Call.B, plain3.Call.Name, plain3.Call.On))
  (some (false, Do, Len, Sum, Bytes, After, Torn, Do1, Ino, A, B_, Name, On, Do2, Len1, Sum1, Bytes1, After1, Torn1, Do3, Ino1, A1, B_1, Name1, On1))) fun (plain2, Do4, Len2, Sum2, Bytes2, After2, Torn2, Do5, Ino2, A2, B_2, Name2, On2, Do6, Len3, Sum3, Bytes3, After3, Torn3, Do7, Ino3, A3, B_3, Name3, On3) =>
  cond (Do4 != Do6)
  (some (.inr (.inr false)))
  (cond (Len2 != Len3)
  (some (.inr (.inr false)))
  (cond ((Sum2.toNat : Int) != (Sum3.toNat : Int))
  (some (.inr (.inr false)))
  (cond (Bytes2 != Bytes3)
  (some (.inr (.inr false)))
  (cond (After2 != After3)
  (some (.inr (.inr false)))
  (cond (Torn2 != Torn3)
  (some (.inr (.inr false)))
  (cond ((Do5 == Do7) && ((Ino2 == Ino3) && ((A2 == A3) && ((B_2 == B_3) && ((Name2 == Name3) && ((On2 == On3) && true))))))
  (some (.inl (plain2, (i + 1))))
  (some (.inr (.inr false))))))))))
  (some (.inr (.inl ())))
noncomputable def ref31_Same (a : (List TApiAct)) (b : (List TApiAct)) (plain : Bool) : Option Bool :=
  cond ((a.length : Int) != (b.length : Int))
  (some false)
  (bnd
  (loopO (fun s => ref31_Same_l1 a b s.1 s.2) (plain, 0)) fun _ =>
  some true)
noncomputable def law31_ScriptPlains (a : TApiAct) : Option Bool :=
  Option.bind (ref31_Much [a]) fun much =>
  cond much
  (Option.bind law31_live fun live =>
  some live)
  (Option.bind (script_Plain a) fun plain =>
  Option.bind
  (Option.bind (script_Check a) fun check =>
  Option.bind (ref31_Check a) fun check1 =>
  cond ((law31_num check) == check1)
  (Option.bind (ref31_Plain a) fun plain1 =>
  Option.bind (ref31_Same [plain] [plain1] false) fun same =>
  cond same
  (Option.bind law31_live fun live1 =>
  some live1)
  (some false))
  (some false)) fun t =>
  some t)
noncomputable def ref31_word (a : TApiAct) : Option (List UInt8) :=
  cond (a.Do == 7)
  (Option.bind (idx [([] : List UInt8), ([108, 111, 111, 107, 117, 112] : List UInt8), ([115, 116, 97, 116] : List UInt8), ([114, 101, 97, 100, 100, 105, 114] : List UInt8), ([114, 101, 97, 100, 108, 105, 110, 107] : List UInt8), ([114, 101, 97, 100] : List UInt8), ([110, 97, 109, 101, 115] : List UInt8), ([97, 116, 116, 114] : List UInt8), ([119, 97, 108, 107] : List UInt8)] a.Call.Do) fun x_ =>
  some x_)
  (Option.bind (idx [([] : List UInt8), ([98, 101, 103, 105, 110] : List UInt8), ([99, 104, 117, 110, 107] : List UInt8), ([102, 105, 110, 105, 115, 104] : List UInt8), ([97, 98, 111, 114, 116] : List UInt8), ([97, 114, 109] : List UInt8), ([114, 101, 98, 111, 111, 116] : List UInt8)] a.Do) fun x_1 =>
  some x_1)
noncomputable def ref27_Digits_l1 (base : Int) (n_1 : Int) (s_ : (List UInt8)) : Option (Sum (Int × (List UInt8)) (List UInt8)) :=
  Option.bind (chk (decide (base ≠ 0))) fun _ =>
  Option.bind (idx ([48, 49, 50, 51, 52, 53, 54, 55, 56, 57, 97, 98, 99, 100, 101, 102] : List UInt8) (Int.tmod n_1 base)) fun c =>
  Option.bind (cat [c] s_) fun s_1 =>
  Option.bind (chk (decide (base ≠ 0))) fun _ =>
  cond ((IntKind.i64.wrap (Int.tdiv n_1 base)) == 0)
  (some (.inr s_1))
  (some (.inl ((IntKind.i64.wrap (Int.tdiv n_1 base)), s_1)))
noncomputable def ref27_Digits (n_ : Int) (base : Int) : Option (List UInt8) :=
  loopO (fun s => ref27_Digits_l1 base s.1 s.2) (n_, ([] : List UInt8))
noncomputable def ref31_sixteen_l1 (n_1 : UInt64) (b : (List UInt8)) (i : Int) : Option (Sum (UInt64 × (List UInt8) × Int) (List UInt8)) :=
  cond (decide (i ≥ 0))
  (Option.bind (idx ([48, 49, 50, 51, 52, 53, 54, 55, 56, 57, 97, 98, 99, 100, 101, 102] : List UInt8) ((n_1 % (16 : UInt64)).toNat : Int)) fun c =>
  Option.bind (idx b i) fun x_ =>
  Option.bind (chk (decide (i < 16))) fun _ =>
  some (.inl ((n_1 / (16 : UInt64)), (b.set i.toNat c), (IntKind.i64.wrap (i - 1)))))
  (some (.inr b))
noncomputable def ref31_sixteen (n_ : UInt64) : Option (List UInt8) :=
  Option.bind
  (loopO (fun s => ref31_sixteen_l1 s.1 s.2.1 s.2.2) (n_, (List.replicate 16 (0 : UInt8)), 15)) fun b =>
  Option.bind (chk (decide (b.length = 16))) fun _ =>
  Option.bind (slc b 0 (b.length : Int)) fun y_ =>
  some y_
noncomputable def ref31_hex_l1 (x_ : (List UInt8)) (b : (List UInt8)) (i : Nat) : Option (Sum ((List UInt8) × Nat) (List UInt8)) :=
  cond (decide ((i : Int) < (x_.length : Int)))
  (Option.bind (x_[i]?) fun x_1 =>
  Option.bind (idx ([48, 49, 50, 51, 52, 53, 54, 55, 56, 57, 97, 98, 99, 100, 101, 102] : List UInt8) ((x_1 / (16 : UInt8)).toNat : Int)) fun c =>
  Option.bind (idx ([48, 49, 50, 51, 52, 53, 54, 55, 56, 57, 97, 98, 99, 100, 101, 102] : List UInt8) ((x_1 % (16 : UInt8)).toNat : Int)) fun c1 =>
  Option.bind (app b [c, c1]) fun b1 =>
  some (.inl (b1, (i + 1))))
  (some (.inr b))
noncomputable def ref31_hex (x_ : (List UInt8)) : Option (List UInt8) :=
  cond ((x_.length : Int) == 0)
  (some ([45] : List UInt8))
  (Option.bind
  (loopO (fun s => ref31_hex_l1 x_ s.1 s.2) ([], 0)) fun b =>
  some b)
def ref27_plain (c : UInt8) : Bool :=
  cond (decide ((c.toNat : Int) ≥ 33))
  (cond (decide ((c.toNat : Int) ≤ 126))
  (((c.toNat : Int) != 37))
  (false))
  (false)
noncomputable def ref27_two (c : UInt8) : Option (List UInt8) :=
  Option.bind (idx ([48, 49, 50, 51, 52, 53, 54, 55, 56, 57, 97, 98, 99, 100, 101, 102] : List UInt8) ((c / (16 : UInt8)).toNat : Int)) fun c1 =>
  Option.bind (idx ([48, 49, 50, 51, 52, 53, 54, 55, 56, 57, 97, 98, 99, 100, 101, 102] : List UInt8) ((c % (16 : UInt8)).toNat : Int)) fun c2 =>
  some [c1, c2]
noncomputable def ref27_Quote_l1 (s_ : (List UInt8)) (b : (List UInt8)) (i : Nat) : Option (Sum ((List UInt8) × Nat) (List UInt8)) :=
  cond (decide ((i : Int) < (s_.length : Int)))
  (Option.bind (idx s_ (i : Int)) fun c =>
  cond (ref27_plain c)
  (Option.bind (app b [c]) fun b1 =>
  some (.inl (b1, (i + 1))))
  (Option.bind (app b [(37 : UInt8)]) fun b2 =>
  Option.bind (ref27_two c) fun two =>
  Option.bind (app b2 two) fun b3 =>
  some (.inl (b3, (i + 1)))))
  (some (.inr b))
noncomputable def ref27_Quote (s_ : (List UInt8)) : Option (List UInt8) :=
  cond (s_ == ([] : List UInt8))
  (some ([37] : List UInt8))
  (Option.bind
  (loopO (fun s => ref27_Quote_l1 s_ s.1 s.2) ([], 0)) fun b =>
  some b)
noncomputable def ref31_Line (a : TApiAct) : Option (List UInt8) :=
  Option.bind (ref31_word a) fun word_ =>
  cond (a.Do == 1)
  (Option.bind (cat word_ ([32] : List UInt8)) fun s_ =>
  Option.bind (ref27_Digits a.Len 10) fun digits =>
  Option.bind (cat s_ digits) fun s_1 =>
  Option.bind (cat s_1 ([32] : List UInt8)) fun s_2 =>
  Option.bind (ref31_sixteen a.Sum) fun sixtee =>
  Option.bind (cat s_2 sixtee) fun s_3 =>
  Option.bind (cat s_3 ([10] : List UInt8)) fun s_4 =>
  some s_4)
  (Option.bind
  (cond (a.Do == 2)
  (Option.bind (cat word_ ([32] : List UInt8)) fun s_5 =>
  Option.bind (ref31_hex a.Bytes) fun hex =>
  Option.bind (cat s_5 hex) fun s_6 =>
  some s_6)
  (cond (a.Do == 5)
  (Option.bind (cat word_ ([32] : List UInt8)) fun s_7 =>
  Option.bind (ref27_Digits a.Crash.After 10) fun digits1 =>
  Option.bind (cat s_7 digits1) fun s_8 =>
  Option.bind (cat s_8 ([32] : List UInt8)) fun s_9 =>
  Option.bind (ref31_hex a.Crash.Torn) fun hex1 =>
  Option.bind (cat s_9 hex1) fun s_10 =>
  some s_10)
  (cond (a.Do == 7)
  (Option.bind (cat word_ ([32] : List UInt8)) fun s_11 =>
  Option.bind (ref27_Digits a.Call.Ino 10) fun digits2 =>
  Option.bind (cat s_11 digits2) fun s_12 =>
  Option.bind
  (cond (ref31_three a.Call.Do)
  (Option.bind (cat s_12 ([32] : List UInt8)) fun s_13 =>
  Option.bind (ref27_Digits a.Call.A 10) fun digits3 =>
  Option.bind (cat s_13 digits3) fun s_14 =>
  Option.bind (cat s_14 ([32] : List UInt8)) fun s_15 =>
  Option.bind (ref27_Digits a.Call.B 10) fun digits4 =>
  Option.bind (cat s_15 digits4) fun s_16 =>
  some s_16)
  (some s_12)) fun s_13 =>
  cond (ref31_named a.Call.Do)
  (Option.bind (cat s_13 ([32] : List UInt8)) fun s_17 =>
  Option.bind (ref27_Quote a.Call.Name) fun quote =>
  Option.bind (cat s_17 quote) fun s_18 =>
  cond (a.Call.Do == 8)
  (cond a.Call.On
  (Option.bind (cat s_18 ([32, 111, 110] : List UInt8)) fun s_19 =>
  some s_19)
  (some s_18))
  (some s_18))
  (cond (a.Call.Do == 8)
  (cond a.Call.On
  (Option.bind (cat s_13 ([32, 111, 110] : List UInt8)) fun s_20 =>
  some s_20)
  (some s_13))
  (some s_13)))
  (some word_)))) fun s_5 =>
  Option.bind (cat s_5 ([10] : List UInt8)) fun s_21 =>
  some s_21)
noncomputable def ref31_Print_l1 (l_ : (List TApiAct)) (i : Nat) : Option (Sum Nat (Sum Unit ((List UInt8) × Int))) :=
  cond (decide ((i : Int) < (l_.length : Int)))
  (Option.bind (l_[i]?) fun x_ =>
  Option.bind (ref31_Check x_) fun check =>
  cond (check != 0)
  (some (.inr (.inr ([], check))))
  (some (.inl (i + 1))))
  (some (.inr (.inl ())))
noncomputable def ref31_Print_l2 (l_ : (List TApiAct)) (b : (List UInt8)) (i1 : Nat) : Option (Sum ((List UInt8) × Nat) (Sum (List UInt8) ((List UInt8) × Int))) :=
  cond (decide ((i1 : Int) < (l_.length : Int)))
  (Option.bind (l_[i1]?) fun x_1 =>
  Option.bind (ref31_Line x_1) fun line =>
  Option.bind (app b line) fun b1 =>
  cond (decide ((b1.length : Int) > 1048576))
  (some (.inr (.inr ([], 2))))
  (some (.inl (b1, (i1 + 1)))))
  (some (.inr (.inl b)))
noncomputable def ref31_Print (l_ : (List TApiAct)) : Option ((List UInt8) × Int) :=
  cond (decide ((l_.length : Int) > 16384))
  (some ([], 3))
  (bnd
  (loopO (fun s => ref31_Print_l1 l_ s) 0) fun _ =>
  bnd
  (loopO (fun s => ref31_Print_l2 l_ s.1 s.2) ([], 0)) fun b =>
  some (b, 0))
noncomputable def law31_ScriptPrints (l_ : (List TApiAct)) : Option Bool :=
  Option.bind (ref31_Much l_) fun much =>
  cond much
  (Option.bind law31_live fun live =>
  some live)
  (Option.bind (script_Print l_) fun print =>
  Option.bind (ref31_Print l_) fun print1 =>
  cond (print.1 == print1.1)
  (cond ((law31_num print.2) == print1.2)
  (Option.bind law31_live fun live1 =>
  some live1)
  (some false))
  (some false))
end Go.Proofs.YtgoedcjjckdlpaaDoor.F
