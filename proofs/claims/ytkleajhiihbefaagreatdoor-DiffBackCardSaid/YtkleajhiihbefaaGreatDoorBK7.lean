/- Texts in one: DBP. -/
import Derived.Test.YtkleajhiihbefaaGreatDoorBK6
set_option linter.unusedVariables false
set_option linter.unusedSimpArgs false
namespace Go.Proofs.YtkleajhiihbefaaGreatDoor.K
open Go Go.RowKit
structure TApiAttr where
 Name : (List UInt8)
 Value : (List UInt8)
 deriving DecidableEq
def rApiAttr : Rep TApiAttr where
 sz := 2
 im m cs x := ∃ A1 c1, cs = [.string ⟨x.Name.toArray⟩, .slice A1 x.Value.length c1] ∧ x.Name.length ≤ 9223372036854775807 ∧ SlI rU8 m A1 c1 x.Value
 wf x := rStr.wf x.Name ∧ (rSl rU8).wf x.Value
 mono hs := fun ⟨A1, c1, h, s0, s1⟩ => ⟨A1, c1, h, s0, s1.mono hs⟩
 len := fun ⟨A1, c1, h, s0, s1⟩ => by rw [h]; rfl
 one := fun ⟨A1, c1, h, s0, s1⟩ => by rw [h]; intro u hu; simp only [List.mem_cons, List.mem_nil_iff, or_false] at hu; rcases hu with rfl | rfl <;> rfl
structure TApiEntry where
 Path : (List UInt8)
 Kind : Int
 Mode : Int
 Uid : Int
 Gid : Int
 Time : Int
 Size : Int
 Data : (List UInt8)
 Target : (List UInt8)
 Dev : Int
 Attrs : (List TApiAttr)
 deriving DecidableEq
def rApiEntry : Rep TApiEntry where
 sz := 11
 im m cs x := ∃ A7 c7, ∃ A10 c10, cs = [.string ⟨x.Path.toArray⟩, .int .i64 x.Kind, .int .i64 x.Mode, .int .i64 x.Uid, .int .i64 x.Gid, .int .i64 x.Time, .int .i64 x.Size, .slice A7 x.Data.length c7, .string ⟨x.Target.toArray⟩, .int .i64 x.Dev, .slice A10 x.Attrs.length c10] ∧ x.Path.length ≤ 9223372036854775807 ∧ SlI rU8 m A7 c7 x.Data ∧ x.Target.length ≤ 9223372036854775807 ∧ SlI rApiAttr m A10 c10 x.Attrs
 wf x := rStr.wf x.Path ∧ rI64.wf x.Kind ∧ rI64.wf x.Mode ∧ rI64.wf x.Uid ∧ rI64.wf x.Gid ∧ rI64.wf x.Time ∧ rI64.wf x.Size ∧ (rSl rU8).wf x.Data ∧ rStr.wf x.Target ∧ rI64.wf x.Dev ∧ (rSl rApiAttr).wf x.Attrs
 mono hs := fun ⟨A7, c7, A10, c10, h, s0, s7, s8, s10⟩ => ⟨A7, c7, A10, c10, h, s0, s7.mono hs, s8, s10.mono hs⟩
 len := fun ⟨A7, c7, A10, c10, h, s0, s7, s8, s10⟩ => by rw [h]; rfl
 one := fun ⟨A7, c7, A10, c10, h, s0, s7, s8, s10⟩ => by rw [h]; intro u hu; simp only [List.mem_cons, List.mem_nil_iff, or_false] at hu; rcases hu with rfl | rfl | rfl | rfl | rfl | rfl | rfl | rfl | rfl | rfl | rfl <;> rfl
structure TApiKid where
 Name : (List UInt8)
 Ino : Int
 deriving DecidableEq
def rApiKid : Rep TApiKid where
 sz := 2
 im m cs x := cs = [.string ⟨x.Name.toArray⟩, .int .i64 x.Ino] ∧ x.Name.length ≤ 9223372036854775807
 wf x := rStr.wf x.Name ∧ rI64.wf x.Ino
 mono hs := fun ⟨h, s0⟩ => ⟨h, s0⟩
 len := fun ⟨h, s0⟩ => by rw [h]; rfl
 one := fun ⟨h, s0⟩ => by rw [h]; intro u hu; simp only [List.mem_cons, List.mem_nil_iff, or_false] at hu; rcases hu with rfl | rfl <;> rfl
structure TApiNode where
 Kind : Int
 Mode : Int
 Uid : Int
 Gid : Int
 Time : Int
 Size : Int
 Data : (List UInt8)
 Target : (List UInt8)
 Dev : Int
 Attrs : (List TApiAttr)
 Kids : (List TApiKid)
 Parent : Int
 Links : Int
 deriving DecidableEq
def rApiNode : Rep TApiNode where
 sz := 13
 im m cs x := ∃ A6 c6, ∃ A9 c9, ∃ A10 c10, cs = [.int .i64 x.Kind, .int .i64 x.Mode, .int .i64 x.Uid, .int .i64 x.Gid, .int .i64 x.Time, .int .i64 x.Size, .slice A6 x.Data.length c6, .string ⟨x.Target.toArray⟩, .int .i64 x.Dev, .slice A9 x.Attrs.length c9, .slice A10 x.Kids.length c10, .int .i64 x.Parent, .int .i64 x.Links] ∧ SlI rU8 m A6 c6 x.Data ∧ x.Target.length ≤ 9223372036854775807 ∧ SlI rApiAttr m A9 c9 x.Attrs ∧ SlI rApiKid m A10 c10 x.Kids
 wf x := rI64.wf x.Kind ∧ rI64.wf x.Mode ∧ rI64.wf x.Uid ∧ rI64.wf x.Gid ∧ rI64.wf x.Time ∧ rI64.wf x.Size ∧ (rSl rU8).wf x.Data ∧ rStr.wf x.Target ∧ rI64.wf x.Dev ∧ (rSl rApiAttr).wf x.Attrs ∧ (rSl rApiKid).wf x.Kids ∧ rI64.wf x.Parent ∧ rI64.wf x.Links
 mono hs := fun ⟨A6, c6, A9, c9, A10, c10, h, s6, s7, s9, s10⟩ => ⟨A6, c6, A9, c9, A10, c10, h, s6.mono hs, s7, s9.mono hs, s10.mono hs⟩
 len := fun ⟨A6, c6, A9, c9, A10, c10, h, s6, s7, s9, s10⟩ => by rw [h]; rfl
 one := fun ⟨A6, c6, A9, c9, A10, c10, h, s6, s7, s9, s10⟩ => by rw [h]; intro u hu; simp only [List.mem_cons, List.mem_nil_iff, or_false] at hu; rcases hu with rfl | rfl | rfl | rfl | rfl | rfl | rfl | rfl | rfl | rfl | rfl | rfl | rfl <;> rfl
structure TTreeNamed where
 f_parts : (List (List UInt8))
 f_path : (List UInt8)
 f_of : (List UInt8)
 deriving DecidableEq
def rTreeNamed : Rep TTreeNamed where
 sz := 3
 im m cs x := ∃ A0 c0, cs = [.slice A0 x.f_parts.length c0, .string ⟨x.f_path.toArray⟩, .string ⟨x.f_of.toArray⟩] ∧ SlI rStr m A0 c0 x.f_parts ∧ x.f_path.length ≤ 9223372036854775807 ∧ x.f_of.length ≤ 9223372036854775807
 wf x := (rSl rStr).wf x.f_parts ∧ rStr.wf x.f_path ∧ rStr.wf x.f_of
 mono hs := fun ⟨A0, c0, h, s0, s1, s2⟩ => ⟨A0, c0, h, s0.mono hs, s1, s2⟩
 len := fun ⟨A0, c0, h, s0, s1, s2⟩ => by rw [h]; rfl
 one := fun ⟨A0, c0, h, s0, s1, s2⟩ => by rw [h]; intro u hu; simp only [List.mem_cons, List.mem_nil_iff, or_false] at hu; rcases hu with rfl | rfl | rfl <;> rfl
structure TApiEdit where
 Do : Int
 Entry : TApiEntry
 deriving DecidableEq
def rApiEdit : Rep TApiEdit where
 sz := 12
 im m cs x := ∃ A8 c8, ∃ A11 c11, cs = [.int .i64 x.Do, .string ⟨x.Entry.Path.toArray⟩, .int .i64 x.Entry.Kind, .int .i64 x.Entry.Mode, .int .i64 x.Entry.Uid, .int .i64 x.Entry.Gid, .int .i64 x.Entry.Time, .int .i64 x.Entry.Size, .slice A8 x.Entry.Data.length c8, .string ⟨x.Entry.Target.toArray⟩, .int .i64 x.Entry.Dev, .slice A11 x.Entry.Attrs.length c11] ∧ x.Entry.Path.length ≤ 9223372036854775807 ∧ SlI rU8 m A8 c8 x.Entry.Data ∧ x.Entry.Target.length ≤ 9223372036854775807 ∧ SlI rApiAttr m A11 c11 x.Entry.Attrs
 wf x := rI64.wf x.Do ∧ rApiEntry.wf x.Entry
 mono hs := fun ⟨A8, c8, A11, c11, h, s1, s8, s9, s11⟩ => ⟨A8, c8, A11, c11, h, s1, s8.mono hs, s9, s11.mono hs⟩
 len := fun ⟨A8, c8, A11, c11, h, s1, s8, s9, s11⟩ => by rw [h]; rfl
 one := fun ⟨A8, c8, A11, c11, h, s1, s8, s9, s11⟩ => by rw [h]; intro u hu; simp only [List.mem_cons, List.mem_nil_iff, or_false] at hu; rcases hu with rfl | rfl | rfl | rfl | rfl | rfl | rfl | rfl | rfl | rfl | rfl | rfl <;> rfl
end Go.Proofs.YtkleajhiihbefaaGreatDoor.K
namespace Go.Proofs.YtkleajhiihbefaaGreatDoor.F
open Go Go.RowKit Go.Proofs.YtkleajhiihbefaaGreatDoor.K Go.Proofs.YtkleajhiihbefaaGreatDoor.K.E
noncomputable def ref11_Much_l2 (l : List TApiEntry) (i : Int) (sum1 : Int) (k : Int) : Option (Sum (Int × Int) (Sum Int (Sum (Int × Int) (Sum Unit Bool)))) :=
(Option.bind (idx l i) fun x5 =>
(cond (decide (k < (x5.Attrs.length : Int)))
(Option.bind (idx l i) fun x6 =>
(Option.bind (idx x6.Attrs k) fun x7 =>
(Option.bind (idx l i) fun x8 =>
(Option.bind (idx x8.Attrs k) fun x9 =>
(Option.bind (idx l i) fun x10 =>
(Option.bind (idx x10.Attrs k) fun x11 =>
(cond (decide ((x11.Name.length : Int) > 300))
(some (.inr (.inr (.inr (.inr true)))))
(Option.bind (idx l i) fun x12 =>
(Option.bind (idx x12.Attrs k) fun x13 =>
(cond (decide ((x13.Value.length : Int) > 5000))
(some (.inr (.inr (.inr (.inr true)))))
(cond (decide ((IntKind.i64.wrap ((IntKind.i64.wrap (sum1 + (x7.Name.length : Int))) + (x9.Value.length : Int))) > 1000000))
(some (.inr (.inr (.inr (.inr true)))))
(some (.inl ((IntKind.i64.wrap ((IntKind.i64.wrap (sum1 + (x7.Name.length : Int))) + (x9.Value.length : Int))), (IntKind.i64.wrap (k + 1))))))))))))))))
(some (.inr (.inl sum1)))))
noncomputable def ref11_Much_l1 (l : List TApiEntry) (sum : Int) (i : Int) : Option (Sum (Int × Int) (Sum Unit Bool)) :=
(cond (decide (i < (l.length : Int)))
(bnd ((Option.bind (idx l i) fun x =>
(cond (decide ((x.Data.length : Int) > 70000))
(some (.inl true))
(Option.bind (idx l i) fun x1 =>
(cond (decide ((x1.Path.length : Int) > 5000))
(some (.inl true))
(Option.bind (idx l i) fun x2 =>
(cond (decide ((x2.Target.length : Int) > 5000))
(some (.inl true))
(Option.bind (idx l i) fun x3 =>
some (.inl (decide ((x3.Attrs.length : Int) > 70)))))))))) : Option (Sum Bool (Sum (Int × Int) (Sum Unit Bool)))) fun x4 =>
(cond x4
(some (.inr (.inr true)))
(bnd (loopO (fun s => ref11_Much_l2 l i s.1 s.2) ((sum, 0) : Int × Int)) fun sum2 =>
some (.inl (sum2, (IntKind.i64.wrap (i + 1)))))))
(some (.inr (.inl ()))))
noncomputable def ref11_Much (l : List TApiEntry) : Option (Bool) :=
(cond (decide ((l.length : Int) > 40))
(some true)
(bnd (loopO (fun s => ref11_Much_l1 l s.1 s.2) ((0, 0) : Int × Int)) fun _ =>
some false))
noncomputable def ref11_in (n : Int) (low : Int) (high : Int) : Option (Bool) :=
(cond (decide (low ≤ n))
(some (decide (n ≤ high)))
(some false))
noncomputable def ref10_Split_l1 (path : List UInt8) (i : Int) : Option (Sum Int (Sum Unit ((List (List UInt8)) × Int))) :=
(cond (decide (i < (path.length : Int)))
(Option.bind (idx path i) fun c =>
(cond ((c.toNat : Int) == 0)
(some (.inr (.inr ([], 6))))
(some (.inl (IntKind.i64.wrap (i + 1))))))
(some (.inr (.inl ()))))
noncomputable def ref10_Split_l2 (path : List UInt8) (l : List (List UInt8)) (from_ : Int) (i1 : Int) : Option (Sum ((List (List UInt8)) × Int × Int) (Sum ((List (List UInt8))) ((List (List UInt8)) × Int))) :=
(cond (decide (i1 ≤ (path.length : Int)))
(bnd ((cond (decide (i1 < (path.length : Int)))
(Option.bind (idx path i1) fun c1 =>
some (.inl ((c1.toNat : Int) != 47)))
(some (.inl false))) : Option (Sum Bool (Sum ((List (List UInt8)) × Int × Int) (Sum ((List (List UInt8))) ((List (List UInt8)) × Int))))) fun x =>
(cond x
(some (.inl (l, from_, (IntKind.i64.wrap (i1 + 1)))))
(Option.bind (slc path from_ i1) fun y_ =>
(cond (decide ((y_.length : Int) > 255))
(some (.inr (.inr ([], 1))))
(cond (y_ != ([] : List UInt8))
(cond (y_ != ([46] : List UInt8))
(Option.bind (app l ([y_])) fun z =>
some (.inl (z, (IntKind.i64.wrap (i1 + 1)), (IntKind.i64.wrap (i1 + 1)))))
(some (.inl (l, (IntKind.i64.wrap (i1 + 1)), (IntKind.i64.wrap (i1 + 1))))))
(some (.inl (l, (IntKind.i64.wrap (i1 + 1)), (IntKind.i64.wrap (i1 + 1))))))))))
(some (.inr (.inl l))))
noncomputable def ref10_Split (path : List UInt8) : Option ((List (List UInt8)) × Int) :=
(cond (decide ((path.length : Int) > 4096))
(some ([], 2))
(bnd (loopO (fun s => ref10_Split_l1 path s) (0 : Int)) fun _ =>
(bnd (loopO (fun s => ref10_Split_l2 path s.1 s.2.1 s.2.2) (([], 0, 0) : (List (List UInt8)) × Int × Int)) fun l1 =>
(cond (decide ((l1.length : Int) > 128))
(some ([], 3))
(some (l1, 0))))))
noncomputable def ref10_Valid_l1 (s_ : List UInt8) (i : Int) : Option (Sum Int (Sum Unit Bool)) :=
(cond (decide (i < (s_.length : Int)))
(Option.bind (idx s_ i) fun c =>
(cond ((c.toNat : Int) == 47)
(some (.inr (.inr false)))
(Option.bind (idx s_ i) fun c1 =>
(cond ((c1.toNat : Int) == 0)
(some (.inr (.inr false)))
(some (.inl (IntKind.i64.wrap (i + 1))))))))
(some (.inr (.inl ()))))
noncomputable def ref10_Valid (s_ : List UInt8) : Option (Bool) :=
(bnd ((cond (decide ((s_.length : Int) < 1))
(some (.inl true))
(cond (decide ((s_.length : Int) > 255))
(some (.inl true))
(cond (s_ == ([46] : List UInt8))
(some (.inl true))
(some (.inl (s_ == ([46, 46] : List UInt8))))))) : Option (Sum Bool Bool)) fun x =>
(cond x
(some false)
(bnd (loopO (fun s => ref10_Valid_l1 s_ s) (0 : Int)) fun _ =>
some true)))
noncomputable def ref10_Join_l1 (l : List (List UInt8)) (s_ : List UInt8) (i : Int) : Option (Sum ((List UInt8) × Int) (Sum ((List UInt8)) ((List UInt8) × Int))) :=
(cond (decide (i < (l.length : Int)))
(bnd ((Option.bind (idx l i) fun x =>
(cond (x != ([46, 46] : List UInt8))
(Option.bind (idx l i) fun x1 =>
(Option.bind (ref10_Valid x1) fun r =>
some (.inl (!r))))
(some (.inl false)))) : Option (Sum Bool (Sum ((List UInt8) × Int) (Sum ((List UInt8)) ((List UInt8) × Int))))) fun x2 =>
(cond x2
(some (.inr (.inr (([] : List UInt8), 1))))
(cond (decide (i > 0))
(Option.bind (cat s_ ([47] : List UInt8)) fun z =>
(Option.bind (idx l i) fun x3 =>
(Option.bind (cat z x3) fun z1 =>
some (.inl (z1, (IntKind.i64.wrap (i + 1)))))))
(Option.bind (idx l i) fun x4 =>
(Option.bind (cat s_ x4) fun z2 =>
some (.inl (z2, (IntKind.i64.wrap (i + 1)))))))))
(some (.inr (.inl s_))))
noncomputable def ref10_Join (l : List (List UInt8)) : Option ((List UInt8) × Int) :=
(cond (decide ((l.length : Int) > 128))
(some (([] : List UInt8), 3))
(bnd (loopO (fun s => ref10_Join_l1 l s.1 s.2) ((([] : List UInt8), 0) : (List UInt8) × Int)) fun s_1 =>
(cond (decide ((s_1.length : Int) > 4096))
(some (([] : List UInt8), 2))
(some (s_1, 0)))))
noncomputable def ref11_path_l1 (r : (List (List UInt8)) × Int) (i : Int) : Option (Sum Int (Sum Unit Int)) :=
(cond (decide (i < (r.1.length : Int)))
(Option.bind (idx r.1 i) fun x11 =>
(Option.bind (idx r.1 i) fun x12 =>
(Option.bind (ref10_Valid x12) fun r1 =>
(cond (!r1)
(some (.inr (.inr 6)))
(some (.inl (IntKind.i64.wrap (i + 1))))))))
(some (.inr (.inl ()))))
noncomputable def ref11_path (x : List UInt8) (x1 : Int) (x2 : Int) (x3 : Int) (x4 : Int) (x5 : Int) (x6 : Int) (x7 : List UInt8) (x8 : List UInt8) (x9 : Int) (x10 : List TApiAttr) : Option (Int) :=
(cond (x == ([] : List UInt8))
(cond (x1 == 2)
(some 0)
(some 6))
(Option.bind (ref10_Split x) fun r =>
(cond (r.2 != 0)
(some 6)
(bnd (loopO (fun s => ref11_path_l1 r s) (0 : Int)) fun _ =>
(Option.bind (ref10_Join r.1) fun r2 =>
(cond (r2.2 != 0)
(some 6)
(cond (r2.1 != x)
(some 6)
(cond (decide ((r.1.length : Int) > 64))
(some 3)
(some 0)))))))))
noncomputable def ref11_Up_l1 (path : List UInt8) (i : Int) : Option (Sum Int (Sum Unit ((List UInt8)))) :=
(cond (decide (i ≥ 0))
(Option.bind (idx path i) fun c =>
(cond ((c.toNat : Int) == 47)
(Option.bind (slc path 0 i) fun y_ =>
some (.inr (.inr y_)))
(some (.inl (IntKind.i64.wrap (i - 1))))))
(some (.inr (.inl ()))))
noncomputable def ref11_Up (path : List UInt8) : Option ((List UInt8)) :=
(bnd (loopO (fun s => ref11_Up_l1 path s) ((IntKind.i64.wrap ((path.length : Int) - 1)) : Int)) fun _ =>
some ([] : List UInt8))
noncomputable def ref11_text_l1 (s_ : List UInt8) (i : Int) : Option (Sum Int (Sum Unit Bool)) :=
(cond (decide (i < (s_.length : Int)))
(Option.bind (idx s_ i) fun c =>
(cond ((c.toNat : Int) == 0)
(some (.inr (.inr false)))
(some (.inl (IntKind.i64.wrap (i + 1))))))
(some (.inr (.inl ()))))
noncomputable def ref11_text (s_ : List UInt8) (low : Int) (high : Int) : Option (Bool) :=
(Option.bind (ref11_in (s_.length : Int) low high) fun r =>
(cond (!r)
(some false)
(bnd (loopO (fun s => ref11_text_l1 s_ s) (0 : Int)) fun _ =>
some true)))
noncomputable def ref11_fields_l1 (x10 : List TApiAttr) (i : Int) : Option (Sum Int (Sum Unit Int)) :=
(cond (decide (i < (x10.length : Int)))
(Option.bind (idx x10 i) fun x13 =>
(Option.bind (ref11_text x13.Name 1 255) fun r11 =>
(cond (!r11)
(some (.inr (.inr 1)))
(Option.bind (idx x10 i) fun x14 =>
(cond (decide ((x14.Value.length : Int) > 4096))
(some (.inr (.inr 1)))
(some (.inl (IntKind.i64.wrap (i + 1)))))))))
(some (.inr (.inl ()))))
noncomputable def ref11_fields_l3 (x10 : List TApiAttr) (i1 : Int) (k : Int) : Option (Sum Int (Sum Unit (Sum Int (Sum Unit Int)))) :=
(cond (decide (k < i1))
(Option.bind (idx x10 k) fun x15 =>
(Option.bind (idx x10 i1) fun x16 =>
(cond (x15.Name == x16.Name)
(some (.inr (.inr (.inr (.inr 110)))))
(some (.inl (IntKind.i64.wrap (k + 1)))))))
(some (.inr (.inl ()))))
noncomputable def ref11_fields_l2 (x10 : List TApiAttr) (i1 : Int) : Option (Sum Int (Sum Unit Int)) :=
(cond (decide (i1 < (x10.length : Int)))
(bnd (loopO (fun s => ref11_fields_l3 x10 i1 s) (0 : Int)) fun _ =>
some (.inl (IntKind.i64.wrap (i1 + 1))))
(some (.inr (.inl ()))))
noncomputable def ref11_fields (x : List UInt8) (x1 : Int) (x2 : Int) (x3 : Int) (x4 : Int) (x5 : Int) (x6 : Int) (x7 : List UInt8) (x8 : List UInt8) (x9 : Int) (x10 : List TApiAttr) : Option (Int) :=
(bnd ((Option.bind (ref11_in x2 0 4095) fun r =>
(cond (!r)
(some (.inl true))
(Option.bind (ref11_in x3 0 4294967295) fun r1 =>
(cond (!r1)
(some (.inl true))
(Option.bind (ref11_in x4 0 4294967295) fun r2 =>
(cond (!r2)
(some (.inl true))
(Option.bind (ref11_in x5 0 4294967295) fun r3 =>
some (.inl (!r3))))))))) : Option (Sum Bool Int)) fun x11 =>
(cond x11
(some 1)
(bnd ((cond (x1 == 1)
(Option.bind (ref11_in x6 (x7.length : Int) 1099511627775) fun r4 =>
(cond (!r4)
(some (.inl true))
(cond (x1 == 3)
(Option.bind (ref11_text x8 1 4096) fun r5 =>
(cond (!r5)
(some (.inl true))
(cond (decide (x1 > 3))
(Option.bind (ref11_in x9 0 4294967295) fun r6 =>
(cond (!r6)
(some (.inl true))
(some (.inl (decide ((x10.length : Int) > 64))))))
(some (.inl (decide ((x10.length : Int) > 64)))))))
(cond (decide (x1 > 3))
(Option.bind (ref11_in x9 0 4294967295) fun r7 =>
(cond (!r7)
(some (.inl true))
(some (.inl (decide ((x10.length : Int) > 64))))))
(some (.inl (decide ((x10.length : Int) > 64))))))))
(cond (x1 == 3)
(Option.bind (ref11_text x8 1 4096) fun r8 =>
(cond (!r8)
(some (.inl true))
(cond (decide (x1 > 3))
(Option.bind (ref11_in x9 0 4294967295) fun r9 =>
(cond (!r9)
(some (.inl true))
(some (.inl (decide ((x10.length : Int) > 64))))))
(some (.inl (decide ((x10.length : Int) > 64)))))))
(cond (decide (x1 > 3))
(Option.bind (ref11_in x9 0 4294967295) fun r10 =>
(cond (!r10)
(some (.inl true))
(some (.inl (decide ((x10.length : Int) > 64))))))
(some (.inl (decide ((x10.length : Int) > 64))))))) : Option (Sum Bool Int)) fun x12 =>
(cond x12
(some 1)
(bnd (loopO (fun s => ref11_fields_l1 x10 s) (0 : Int)) fun _ =>
(bnd (loopO (fun s => ref11_fields_l2 x10 s) (0 : Int)) fun _ =>
some 0))))))
noncomputable def ref11_entry_l1 (l : List TApiEntry) (i : Int) (x : TApiEntry) (k : Int) : Option (Sum Int (Sum Unit Int)) :=
(cond (decide (k < i))
(Option.bind (idx l k) fun x1 =>
(cond (x1.Path == x.Path)
(some (.inr (.inr 110)))
(some (.inl (IntKind.i64.wrap (k + 1))))))
(some (.inr (.inl ()))))
noncomputable def ref11_entry_l2 (l : List TApiEntry) (x : TApiEntry) (up_ : Bool) (named : Bool) (k1 : Int) : Option (Sum (Bool × Bool × Int) (Sum (Bool × Bool) Int)) :=
(cond (decide (k1 < (l.length : Int)))
(bnd ((cond up_
(some (.inl true))
(Option.bind (idx l k1) fun x2 =>
(Option.bind (ref11_Up x.Path) fun r3 =>
(cond (x2.Path == r3)
(Option.bind (idx l k1) fun x3 =>
some (.inl (x3.Kind == 2)))
(some (.inl false)))))) : Option (Sum Bool (Sum (Bool × Bool × Int) (Sum (Bool × Bool) Int)))) fun up_1 =>
(cond named
(some (.inl (up_1, true, (IntKind.i64.wrap (k1 + 1)))))
(Option.bind (idx l k1) fun x4 =>
(cond (x4.Path == x.Target)
(Option.bind (idx l k1) fun x5 =>
(Option.bind (ref11_in x5.Kind 1 5) fun r4 =>
(cond r4
(Option.bind (idx l k1) fun x6 =>
some (.inl (up_1, (x6.Kind != 2), (IntKind.i64.wrap (k1 + 1)))))
(some (.inl (up_1, false, (IntKind.i64.wrap (k1 + 1))))))))
(some (.inl (up_1, false, (IntKind.i64.wrap (k1 + 1)))))))))
(some (.inr (.inl (up_, named)))))
noncomputable def ref11_entry (l : List TApiEntry) (i : Int) : Option (Int) :=
(Option.bind (idx l i) fun x =>
(Option.bind (ref11_in x.Kind 1 6) fun r =>
(cond (!r)
(some 8)
(Option.bind (ref11_path x.Path x.Kind x.Mode x.Uid x.Gid x.Time x.Size x.Data x.Target x.Dev x.Attrs) fun r1 =>
(cond (r1 != 0)
(some r1)
(bnd (loopO (fun s => ref11_entry_l1 l i x s) (0 : Int)) fun _ =>
(Option.bind (ref11_Up x.Path) fun r2 =>
(bnd (loopO (fun s => ref11_entry_l2 l x s.1 s.2.1 s.2.2) (((r2 == ([] : List UInt8)), false, 0) : Bool × Bool × Int)) fun j1 =>
(bnd ((cond (!j1.1)
(some (.inl true))
(cond (x.Kind == 6)
(some (.inl (!j1.2)))
(some (.inl false)))) : Option (Sum Bool Int)) fun x7 =>
(cond x7
(some 4)
(cond (x.Kind == 6)
(some 0)
(Option.bind (ref11_fields x.Path x.Kind x.Mode x.Uid x.Gid x.Time x.Size x.Data x.Target x.Dev x.Attrs) fun r5 =>
some r5))))))))))))
noncomputable def ref11_Check_l1 (l : List TApiEntry) (sum : Int) (i : Int) : Option (Sum (Int × Int) (Sum Unit (Int × Int))) :=
(cond (decide (i < (l.length : Int)))
(Option.bind (idx l i) fun x =>
(cond (x.Kind != 1)
(some (.inl (sum, (IntKind.i64.wrap (i + 1)))))
(Option.bind (idx l i) fun x1 =>
(cond (decide ((x1.Data.length : Int) > (IntKind.i64.wrap (8388608 - sum))))
(some (.inr (.inr (0, 2))))
(Option.bind (idx l i) fun x2 =>
some (.inl ((IntKind.i64.wrap (sum + (x2.Data.length : Int))), (IntKind.i64.wrap (i + 1)))))))))
(some (.inr (.inl ()))))
noncomputable def ref11_Check_l2 (l : List TApiEntry) (i1 : Int) : Option (Sum Int (Sum Unit (Int × Int))) :=
(cond (decide (i1 < (l.length : Int)))
(Option.bind (ref11_entry l i1) fun r =>
(cond (r != 0)
(some (.inr (.inr (i1, r))))
(some (.inl (IntKind.i64.wrap (i1 + 1))))))
(some (.inr (.inl ()))))
noncomputable def ref11_Check (l : List TApiEntry) : Option (Int × Int) :=
(cond (decide ((l.length : Int) > 16384))
(some (0, 3))
(bnd (loopO (fun s => ref11_Check_l1 l s.1 s.2) ((0, 0) : Int × Int)) fun _ =>
(bnd (loopO (fun s => ref11_Check_l2 l s) (0 : Int)) fun _ =>
some (0, 0))))
noncomputable def ref11_Attrs_l3 (l : List TApiAttr) (out : List TApiAttr) (i : Int) (done : Bool) (k : Int) : Option (Sum (Bool × Int) (Sum Bool (Sum (Int × Int) (Sum Int (Sum ((List TApiAttr)) (Sum ((List TApiAttr)) ((List TApiAttr)))))))) :=
(cond (decide (k < (out.length : Int)))
(cond done
(some (.inl (true, (IntKind.i64.wrap (k + 1)))))
(Option.bind (idx l i) fun x =>
(Option.bind (idx out k) fun x1 =>
(Option.bind (idx out k) fun x2 =>
some (.inl ((x2.Name == x.Name), (IntKind.i64.wrap (k + 1))))))))
(some (.inr (.inl done))))
noncomputable def ref11_Attrs_l2 (l : List TApiAttr) (out : List TApiAttr) (best : Int) (i : Int) : Option (Sum (Int × Int) (Sum Int (Sum ((List TApiAttr)) (Sum ((List TApiAttr)) ((List TApiAttr)))))) :=
(cond (decide (i < (l.length : Int)))
(bnd (loopO (fun s => ref11_Attrs_l3 l out i s.1 s.2) ((false, 0) : Bool × Int)) fun done1 =>
(cond (!done1)
(cond (decide (best < 0))
(some (.inl (i, (IntKind.i64.wrap (i + 1)))))
(Option.bind (idx l i) fun x3 =>
(Option.bind (idx l best) fun x4 =>
(cond (ltB x3.Name x4.Name)
(some (.inl (i, (IntKind.i64.wrap (i + 1)))))
(some (.inl (best, (IntKind.i64.wrap (i + 1)))))))))
(some (.inl (best, (IntKind.i64.wrap (i + 1)))))))
(some (.inr (.inl best))))
noncomputable def ref11_Attrs_l1 (l : List TApiAttr) (out : List TApiAttr) : Option (Sum ((List TApiAttr)) (Sum ((List TApiAttr)) ((List TApiAttr)))) :=
(cond (decide ((out.length : Int) < (l.length : Int)))
(bnd (loopO (fun s => ref11_Attrs_l2 l out s.1 s.2) (((-1), 0) : Int × Int)) fun best1 =>
(cond (decide (best1 < 0))
(some (.inr (.inr out)))
(Option.bind (idx l best1) fun x5 =>
(Option.bind (app out ([x5])) fun z =>
some (.inl z)))))
(some (.inr (.inl out))))
noncomputable def ref11_Attrs (l : List TApiAttr) : Option ((List TApiAttr)) :=
(bnd (loopO (fun s => ref11_Attrs_l1 l s) ([] : (List TApiAttr))) fun out1 =>
some out1)
noncomputable def ref11_Node_l1 (b : Int) (b1 : Int) (b2 : Int) (b3 : Int) (b4 : Int) (b5 : Int) (b6 : List UInt8) (b7 : List UInt8) (b8 : Int) (b9 : List TApiAttr) (b10 : List TApiKid) (b11 : Int) (b12 : Int) : Option (Sum ((Int × Int × Int × Int × Int × Int × (List UInt8) × (List UInt8) × Int × (List TApiAttr) × (List TApiKid) × Int × Int)) (Sum ((Int × Int × Int × Int × Int × Int × (List UInt8) × (List UInt8) × Int × (List TApiAttr) × (List TApiKid) × Int × Int)) (Sum ((Int × Int × Int × Int × Int × Int × (List UInt8) × (List UInt8) × Int × (List TApiAttr) × (List TApiKid) × Int × Int)) ((Int × Int × Int × Int × Int × Int × (List UInt8) × (List UInt8) × Int × (List TApiAttr) × (List TApiKid) × Int × Int))))) :=
(cond (decide ((b6.length : Int) > 0))
(Option.bind (idx b6 (IntKind.i64.wrap ((b6.length : Int) - 1))) fun x11 =>
(cond ((x11.toNat : Int) == 0)
(Option.bind (slc b6 0 (IntKind.i64.wrap ((b6.length : Int) - 1))) fun y_ =>
some (.inl (b, b1, b2, b3, b4, b5, y_, b7, b8, b9, b10, b11, b12)))
(some (.inr (.inl (b, b1, b2, b3, b4, b5, b6, b7, b8, b9, b10, b11, b12))))))
(some (.inr (.inl (b, b1, b2, b3, b4, b5, b6, b7, b8, b9, b10, b11, b12)))))
noncomputable def ref11_Node (x : List UInt8) (x1 : Int) (x2 : Int) (x3 : Int) (x4 : Int) (x5 : Int) (x6 : Int) (x7 : List UInt8) (x8 : List UInt8) (x9 : Int) (x10 : List TApiAttr) : Option ((Int × Int × Int × Int × Int × Int × (List UInt8) × (List UInt8) × Int × (List TApiAttr) × (List TApiKid) × Int × Int)) :=
(bnd ((dup (.f .o .o) (Option.bind (ref11_Attrs x10) fun r =>
some (.inl (x1, x2, x3, x4, x5, 0, [], ([] : List UInt8), 0, r, [], 0, 0)))) : Option (Sum ((Int × Int × Int × Int × Int × Int × (List UInt8) × (List UInt8) × Int × (List TApiAttr) × (List TApiKid) × Int × Int)) ((Int × Int × Int × Int × Int × Int × (List UInt8) × (List UInt8) × Int × (List TApiAttr) × (List TApiKid) × Int × Int)))) fun j =>
(bnd ((cond (x1 == 1)
(bnd (loopO (fun s => ref11_Node_l1 s.1 s.2.1 s.2.2.1 s.2.2.2.1 s.2.2.2.2.1 s.2.2.2.2.2.1 s.2.2.2.2.2.2.1 s.2.2.2.2.2.2.2.1 s.2.2.2.2.2.2.2.2.1 s.2.2.2.2.2.2.2.2.2.1 s.2.2.2.2.2.2.2.2.2.2.1 s.2.2.2.2.2.2.2.2.2.2.2.1 s.2.2.2.2.2.2.2.2.2.2.2.2) ((j.1, j.2.1, j.2.2.1, j.2.2.2.1, j.2.2.2.2.1, x6, x7, j.2.2.2.2.2.2.2.1, j.2.2.2.2.2.2.2.2.1, j.2.2.2.2.2.2.2.2.2.1, j.2.2.2.2.2.2.2.2.2.2.1, j.2.2.2.2.2.2.2.2.2.2.2.1, j.2.2.2.2.2.2.2.2.2.2.2.2) : (Int × Int × Int × Int × Int × Int × (List UInt8) × (List UInt8) × Int × (List TApiAttr) × (List TApiKid) × Int × Int))) fun j1 =>
some (.inl (j1.1, j1.2.1, j1.2.2.1, j1.2.2.2.1, j1.2.2.2.2.1, j1.2.2.2.2.2.1, j1.2.2.2.2.2.2.1, j1.2.2.2.2.2.2.2.1, j1.2.2.2.2.2.2.2.2.1, j1.2.2.2.2.2.2.2.2.2.1, j1.2.2.2.2.2.2.2.2.2.2.1, j1.2.2.2.2.2.2.2.2.2.2.2.1, j1.2.2.2.2.2.2.2.2.2.2.2.2)))
(some (.inl (j.1, j.2.1, j.2.2.1, j.2.2.2.1, j.2.2.2.2.1, j.2.2.2.2.2.1, j.2.2.2.2.2.2.1, j.2.2.2.2.2.2.2.1, j.2.2.2.2.2.2.2.2.1, j.2.2.2.2.2.2.2.2.2.1, j.2.2.2.2.2.2.2.2.2.2.1, j.2.2.2.2.2.2.2.2.2.2.2.1, j.2.2.2.2.2.2.2.2.2.2.2.2)))) : Option (Sum ((Int × Int × Int × Int × Int × Int × (List UInt8) × (List UInt8) × Int × (List TApiAttr) × (List TApiKid) × Int × Int)) ((Int × Int × Int × Int × Int × Int × (List UInt8) × (List UInt8) × Int × (List TApiAttr) × (List TApiKid) × Int × Int)))) fun j2 =>
(bnd ((cond (x1 == 3)
(some (.inl (j2.1, j2.2.1, j2.2.2.1, j2.2.2.2.1, j2.2.2.2.2.1, j2.2.2.2.2.2.1, j2.2.2.2.2.2.2.1, x8, j2.2.2.2.2.2.2.2.2.1, j2.2.2.2.2.2.2.2.2.2.1, j2.2.2.2.2.2.2.2.2.2.2.1, j2.2.2.2.2.2.2.2.2.2.2.2.1, j2.2.2.2.2.2.2.2.2.2.2.2.2)))
(some (.inl (j2.1, j2.2.1, j2.2.2.1, j2.2.2.2.1, j2.2.2.2.2.1, j2.2.2.2.2.2.1, j2.2.2.2.2.2.2.1, j2.2.2.2.2.2.2.2.1, j2.2.2.2.2.2.2.2.2.1, j2.2.2.2.2.2.2.2.2.2.1, j2.2.2.2.2.2.2.2.2.2.2.1, j2.2.2.2.2.2.2.2.2.2.2.2.1, j2.2.2.2.2.2.2.2.2.2.2.2.2)))) : Option (Sum ((Int × Int × Int × Int × Int × Int × (List UInt8) × (List UInt8) × Int × (List TApiAttr) × (List TApiKid) × Int × Int)) ((Int × Int × Int × Int × Int × Int × (List UInt8) × (List UInt8) × Int × (List TApiAttr) × (List TApiKid) × Int × Int)))) fun j3 =>
(cond (x1 == 4)
(some (j3.1, j3.2.1, j3.2.2.1, j3.2.2.2.1, j3.2.2.2.2.1, j3.2.2.2.2.2.1, j3.2.2.2.2.2.2.1, j3.2.2.2.2.2.2.2.1, x9, j3.2.2.2.2.2.2.2.2.2.1, j3.2.2.2.2.2.2.2.2.2.2.1, j3.2.2.2.2.2.2.2.2.2.2.2.1, j3.2.2.2.2.2.2.2.2.2.2.2.2))
(cond (x1 == 5)
(some (j3.1, j3.2.1, j3.2.2.1, j3.2.2.2.1, j3.2.2.2.2.1, j3.2.2.2.2.2.1, j3.2.2.2.2.2.2.1, j3.2.2.2.2.2.2.2.1, x9, j3.2.2.2.2.2.2.2.2.2.1, j3.2.2.2.2.2.2.2.2.2.2.1, j3.2.2.2.2.2.2.2.2.2.2.2.1, j3.2.2.2.2.2.2.2.2.2.2.2.2))
(some (j3.1, j3.2.1, j3.2.2.1, j3.2.2.2.1, j3.2.2.2.2.1, j3.2.2.2.2.2.1, j3.2.2.2.2.2.2.1, j3.2.2.2.2.2.2.2.1, j3.2.2.2.2.2.2.2.2.1, j3.2.2.2.2.2.2.2.2.2.1, j3.2.2.2.2.2.2.2.2.2.2.1, j3.2.2.2.2.2.2.2.2.2.2.2.1, j3.2.2.2.2.2.2.2.2.2.2.2.2)))))))
noncomputable def ref10_length (a : Int) (b : Int) : Option (Int) :=
(cond (decide (a < b))
(some (-1))
(cond (decide (a > b))
(some 1)
(some 0)))
noncomputable def ref10_text_l1 (a : List UInt8) (b : List UInt8) (i : Int) : Option (Sum Int (Sum Unit Int)) :=
(bnd ((cond (decide (i < (a.length : Int)))
(some (.inl (decide (i < (b.length : Int)))))
(some (.inl false))) : Option (Sum Bool (Sum Int (Sum Unit Int)))) fun x =>
(cond x
(Option.bind (idx a i) fun c =>
(Option.bind (idx b i) fun c1 =>
(cond (decide ((c.toNat : Int) < (c1.toNat : Int)))
(some (.inr (.inr (-1))))
(Option.bind (idx a i) fun c2 =>
(Option.bind (idx b i) fun c3 =>
(cond (decide ((c2.toNat : Int) > (c3.toNat : Int)))
(some (.inr (.inr 1)))
(some (.inl (IntKind.i64.wrap (i + 1))))))))))
(some (.inr (.inl ())))))
noncomputable def ref10_text (a : List UInt8) (b : List UInt8) : Option (Int) :=
(bnd (loopO (fun s => ref10_text_l1 a b s) (0 : Int)) fun _ =>
(Option.bind (ref10_length (a.length : Int) (b.length : Int)) fun r =>
some r))
noncomputable def ref10_Order_l1 (a : List (List UInt8)) (b : List (List UInt8)) (i : Int) : Option (Sum Int (Sum Unit Int)) :=
(bnd ((cond (decide (i < (a.length : Int)))
(some (.inl (decide (i < (b.length : Int)))))
(some (.inl false))) : Option (Sum Bool (Sum Int (Sum Unit Int)))) fun x =>
(cond x
(Option.bind (idx a i) fun x1 =>
(Option.bind (idx b i) fun x2 =>
(Option.bind (ref10_text x1 x2) fun r =>
(cond (r != 0)
(some (.inr (.inr r)))
(some (.inl (IntKind.i64.wrap (i + 1))))))))
(some (.inr (.inl ())))))
noncomputable def ref10_Order (a : List (List UInt8)) (b : List (List UInt8)) : Option (Int) :=
(bnd (loopO (fun s => ref10_Order_l1 a b s) (0 : Int)) fun _ =>
(Option.bind (ref10_length (a.length : Int) (b.length : Int)) fun r1 =>
some r1))
noncomputable def ref11_Order_l2 (l : List TApiEntry) (done : List Bool) (best : Int) (at_ : List (List UInt8)) (i : Int) : Option (Sum (Int × (List (List UInt8)) × Int) (Sum Int (Sum ((List Int) × (List Bool)) (Sum Unit ((List Int)))))) :=
(cond (decide (i < (l.length : Int)))
(bnd ((Option.bind (idx done i) fun x =>
(Option.bind (idx done i) fun x1 =>
(cond x1
(some (.inl true))
(Option.bind (idx l i) fun x2 =>
some (.inl (x2.Path == ([] : List UInt8))))))) : Option (Sum Bool (Sum (Int × (List (List UInt8)) × Int) (Sum Int (Sum ((List Int) × (List Bool)) (Sum Unit ((List Int)))))))) fun x3 =>
(cond x3
(some (.inl (best, at_, (IntKind.i64.wrap (i + 1)))))
(Option.bind (idx l i) fun x4 =>
(Option.bind (ref10_Split x4.Path) fun r =>
(cond (decide (best < 0))
(some (.inl (i, r.1, (IntKind.i64.wrap (i + 1)))))
(Option.bind (ref10_Order r.1 at_) fun r1 =>
(cond (decide (r1 < 0))
(some (.inl (i, r.1, (IntKind.i64.wrap (i + 1)))))
(some (.inl (best, at_, (IntKind.i64.wrap (i + 1))))))))))))
(some (.inr (.inl best))))
noncomputable def ref11_Order_l1 (l : List TApiEntry) (out : List Int) (done : List Bool) : Option (Sum ((List Int) × (List Bool)) (Sum Unit ((List Int)))) :=
(bnd (loopO (fun s => ref11_Order_l2 l done s.1 s.2.1 s.2.2) (((-1), [], 0) : Int × (List (List UInt8)) × Int)) fun best1 =>
(cond (decide (best1 < 0))
(some (.inr (.inr out)))
(Option.bind (idx done best1) fun x5 =>
(Option.bind (idx done best1) fun x6 =>
(Option.bind (app out ([best1])) fun z =>
some (.inl (z, (List.set done best1.toNat true))))))))
noncomputable def ref11_Order (l : List TApiEntry) : Option ((List Int)) :=
(Option.bind (mkz 1 false (l.length : Int)) fun made =>
(bnd (loopO (fun s => ref11_Order_l1 l s.1 s.2) (([], made) : (List Int) × (List Bool))) fun _ =>
none))
noncomputable def ref11_owner_l1 (l : List TApiEntry) (i : Int) (k : Int) : Option (Sum Int (Sum Unit Int)) :=
(cond (decide (k < (l.length : Int)))
(Option.bind (idx l k) fun x1 =>
(Option.bind (idx l i) fun x2 =>
(cond (x1.Path == x2.Target)
(some (.inr (.inr k)))
(some (.inl (IntKind.i64.wrap (k + 1)))))))
(some (.inr (.inl ()))))
noncomputable def ref11_owner (l : List TApiEntry) (i : Int) : Option (Int) :=
(Option.bind (idx l i) fun x =>
(cond (x.Kind != 6)
(some i)
(bnd (loopO (fun s => ref11_owner_l1 l i s) (0 : Int)) fun _ =>
some i)))
noncomputable def ref11_Last_l1 (path : List UInt8) (i : Int) : Option (Sum Int (Sum Unit ((List UInt8)))) :=
(cond (decide (i ≥ 0))
(Option.bind (idx path i) fun c =>
(cond ((c.toNat : Int) == 47)
(Option.bind (slc path (IntKind.i64.wrap (i + 1)) (path.length : Int)) fun y_ =>
some (.inr (.inr y_)))
(some (.inl (IntKind.i64.wrap (i - 1))))))
(some (.inr (.inl ()))))
noncomputable def ref11_Last (path : List UInt8) : Option ((List UInt8)) :=
(bnd (loopO (fun s => ref11_Last_l1 path s) ((IntKind.i64.wrap ((path.length : Int) - 1)) : Int)) fun _ =>
some path)
noncomputable def ref11_Canon_l1 (l : List TApiEntry) (i : Int) (b : List UInt8) (b1 : Int) (b2 : Int) (b3 : Int) (b4 : Int) (b5 : Int) (b6 : Int) (b7 : List UInt8) (b8 : List UInt8) (b9 : Int) (b10 : List TApiAttr) : Option (Sum (Int × ((List UInt8) × Int × Int × Int × Int × Int × Int × (List UInt8) × (List UInt8) × Int × (List TApiAttr))) (Sum (((List UInt8) × Int × Int × Int × Int × Int × Int × (List UInt8) × (List UInt8) × Int × (List TApiAttr))) (((List TApiNode))))) :=
(cond (decide (i < (l.length : Int)))
(Option.bind (idx l i) fun x =>
(cond (x.Path == ([] : List UInt8))
(Option.bind (idx l i) fun x1 =>
some (.inl ((IntKind.i64.wrap (i + 1)), (x1.Path, x1.Kind, x1.Mode, x1.Uid, x1.Gid, x1.Time, x1.Size, x1.Data, x1.Target, x1.Dev, x1.Attrs))))
(some (.inl ((IntKind.i64.wrap (i + 1)), (b, b1, b2, b3, b4, b5, b6, b7, b8, b9, b10))))))
(some (.inr (.inl (b, b1, b2, b3, b4, b5, b6, b7, b8, b9, b10)))))
noncomputable def ref11_Canon_l3 (owners : List Int) (r2 : Int) (ino : Int) (j1 : Int) : Option (Sum (Int × Int) (Sum Int (Sum ((List Int) × Int × ((List TApiNode))) (Sum (((List TApiNode))) (((List TApiNode))))))) :=
(cond (decide (j1 < (owners.length : Int)))
(Option.bind (idx owners j1) fun x6 =>
(Option.bind (idx owners j1) fun x7 =>
(cond (x7 == r2)
(some (.inl ((IntKind.i64.wrap (j1 + 1)), (IntKind.i64.wrap (j1 + 1)))))
(some (.inl (ino, (IntKind.i64.wrap (j1 + 1))))))))
(some (.inr (.inl ino))))
noncomputable def ref11_Canon_l4 (l : List TApiEntry) (x5 : Int) (j4 : (List Int) × Int × ((List TApiNode))) (up_ : Int) (j5 : Int) : Option (Sum (Int × Int) (Sum Int (Sum ((List Int) × Int × ((List TApiNode))) (Sum (((List TApiNode))) (((List TApiNode))))))) :=
(cond (decide (j5 < (j4.1.length : Int)))
(bnd ((Option.bind (idx j4.1 j5) fun x12 =>
(Option.bind (idx j4.1 j5) fun x13 =>
(Option.bind (idx l x13) fun x14 =>
(cond (x14.Kind == 2)
(Option.bind (idx l x5) fun x15 =>
(fork (Option.bind (idx j4.1 j5) fun x16 =>
(fork (Option.bind (idx j4.1 j5) fun x17 =>
(Option.bind (idx l x17) fun x18 =>
(Option.bind (ref11_Up x15.Path) fun r4 =>
some (.inl (x18.Path == r4)))))
(Option.bind (ref11_Up x15.Path) fun r4 =>
(Option.bind (idx j4.1 j5) fun x17 =>
(Option.bind (idx l x17) fun x18 =>
some (.inl (x18.Path == r4)))))))
(Option.bind (ref11_Up x15.Path) fun r4 =>
(Option.bind (idx j4.1 j5) fun x16 =>
(Option.bind (idx j4.1 j5) fun x17 =>
(Option.bind (idx l x17) fun x18 =>
some (.inl (x18.Path == r4))))))))
(some (.inl false)))))) : Option (Sum Bool (Sum (Int × Int) (Sum Int (Sum ((List Int) × Int × ((List TApiNode))) (Sum (((List TApiNode))) (((List TApiNode))))))))) fun x19 =>
(cond x19
(some (.inl ((IntKind.i64.wrap (j5 + 1)), (IntKind.i64.wrap (j5 + 1)))))
(some (.inl (up_, (IntKind.i64.wrap (j5 + 1)))))))
(some (.inr (.inl up_))))
noncomputable def ref11_Canon_l2 (l : List TApiEntry) (r1 : (List Int)) (owners : List Int) (i1 : Int) (b11 : List TApiNode) : Option (Sum ((List Int) × Int × ((List TApiNode))) (Sum (((List TApiNode))) (((List TApiNode))))) :=
(cond (decide (i1 < (r1.length : Int)))
(Option.bind (idx r1 i1) fun x4 =>
(Option.bind (idx r1 i1) fun x5 =>
(Option.bind (ref11_owner l x5) fun r2 =>
(bnd (loopO (fun s => ref11_Canon_l3 owners r2 s.1 s.2) (((-1), 0) : Int × Int)) fun ino1 =>
(bnd ((cond (decide (ino1 < 0))
(Option.bind (app owners ([r2])) fun z =>
(bnd ((Option.bind (idx l r2) fun x8 =>
(fork (Option.bind (ref11_Node x8.Path x8.Kind x8.Mode x8.Uid x8.Gid x8.Time x8.Size x8.Data x8.Target x8.Dev x8.Attrs) fun r3 =>
(Option.bind (app b11 [{ ({ Kind := r3.1, Mode := r3.2.1, Uid := r3.2.2.1, Gid := r3.2.2.2.1, Time := r3.2.2.2.2.1, Size := r3.2.2.2.2.2.1, Data := r3.2.2.2.2.2.2.1, Target := r3.2.2.2.2.2.2.2.1, Dev := r3.2.2.2.2.2.2.2.2.1, Attrs := r3.2.2.2.2.2.2.2.2.2.1, Kids := [], Parent := r3.2.2.2.2.2.2.2.2.2.2.2.1, Links := r3.2.2.2.2.2.2.2.2.2.2.2.2 } : TApiNode) with Kids := r3.2.2.2.2.2.2.2.2.2.2.1 }]) fun z1 =>
some (.inl z1)))
(Option.bind (ref11_Node x8.Path x8.Kind x8.Mode x8.Uid x8.Gid x8.Time x8.Size x8.Data x8.Target x8.Dev x8.Attrs) fun r3 =>
(dup (.f .o .o) (Option.bind (app b11 [{ ({ Kind := r3.1, Mode := r3.2.1, Uid := r3.2.2.1, Gid := r3.2.2.2.1, Time := r3.2.2.2.2.1, Size := r3.2.2.2.2.2.1, Data := r3.2.2.2.2.2.2.1, Target := r3.2.2.2.2.2.2.2.1, Dev := r3.2.2.2.2.2.2.2.2.1, Attrs := r3.2.2.2.2.2.2.2.2.2.1, Kids := [], Parent := r3.2.2.2.2.2.2.2.2.2.2.2.1, Links := r3.2.2.2.2.2.2.2.2.2.2.2.2 } : TApiNode) with Kids := r3.2.2.2.2.2.2.2.2.2.2.1 }]) fun z1 =>
some (.inl z1)))))) : Option (Sum (((List TApiNode))) (Sum ((List Int) × Int × ((List TApiNode))) (Sum ((List Int) × Int × ((List TApiNode))) (Sum (((List TApiNode))) (((List TApiNode)))))))) fun j2 =>
(Option.bind (idx l r2) fun x9 =>
(bnd ((cond (x9.Kind == 2)
(Option.bind (idx j2 (z.length : Int)) fun x10 =>
(Option.bind (idx j2 (z.length : Int)) fun x11 =>
some (.inl (List.set j2 ((z.length : Int).toNat) ({ Kind := x11.Kind, Mode := x11.Mode, Uid := x11.Uid, Gid := x11.Gid, Time := x11.Time, Size := x11.Size, Data := x11.Data, Target := x11.Target, Dev := x11.Dev, Attrs := x11.Attrs, Kids := x11.Kids, Parent := x11.Parent, Links := 2 } : TApiNode)))))
(some (.inl j2))) : Option (Sum (((List TApiNode))) (Sum ((List Int) × Int × ((List TApiNode))) (Sum ((List Int) × Int × ((List TApiNode))) (Sum (((List TApiNode))) (((List TApiNode)))))))) fun j3 =>
some (.inl (z, (z.length : Int), j3))))))
(some (.inl (owners, ino1, b11)))) : Option (Sum ((List Int) × Int × ((List TApiNode))) (Sum ((List Int) × Int × ((List TApiNode))) (Sum (((List TApiNode))) (((List TApiNode))))))) fun j4 =>
(bnd (loopO (fun s => ref11_Canon_l4 l x5 j4 s.1 s.2) ((0, 0) : Int × Int)) fun up_1 =>
(bnd ((Option.bind (idx l x5) fun x20 =>
(fork (Option.bind (idx j4.2.2 up_1) fun x21 =>
(fork (Option.bind (idx j4.2.2 up_1) fun x22 =>
(Option.bind (ref11_Last x20.Path) fun r5 =>
(Option.bind (app x22.Kids ([({ Name := r5, Ino := j4.2.1 } : TApiKid)])) fun z2 =>
(Option.bind (idx j4.2.2 up_1) fun x23 =>
(Option.bind (chk (decide (up_1 = up_1))) fun _ =>
some (.inl (List.set j4.2.2 up_1.toNat { x22 with Kids := z2 })))))))
(Option.bind (ref11_Last x20.Path) fun r5 =>
(dup (.f .o .o) (Option.bind (idx j4.2.2 up_1) fun x22 =>
(Option.bind (app x22.Kids ([({ Name := r5, Ino := j4.2.1 } : TApiKid)])) fun z2 =>
(Option.bind (idx j4.2.2 up_1) fun x23 =>
(Option.bind (chk (decide (up_1 = up_1))) fun _ =>
some (.inl (List.set j4.2.2 up_1.toNat { x22 with Kids := z2 }))))))))))
(Option.bind (ref11_Last x20.Path) fun r5 =>
(fork (Option.bind (idx j4.2.2 up_1) fun x21 =>
(dup (.f .o .o) (Option.bind (idx j4.2.2 up_1) fun x22 =>
(Option.bind (app x22.Kids ([({ Name := r5, Ino := j4.2.1 } : TApiKid)])) fun z2 =>
(Option.bind (idx j4.2.2 up_1) fun x23 =>
(Option.bind (chk (decide (up_1 = up_1))) fun _ =>
some (.inl (List.set j4.2.2 up_1.toNat { x22 with Kids := z2 }))))))))
(Option.bind (idx j4.2.2 up_1) fun x21 =>
(Option.bind (idx j4.2.2 up_1) fun x22 =>
(Option.bind (app x22.Kids ([({ Name := r5, Ino := j4.2.1 } : TApiKid)])) fun z2 =>
(Option.bind (idx j4.2.2 up_1) fun x23 =>
(Option.bind (chk (decide (up_1 = up_1))) fun _ =>
some (.inl (List.set j4.2.2 up_1.toNat { x22 with Kids := z2 }))))))))))) : Option (Sum (((List TApiNode))) (Sum ((List Int) × Int × ((List TApiNode))) (Sum (((List TApiNode))) (((List TApiNode))))))) fun j6 =>
(Option.bind (idx l r2) fun x24 =>
(cond (x24.Kind == 2)
(Option.bind (idx j6 j4.2.1) fun x25 =>
(Option.bind (idx j6 j4.2.1) fun x26 =>
(Option.bind (idx (List.set j6 j4.2.1.toNat ({ Kind := x26.Kind, Mode := x26.Mode, Uid := x26.Uid, Gid := x26.Gid, Time := x26.Time, Size := x26.Size, Data := x26.Data, Target := x26.Target, Dev := x26.Dev, Attrs := x26.Attrs, Kids := x26.Kids, Parent := up_1, Links := x26.Links } : TApiNode)) up_1) fun x27 =>
(Option.bind (idx (List.set j6 j4.2.1.toNat ({ Kind := x26.Kind, Mode := x26.Mode, Uid := x26.Uid, Gid := x26.Gid, Time := x26.Time, Size := x26.Size, Data := x26.Data, Target := x26.Target, Dev := x26.Dev, Attrs := x26.Attrs, Kids := x26.Kids, Parent := up_1, Links := x26.Links } : TApiNode)) up_1) fun x28 =>
(Option.bind (idx (List.set j6 j4.2.1.toNat ({ Kind := x26.Kind, Mode := x26.Mode, Uid := x26.Uid, Gid := x26.Gid, Time := x26.Time, Size := x26.Size, Data := x26.Data, Target := x26.Target, Dev := x26.Dev, Attrs := x26.Attrs, Kids := x26.Kids, Parent := up_1, Links := x26.Links } : TApiNode)) up_1) fun x29 =>
(Option.bind (idx (List.set j6 j4.2.1.toNat ({ Kind := x26.Kind, Mode := x26.Mode, Uid := x26.Uid, Gid := x26.Gid, Time := x26.Time, Size := x26.Size, Data := x26.Data, Target := x26.Target, Dev := x26.Dev, Attrs := x26.Attrs, Kids := x26.Kids, Parent := up_1, Links := x26.Links } : TApiNode)) up_1) fun x30 =>
some (.inl (j4.1, (IntKind.i64.wrap (i1 + 1)), (List.set (List.set j6 j4.2.1.toNat ({ Kind := x26.Kind, Mode := x26.Mode, Uid := x26.Uid, Gid := x26.Gid, Time := x26.Time, Size := x26.Size, Data := x26.Data, Target := x26.Target, Dev := x26.Dev, Attrs := x26.Attrs, Kids := x26.Kids, Parent := up_1, Links := x26.Links } : TApiNode)) up_1.toNat ({ Kind := x30.Kind, Mode := x30.Mode, Uid := x30.Uid, Gid := x30.Gid, Time := x30.Time, Size := x30.Size, Data := x30.Data, Target := x30.Target, Dev := x30.Dev, Attrs := x30.Attrs, Kids := x30.Kids, Parent := x30.Parent, Links := (IntKind.i64.wrap (x28.Links + 1)) } : TApiNode))))))))))
(Option.bind (idx j6 j4.2.1) fun x31 =>
(Option.bind (idx j6 j4.2.1) fun x32 =>
(Option.bind (idx j6 j4.2.1) fun x33 =>
(Option.bind (idx j6 j4.2.1) fun x34 =>
some (.inl (j4.1, (IntKind.i64.wrap (i1 + 1)), (List.set j6 j4.2.1.toNat ({ Kind := x34.Kind, Mode := x34.Mode, Uid := x34.Uid, Gid := x34.Gid, Time := x34.Time, Size := x34.Size, Data := x34.Data, Target := x34.Target, Dev := x34.Dev, Attrs := x34.Attrs, Kids := x34.Kids, Parent := x34.Parent, Links := (IntKind.i64.wrap (x32.Links + 1)) } : TApiNode)))))))))))))))))
(some (.inr (.inl b11))))
noncomputable def ref11_Canon (l : List TApiEntry) : Option (((List TApiNode))) :=
(bnd (loopO (fun s => ref11_Canon_l1 l s.1 s.2.1 s.2.2.1 s.2.2.2.1 s.2.2.2.2.1 s.2.2.2.2.2.1 s.2.2.2.2.2.2.1 s.2.2.2.2.2.2.2.1 s.2.2.2.2.2.2.2.2.1 s.2.2.2.2.2.2.2.2.2.1 s.2.2.2.2.2.2.2.2.2.2.1 s.2.2.2.2.2.2.2.2.2.2.2) ((0, (([] : List UInt8), 2, 493, 0, 0, 0, 0, [], ([] : List UInt8), 0, [])) : Int × ((List UInt8) × Int × Int × Int × Int × Int × Int × (List UInt8) × (List UInt8) × Int × (List TApiAttr)))) fun j =>
(Option.bind (ref11_Node j.1 j.2.1 j.2.2.1 j.2.2.2.1 j.2.2.2.2.1 j.2.2.2.2.2.1 j.2.2.2.2.2.2.1 j.2.2.2.2.2.2.2.1 j.2.2.2.2.2.2.2.2.1 j.2.2.2.2.2.2.2.2.2.1 j.2.2.2.2.2.2.2.2.2.2) fun r =>
(Option.bind (idx ([{ ({ Kind := r.1, Mode := r.2.1, Uid := r.2.2.1, Gid := r.2.2.2.1, Time := r.2.2.2.2.1, Size := r.2.2.2.2.2.1, Data := r.2.2.2.2.2.2.1, Target := r.2.2.2.2.2.2.2.1, Dev := r.2.2.2.2.2.2.2.2.1, Attrs := r.2.2.2.2.2.2.2.2.2.1, Kids := [], Parent := r.2.2.2.2.2.2.2.2.2.2.2.1, Links := r.2.2.2.2.2.2.2.2.2.2.2.2 } : TApiNode) with Kids := r.2.2.2.2.2.2.2.2.2.2.1 }]) 0) fun x2 =>
(Option.bind (idx ([{ ({ Kind := r.1, Mode := r.2.1, Uid := r.2.2.1, Gid := r.2.2.2.1, Time := r.2.2.2.2.1, Size := r.2.2.2.2.2.1, Data := r.2.2.2.2.2.2.1, Target := r.2.2.2.2.2.2.2.1, Dev := r.2.2.2.2.2.2.2.2.1, Attrs := r.2.2.2.2.2.2.2.2.2.1, Kids := [], Parent := r.2.2.2.2.2.2.2.2.2.2.2.1, Links := r.2.2.2.2.2.2.2.2.2.2.2.2 } : TApiNode) with Kids := r.2.2.2.2.2.2.2.2.2.2.1 }]) 0) fun x3 =>
(Option.bind (ref11_Order l) fun r1 =>
(bnd (loopO (fun s => ref11_Canon_l2 l r1 s.1 s.2.1 s.2.2) (([], 0, (List.set ([{ ({ Kind := r.1, Mode := r.2.1, Uid := r.2.2.1, Gid := r.2.2.2.1, Time := r.2.2.2.2.1, Size := r.2.2.2.2.2.1, Data := r.2.2.2.2.2.2.1, Target := r.2.2.2.2.2.2.2.1, Dev := r.2.2.2.2.2.2.2.2.1, Attrs := r.2.2.2.2.2.2.2.2.2.1, Kids := [], Parent := r.2.2.2.2.2.2.2.2.2.2.2.1, Links := r.2.2.2.2.2.2.2.2.2.2.2.2 } : TApiNode) with Kids := r.2.2.2.2.2.2.2.2.2.2.1 }]) ((0 : Int).toNat) ({ Kind := x3.Kind, Mode := x3.Mode, Uid := x3.Uid, Gid := x3.Gid, Time := x3.Time, Size := x3.Size, Data := x3.Data, Target := x3.Target, Dev := x3.Dev, Attrs := x3.Attrs, Kids := x3.Kids, Parent := x3.Parent, Links := 2 } : TApiNode))) : (List Int) × Int × ((List TApiNode)))) fun j7 =>
some j7))))))
noncomputable def law29_of (l : List TApiEntry) : Option (((List TApiNode)) × Bool) :=
(Option.bind (ref11_Much l) fun r =>
(cond r
(some ([], false))
(Option.bind (ref11_Check l) fun r1 =>
(cond (r1.2 != 0)
(some ([], false))
(Option.bind (ref11_Canon l) fun r2 =>
some (r2, true))))))
noncomputable def bytes_Clone_w (b : List UInt8) : Option ((List UInt8)) :=
(cond ((b).isEmpty)
(fork (some ([])) (Option.bind (app ([] : List UInt8) b) fun z =>
some z))
(Option.bind (app ([] : List UInt8) b) fun z1 =>
some z1))
noncomputable def bytes_Clone (b : List UInt8) : Option (List UInt8) := app [] b
noncomputable def cmp_isNaN_string (x : List UInt8) : Option (Bool) :=
some (x != x)
noncomputable def cmp_Compare_string (x : List UInt8) (y_ : List UInt8) : Option (Int) :=
(Option.bind (cmp_isNaN_string x) fun r =>
(Option.bind (cmp_isNaN_string y_) fun r1 =>
(cond r
(cond r1
(some 0)
(some (-1)))
(cond r1
(some 1)
(cond (ltB x y_)
(some (-1))
(cond (gtB x y_)
(some 1)
(some 0)))))))
noncomputable def tree_attrs_1 (a : List UInt8) (a1 : List UInt8) (b : List UInt8) (b1 : List UInt8) : Option (Int) :=
(Option.bind (cmp_Compare_string a b) fun r =>
some r)
noncomputable def sort_Attr (l : List TApiAttr) : Option (List TApiAttr) := sortBy (fun x y => tree_attrs_1 x.Name x.Value y.Name y.Value) l
noncomputable def tree_attrs_l1 (l : List TApiAttr) (out : List TApiAttr) (x : Int) : Option (Sum ((List TApiAttr) × Int) (Sum ((List TApiAttr)) ((List TApiAttr)))) :=
(cond (decide (x < (l.length : Int)))
(Option.bind (idx l x) fun x1 =>
(Option.bind (bytes_Clone x1.Value) fun r =>
(Option.bind (app out ([({ Name := x1.Name, Value := r } : TApiAttr)])) fun z =>
some (.inl (z, (IntKind.i64.wrap (x + 1)))))))
(some (.inr (.inl out))))
noncomputable def tree_attrs (l : List TApiAttr) : Option ((List TApiAttr)) :=
(bnd (loopO (fun s => tree_attrs_l1 l s.1 s.2) (([], 0) : (List TApiAttr) × Int)) fun out1 =>
(Option.bind (sort_Attr out1) fun r1 =>
some r1))
noncomputable def tree_lister_add_l1 (rec_ : (List TApiNode) → (List (Int × (List UInt8))) → (List TApiEntry) → Int → (List UInt8) → Int → Option (Sum Unit (((List TApiNode) × (List (Int × (List UInt8))) × (List TApiEntry))))) (path : List UInt8) (deep : Int) (x1 : TApiNode) (x2 : Int) (b : List TApiNode) (b1 : List (Int × (List UInt8))) (b2 : List TApiEntry) : Option (Sum (Int × ((List TApiNode) × (List (Int × (List UInt8))) × (List TApiEntry))) (Sum (((List TApiNode) × (List (Int × (List UInt8))) × (List TApiEntry))) (Sum Unit (((List TApiNode) × (List (Int × (List UInt8))) × (List TApiEntry)))))) :=
(cond (decide (x2 < (x1.Kids.length : Int)))
(Option.bind (idx x1.Kids x2) fun x3 =>
(cond (path == ([] : List UInt8))
(pnE (rec_ b b1 b2 x3.Ino x3.Name 1) (fun r2 =>
(some (.inl ((IntKind.i64.wrap (x2 + 1)), (r2.1, r2.2.1, r2.2.2)))))
(fun thrown => (some (.inr (.inr (.inl ()))))))
(Option.bind (cat path ([47] : List UInt8)) fun z2 =>
(Option.bind (cat z2 x3.Name) fun z3 =>
(pnE (rec_ b b1 b2 x3.Ino z3 (IntKind.i64.wrap (deep + 1))) (fun r3 =>
(some (.inl ((IntKind.i64.wrap (x2 + 1)), (r3.1, r3.2.1, r3.2.2)))))
(fun thrown1 => (some (.inr (.inr (.inl ()))))))))))
(some (.inr (.inl (b, b1, b2)))))
noncomputable def tree_lister_add_s (rec_ : (List TApiNode) → (List (Int × (List UInt8))) → (List TApiEntry) → Int → (List UInt8) → Int → Option (Sum Unit (((List TApiNode) × (List (Int × (List UInt8))) × (List TApiEntry))))) (Nodes : List TApiNode) (first : List (Int × (List UInt8))) (out : List TApiEntry) (ino : Int) (path : List UInt8) (deep : Int) : Option (Sum Unit (((List TApiNode) × (List (Int × (List UInt8))) × (List TApiEntry)))) :=
(bnd ((cond (decide (ino < 0))
(some (.inl true))
(cond (decide (ino ≥ (Nodes.length : Int)))
(some (.inl true))
(cond (decide (deep > 64))
(some (.inl true))
(some (.inl (decide ((out.length : Int) > 16384))))))) : Option (Sum Bool (Sum Unit (((List TApiNode) × (List (Int × (List UInt8))) × (List TApiEntry)))))) fun x =>
(cond x
(some (.inl ()))
(Option.bind (idx Nodes ino) fun x1 =>
(cond ((mget first ino).isSome)
(cond (x1.Kind == 2)
(some (.inl ()))
(Option.bind (app out ([({ Path := path, Kind := 6, Mode := 0, Uid := 0, Gid := 0, Time := 0, Size := 0, Data := [], Target := ((mget first ino).getD ([] : List UInt8)), Dev := 0, Attrs := [] } : TApiEntry)])) fun z =>
some (.inr (Nodes, first, z))))
(bnd ((fork (Option.bind (bytes_Clone x1.Data) fun r =>
(Option.bind (tree_attrs x1.Attrs) fun r1 =>
(Option.bind (app out ([({ Path := path, Kind := x1.Kind, Mode := x1.Mode, Uid := x1.Uid, Gid := x1.Gid, Time := x1.Time, Size := x1.Size, Data := r, Target := x1.Target, Dev := x1.Dev, Attrs := r1 } : TApiEntry)])) fun z1 =>
some (.inl (Nodes, (mput first ino path), z1)))))
(Option.bind (bytes_Clone x1.Data) fun r =>
(fork (Option.bind (tree_attrs x1.Attrs) fun r1 =>
(Option.bind (app out ([({ Path := path, Kind := x1.Kind, Mode := x1.Mode, Uid := x1.Uid, Gid := x1.Gid, Time := x1.Time, Size := x1.Size, Data := r, Target := x1.Target, Dev := x1.Dev, Attrs := r1 } : TApiEntry)])) fun z1 =>
some (.inl (Nodes, (mput first ino path), z1))))
(Option.bind (tree_attrs x1.Attrs) fun r1 =>
(dup (.f .o .o) (Option.bind (app out ([({ Path := path, Kind := x1.Kind, Mode := x1.Mode, Uid := x1.Uid, Gid := x1.Gid, Time := x1.Time, Size := x1.Size, Data := r, Target := x1.Target, Dev := x1.Dev, Attrs := r1 } : TApiEntry)])) fun z1 =>
some (.inl (Nodes, (mput first ino path), z1)))))))) : Option (Sum (((List TApiNode) × (List (Int × (List UInt8))) × (List TApiEntry))) (Sum Unit (((List TApiNode) × (List (Int × (List UInt8))) × (List TApiEntry)))))) fun j =>
(bnd (loopO (fun s => tree_lister_add_l1 rec_ path deep x1 s.1 s.2.1 s.2.2.1 s.2.2.2) ((0, (j.1, j.2.1, j.2.2)) : Int × ((List TApiNode) × (List (Int × (List UInt8))) × (List TApiEntry)))) fun j1 =>
some (.inr (j1.1, j1.2.1, j1.2.2))))))))
noncomputable def tree_lister_add : Nat → (List TApiNode) → (List (Int × (List UInt8))) → (List TApiEntry) → Int → (List UInt8) → Int → Option (Sum Unit (((List TApiNode) × (List (Int × (List UInt8))) × (List TApiEntry))))
 | 0 => fun _ _ _ _ _ _ => none
 | n + 1 => tree_lister_add_s (tree_lister_add n)
noncomputable def tree_index_l1 (l : List TApiEntry) (x : Int) (b : List TApiEntry) (b1 : List (List UInt8 × Int)) (b2 : List (List UInt8 × Int)) (b3 : List (List UInt8 × Int)) : Option (Sum (Int × ((List TApiEntry) × (List (List UInt8 × Int)) × (List (List UInt8 × Int)) × (List (List UInt8 × Int)))) (Sum (((List TApiEntry) × (List (List UInt8 × Int)) × (List (List UInt8 × Int)) × (List (List UInt8 × Int)))) (((List TApiEntry) × (List (List UInt8 × Int)) × (List (List UInt8 × Int)) × (List (List UInt8 × Int)))))) :=
(cond (decide (x < (l.length : Int)))
(Option.bind (idx l x) fun x1 =>
(bnd ((cond (!(mget b1 x1.Path).isSome)
(some (.inl (b, (mput b1 x1.Path x), b2, b3)))
(some (.inl (b, b1, b2, b3)))) : Option (Sum (((List TApiEntry) × (List (List UInt8 × Int)) × (List (List UInt8 × Int)) × (List (List UInt8 × Int)))) (Sum (Int × ((List TApiEntry) × (List (List UInt8 × Int)) × (List (List UInt8 × Int)) × (List (List UInt8 × Int)))) (Sum (((List TApiEntry) × (List (List UInt8 × Int)) × (List (List UInt8 × Int)) × (List (List UInt8 × Int)))) (((List TApiEntry) × (List (List UInt8 × Int)) × (List (List UInt8 × Int)) × (List (List UInt8 × Int)))))))) fun j =>
(cond (x1.Kind == 2)
(some (.inl ((IntKind.i64.wrap (x + 1)), (j.1, j.2.1, (mput j.2.2.1 x1.Path (IntKind.i64.wrap (((mget j.2.2.1 x1.Path).getD 0) + 1))), j.2.2.2))))
(cond (decide (x1.Kind ≥ 1))
(cond (decide (x1.Kind < 6))
(some (.inl ((IntKind.i64.wrap (x + 1)), (j.1, j.2.1, j.2.2.1, (mput j.2.2.2 x1.Path (IntKind.i64.wrap (((mget j.2.2.2 x1.Path).getD 0) + 1)))))))
(some (.inl ((IntKind.i64.wrap (x + 1)), (j.1, j.2.1, j.2.2.1, j.2.2.2)))))
(some (.inl ((IntKind.i64.wrap (x + 1)), (j.1, j.2.1, j.2.2.1, j.2.2.2))))))))
(some (.inr (.inl (b, b1, b2, b3)))))
noncomputable def tree_index (l : List TApiEntry) : Option (((List TApiEntry) × (List (List UInt8 × Int)) × (List (List UInt8 × Int)) × (List (List UInt8 × Int)))) :=
(bnd (loopO (fun s => tree_index_l1 l s.1 s.2.1 s.2.2.1 s.2.2.2.1 s.2.2.2.2) ((0, (l, ([] : List (List UInt8 × Int)), ([] : List (List UInt8 × Int)), ([] : List (List UInt8 × Int)))) : Int × ((List TApiEntry) × (List (List UInt8 × Int)) × (List (List UInt8 × Int)) × (List (List UInt8 × Int))))) fun j1 =>
some (j1.1, j1.2.1, j1.2.2.1, j1.2.2.2))
noncomputable def tree_between (n : Int) (low : Int) (high : Int) : Option (Bool) :=
(cond (decide (n ≥ low))
(some (decide (n ≤ high)))
(some false))
noncomputable def strings_Count (s_ : List UInt8) : Option (Int) :=
(Option.bind (ctb s_ (47 : UInt8)) fun r =>
some r)
noncomputable def internal_stringslite_IndexByte (s_ : List UInt8) (c : UInt8) : Option (Int) :=
(Option.bind (ixb s_ c) fun r =>
some r)
noncomputable def internal_stringslite_Index (s_ : List UInt8) : Option (Int) :=
(cond (([47] : List UInt8) == s_)
(some 0)
(Option.bind (internal_stringslite_IndexByte s_ (47 : UInt8)) fun r =>
some r))
noncomputable def strings_Index (s_ : List UInt8) : Option (Int) :=
(Option.bind (internal_stringslite_Index s_) fun r =>
some r)
noncomputable def strings_genSplit_l1 (s_ : List UInt8) (sepSave : Int) (n1 : Int) (s_1 : List UInt8) (a : List (List UInt8)) (i : Int) : Option (Sum ((List UInt8) × (List (List UInt8)) × Int) (Sum ((List UInt8) × (List (List UInt8)) × Int) ((List (List UInt8))))) :=
(cond (decide (i < (IntKind.i64.wrap ((if (IntKind.i64.wrap ((s_.length : Int) + 1)) < n1 then (IntKind.i64.wrap ((s_.length : Int) + 1)) else n1) - 1))))
(Option.bind (strings_Index s_1) fun r1 =>
(cond (decide (r1 < 0))
(some (.inr (.inl (s_1, a, i))))
(Option.bind (slc s_1 0 (IntKind.i64.wrap (r1 + sepSave))) fun y_ =>
(Option.bind (idx a i) fun x =>
(Option.bind (idx a i) fun x1 =>
(Option.bind (slc s_1 (IntKind.i64.wrap (r1 + 1)) (s_1.length : Int)) fun y_1 =>
some (.inl (y_1, (List.set a i.toNat y_), (IntKind.i64.wrap (i + 1))))))))))
(some (.inr (.inl (s_1, a, i)))))
noncomputable def strings_genSplit (s_ : List UInt8) (sepSave : Int) (n : Int) : Option ((List (List UInt8))) :=
(cond (n == 0)
(some ([]))
(bnd ((cond (decide (n < 0))
(Option.bind (strings_Count s_) fun r =>
some (.inl (IntKind.i64.wrap (r + 1))))
(some (.inl n))) : Option (Sum Int ((List (List UInt8))))) fun n1 =>
(Option.bind (mkz 16 ([] : List UInt8) (if (IntKind.i64.wrap ((s_.length : Int) + 1)) < n1 then (IntKind.i64.wrap ((s_.length : Int) + 1)) else n1)) fun made =>
(bnd (loopO (fun s => strings_genSplit_l1 s_ sepSave n1 s.1 s.2.1 s.2.2) ((s_, made, 0) : (List UInt8) × (List (List UInt8)) × Int)) fun j =>
(Option.bind (idx j.2.1 j.2.2) fun x2 =>
(Option.bind (idx j.2.1 j.2.2) fun x3 =>
(Option.bind (slc (List.set j.2.1 j.2.2.toNat j.1) 0 (IntKind.i64.wrap (j.2.2 + 1))) fun y_2 =>
some y_2)))))))
noncomputable def strings_Split (s_ : List UInt8) : Option ((List (List UInt8))) :=
(Option.bind (strings_genSplit s_ 0 (-1)) fun r =>
some r)
noncomputable def strings_IndexByte (s_ : List UInt8) (c : UInt8) : Option (Int) :=
(Option.bind (internal_stringslite_IndexByte s_ c) fun r =>
some r)
noncomputable def name_Valid (s_ : List UInt8) : Option (Bool) :=
(cond (s_ != ([] : List UInt8))
(cond (decide ((s_.length : Int) ≤ 255))
(cond (s_ != ([46] : List UInt8))
(cond (s_ != ([46, 46] : List UInt8))
(Option.bind (strings_IndexByte s_ (47 : UInt8)) fun r =>
(cond (decide (r < 0))
(Option.bind (strings_IndexByte s_ (0 : UInt8)) fun r1 =>
some (decide (r1 < 0)))
(some false)))
(some false))
(some false))
(some false))
(some false))
noncomputable def tree_path_1 (s_ : List UInt8) : Option (Bool) :=
(Option.bind (name_Valid s_) fun r =>
some (!r))
noncomputable def slices_IndexFunc_string_l1 (s_ : List (List UInt8)) (x : Int) : Option (Sum Int (Sum Unit Int)) :=
(cond (decide (x < (s_.length : Int)))
(Option.bind (idx s_ x) fun x1 =>
(Option.bind (tree_path_1 x1) fun r =>
(cond r
(some (.inr (.inr x)))
(some (.inl (IntKind.i64.wrap (x + 1)))))))
(some (.inr (.inl ()))))
noncomputable def slices_IndexFunc_string (s_ : List (List UInt8)) : Option (Int) :=
(bnd (loopO (fun s => slices_IndexFunc_string_l1 s_ s) (0 : Int)) fun _ =>
some (-1))
noncomputable def slices_ContainsFunc_string (s_ : List (List UInt8)) : Option (Bool) :=
(Option.bind (slices_IndexFunc_string s_) fun r =>
some (decide (r ≥ 0)))
noncomputable def tree_path (x : List UInt8) (x1 : Int) (x2 : Int) (x3 : Int) (x4 : Int) (x5 : Int) (x6 : Int) (x7 : List UInt8) (x8 : List UInt8) (x9 : Int) (x10 : List TApiAttr) : Option (Int) :=
(cond (x == ([] : List UInt8))
(cond (x1 != 2)
(some 6)
(some 0))
(cond (decide ((x.length : Int) > 4096))
(some 6)
(Option.bind (strings_Split x) fun r =>
(Option.bind (slices_ContainsFunc_string r) fun r1 =>
(cond r1
(some 6)
(cond (decide ((r.length : Int) > 128))
(some 6)
(cond (decide ((r.length : Int) > 64))
(some 3)
(some 0))))))))
noncomputable def internal_bytealg_LastIndexByteString_l1 (s_ : List UInt8) (c : UInt8) (i : Int) : Option (Sum Int (Sum Unit Int)) :=
(cond (decide (i ≥ 0))
(Option.bind (idx s_ i) fun c1 =>
(cond ((c1.toNat : Int) == (c.toNat : Int))
(some (.inr (.inr i)))
(some (.inl (IntKind.i64.wrap (i - 1))))))
(some (.inr (.inl ()))))
noncomputable def internal_bytealg_LastIndexByteString (s_ : List UInt8) (c : UInt8) : Option (Int) :=
(bnd (loopO (fun s => internal_bytealg_LastIndexByteString_l1 s_ c s) ((IntKind.i64.wrap ((s_.length : Int) - 1)) : Int)) fun _ =>
some (-1))
noncomputable def strings_LastIndexByte (s_ : List UInt8) (c : UInt8) : Option (Int) :=
(Option.bind (internal_bytealg_LastIndexByteString s_ c) fun r =>
some r)
noncomputable def tree_above (path : List UInt8) : Option ((List UInt8) × Bool) :=
(Option.bind (strings_LastIndexByte path (47 : UInt8)) fun r =>
(Option.bind (slc path 0 (if 0 > r then 0 else r)) fun y_ =>
some (y_, (decide (r ≥ 0)))))
noncomputable def tree_text (s_ : List UInt8) (low : Int) (high : Int) : Option (Bool) :=
(Option.bind (tree_between (s_.length : Int) low high) fun r =>
(cond r
(Option.bind (strings_IndexByte s_ (0 : UInt8)) fun r1 =>
some (decide (r1 < 0)))
(some false)))
noncomputable def tree_fields_1 (a : List UInt8) (a1 : List UInt8) : Option (Bool) :=
(Option.bind (tree_text a 1 255) fun r =>
(cond (!r)
(some true)
(some (decide ((a1.length : Int) > 4096)))))
noncomputable def slices_IndexFunc_Attr_l1 (s_ : List TApiAttr) (x : Int) : Option (Sum Int (Sum Unit Int)) :=
(cond (decide (x < (s_.length : Int)))
(Option.bind (idx s_ x) fun x1 =>
(Option.bind (tree_fields_1 x1.Name x1.Value) fun r =>
(cond r
(some (.inr (.inr x)))
(some (.inl (IntKind.i64.wrap (x + 1)))))))
(some (.inr (.inl ()))))
noncomputable def slices_IndexFunc_Attr (s_ : List TApiAttr) : Option (Int) :=
(bnd (loopO (fun s => slices_IndexFunc_Attr_l1 s_ s) (0 : Int)) fun _ =>
some (-1))
noncomputable def slices_ContainsFunc_Attr (s_ : List TApiAttr) : Option (Bool) :=
(Option.bind (slices_IndexFunc_Attr s_) fun r =>
some (decide (r ≥ 0)))
noncomputable def tree_fields_2 (o : List UInt8) (o1 : List UInt8) (Name : List UInt8) (Value : List UInt8) : Option (Bool × ((List UInt8) × (List UInt8))) :=
some ((o == Name), (Name, Value))
noncomputable def slices_IndexFunc_Attr_2_l1 (s_ : List TApiAttr) (x : Int) (b : List UInt8) (b1 : List UInt8) : Option (Sum (Int × ((List UInt8) × (List UInt8))) (Sum Unit Int)) :=
(cond (decide (x < (s_.length : Int)))
(Option.bind (idx s_ x) fun x1 =>
(Option.bind (tree_fields_2 x1.Name x1.Value b b1) fun r =>
(cond r.1
(some (.inr (.inr x)))
(some (.inl ((IntKind.i64.wrap (x + 1)), (r.2.1, r.2.2)))))))
(some (.inr (.inl ()))))
noncomputable def slices_IndexFunc_Attr_2 (s_ : List TApiAttr) (f : List UInt8) (f1 : List UInt8) : Option (Int) :=
(bnd (loopO (fun s => slices_IndexFunc_Attr_2_l1 s_ s.1 s.2.1 s.2.2) ((0, (f, f1)) : Int × ((List UInt8) × (List UInt8)))) fun _ =>
some (-1))
noncomputable def slices_ContainsFunc_Attr_2 (s_ : List TApiAttr) (f : List UInt8) (f1 : List UInt8) : Option (Bool) :=
(Option.bind (slices_IndexFunc_Attr_2 s_ f f1) fun r =>
some (decide (r ≥ 0)))
noncomputable def tree_fields_l1 (x10 : List TApiAttr) (x13 : Int) : Option (Sum Int (Sum Unit Int)) :=
(cond (decide (x13 < (x10.length : Int)))
(Option.bind (idx x10 x13) fun x14 =>
(Option.bind (slc x10 0 x13) fun y_ =>
(Option.bind (slices_ContainsFunc_Attr_2 y_ x14.Name x14.Value) fun r8 =>
(cond r8
(some (.inr (.inr 110)))
(some (.inl (IntKind.i64.wrap (x13 + 1))))))))
(some (.inr (.inl ()))))
noncomputable def tree_fields (x : List UInt8) (x1 : Int) (x2 : Int) (x3 : Int) (x4 : Int) (x5 : Int) (x6 : Int) (x7 : List UInt8) (x8 : List UInt8) (x9 : Int) (x10 : List TApiAttr) : Option (Int) :=
(bnd ((Option.bind (tree_between x2 0 4095) fun r =>
(cond r
(Option.bind (tree_between x3 0 4294967295) fun r1 =>
(cond r1
(Option.bind (tree_between x4 0 4294967295) fun r2 =>
(cond r2
(Option.bind (tree_between x5 0 4294967295) fun r3 =>
some (.inl r3))
(some (.inl false))))
(some (.inl false))))
(some (.inl false)))) : Option (Sum Bool Int)) fun right =>
(bnd ((cond (x1 == 1)
(bnd ((cond right
(Option.bind (tree_between x6 (x7.length : Int) 1099511627775) fun r4 =>
some (.inl r4))
(some (.inl false))) : Option (Sum Bool (Sum Bool Int))) fun right1 =>
some (.inl right1))
(bnd ((cond (x1 == 3)
(bnd ((cond right
(Option.bind (tree_text x8 1 4096) fun r5 =>
some (.inl r5))
(some (.inl false))) : Option (Sum Bool (Sum Bool (Sum Bool Int)))) fun right2 =>
some (.inl right2))
(bnd ((cond (x1 == 4)
(some (.inl true))
(some (.inl (x1 == 5)))) : Option (Sum Bool (Sum Bool (Sum Bool Int)))) fun x11 =>
(bnd ((cond x11
(bnd ((cond right
(Option.bind (tree_between x9 0 4294967295) fun r6 =>
some (.inl r6))
(some (.inl false))) : Option (Sum Bool (Sum Bool (Sum Bool (Sum Bool Int))))) fun right3 =>
some (.inl right3))
(some (.inl right))) : Option (Sum Bool (Sum Bool (Sum Bool Int)))) fun right4 =>
some (.inl right4)))) : Option (Sum Bool (Sum Bool Int))) fun right5 =>
some (.inl right5))) : Option (Sum Bool Int)) fun right6 =>
(bnd ((cond right6
(some (.inl (decide ((x10.length : Int) ≤ 64))))
(some (.inl false))) : Option (Sum Bool Int)) fun right7 =>
(bnd ((cond (!right7)
(some (.inl true))
(Option.bind (slices_ContainsFunc_Attr x10) fun r7 =>
some (.inl r7))) : Option (Sum Bool Int)) fun x12 =>
(cond x12
(some 1)
(bnd (loopO (fun s => tree_fields_l1 x10 s) (0 : Int)) fun _ =>
some 0))))))
noncomputable def tree_checker_entry (l : List TApiEntry) (first : List (List UInt8 × Int)) (dirs : List (List UInt8 × Int)) (nodes : List (List UInt8 × Int)) (i : Int) : Option (Int × ((List TApiEntry) × (List (List UInt8 × Int)) × (List (List UInt8 × Int)) × (List (List UInt8 × Int)))) :=
(Option.bind (idx l i) fun x =>
(Option.bind (tree_between x.Kind 1 6) fun r =>
(cond (!r)
(some (8, (l, first, dirs, nodes)))
(Option.bind (tree_path x.Path x.Kind x.Mode x.Uid x.Gid x.Time x.Size x.Data x.Target x.Dev x.Attrs) fun r1 =>
(cond (r1 != 0)
(some (r1, (l, first, dirs, nodes)))
(cond (decide (((mget first x.Path).getD 0) < i))
(some (110, (l, first, dirs, nodes)))
(Option.bind (tree_above x.Path) fun r2 =>
(bnd ((cond r2.2
(some (.inl (((mget dirs r2.1).getD 0) == 0)))
(some (.inl false))) : Option (Sum Bool (Int × ((List TApiEntry) × (List (List UInt8 × Int)) × (List (List UInt8 × Int)) × (List (List UInt8 × Int)))))) fun x1 =>
(cond x1
(some (4, (l, first, dirs, nodes)))
(cond (x.Kind == 6)
(cond (((mget nodes x.Target).getD 0) == 0)
(some (4, (l, first, dirs, nodes)))
(some (0, (l, first, dirs, nodes))))
(Option.bind (tree_fields x.Path x.Kind x.Mode x.Uid x.Gid x.Time x.Size x.Data x.Target x.Dev x.Attrs) fun r3 =>
some (r3, (l, first, dirs, nodes)))))))))))))
noncomputable def tree_Check_l1 (l : List TApiEntry) (left : Int) (x : Int) : Option (Sum (Int × Int) (Sum Unit (Int × Int))) :=
(cond (decide (x < (l.length : Int)))
(Option.bind (idx l x) fun x1 =>
(bnd ((cond (x1.Kind == 1)
(some (.inl (decide ((x1.Data.length : Int) > left))))
(some (.inl false))) : Option (Sum Bool (Sum (Int × Int) (Sum Unit (Int × Int))))) fun x2 =>
(cond x2
(some (.inr (.inr (0, 2))))
(cond (x1.Kind == 1)
(some (.inl ((IntKind.i64.wrap (left - (x1.Data.length : Int))), (IntKind.i64.wrap (x + 1)))))
(some (.inl (left, (IntKind.i64.wrap (x + 1)))))))))
(some (.inr (.inl ()))))
noncomputable def tree_Check_l2 (l : List TApiEntry) (x3 : Int) (b : List TApiEntry) (b1 : List (List UInt8 × Int)) (b2 : List (List UInt8 × Int)) (b3 : List (List UInt8 × Int)) : Option (Sum (Int × ((List TApiEntry) × (List (List UInt8 × Int)) × (List (List UInt8 × Int)) × (List (List UInt8 × Int)))) (Sum Unit (Int × Int))) :=
(cond (decide (x3 < (l.length : Int)))
(Option.bind (tree_checker_entry b b1 b2 b3 x3) fun r1 =>
(cond (r1.1 != 0)
(some (.inr (.inr (x3, r1.1))))
(some (.inl ((IntKind.i64.wrap (x3 + 1)), (r1.2.1, r1.2.2.1, r1.2.2.2.1, r1.2.2.2.2))))))
(some (.inr (.inl ()))))
noncomputable def tree_Check (l : List TApiEntry) : Option (Int × Int) :=
(cond (decide ((l.length : Int) > 16384))
(some (0, 3))
(bnd (loopO (fun s => tree_Check_l1 l s.1 s.2) ((8388608, 0) : Int × Int)) fun _ =>
(Option.bind (tree_index l) fun r =>
(bnd (loopO (fun s => tree_Check_l2 l s.1 s.2.1 s.2.2.1 s.2.2.2.1 s.2.2.2.2) ((0, (r.1, r.2.1, r.2.2.1, r.2.2.2)) : Int × ((List TApiEntry) × (List (List UInt8 × Int)) × (List (List UInt8 × Int)) × (List (List UInt8 × Int))))) fun _ =>
some (0, 0)))))
noncomputable def tree_root_1 (x : List UInt8) (x1 : Int) (x2 : Int) (x3 : Int) (x4 : Int) (x5 : Int) (x6 : Int) (x7 : List UInt8) (x8 : List UInt8) (x9 : Int) (x10 : List TApiAttr) : Option (Bool) :=
some (x == ([] : List UInt8))
noncomputable def slices_IndexFunc_Entry_l1 (s_ : List TApiEntry) (x : Int) : Option (Sum Int (Sum Unit Int)) :=
(cond (decide (x < (s_.length : Int)))
(Option.bind (idx s_ x) fun x1 =>
(Option.bind (tree_root_1 x1.Path x1.Kind x1.Mode x1.Uid x1.Gid x1.Time x1.Size x1.Data x1.Target x1.Dev x1.Attrs) fun r =>
(cond r
(some (.inr (.inr x)))
(some (.inl (IntKind.i64.wrap (x + 1)))))))
(some (.inr (.inl ()))))
noncomputable def slices_IndexFunc_Entry (s_ : List TApiEntry) : Option (Int) :=
(bnd (loopO (fun s => slices_IndexFunc_Entry_l1 s_ s) (0 : Int)) fun _ =>
some (-1))
noncomputable def tree_root (l : List TApiEntry) : Option (((List UInt8) × Int × Int × Int × Int × Int × Int × (List UInt8) × (List UInt8) × Int × (List TApiAttr))) :=
(Option.bind (slices_IndexFunc_Entry l) fun r =>
(cond (decide (r < 0))
(some (([] : List UInt8), 2, 493, 0, 0, 0, 0, [], ([] : List UInt8), 0, []))
(Option.bind (idx l r) fun x =>
some (x.Path, x.Kind, x.Mode, x.Uid, x.Gid, x.Time, x.Size, x.Data, x.Target, x.Dev, x.Attrs))))
noncomputable def bytes_trimRightByte_l1 (c : UInt8) (s_1 : List UInt8) : Option (Sum ((List UInt8)) (Sum ((List UInt8)) ((List UInt8)))) :=
(cond (decide ((s_1.length : Int) > 0))
(Option.bind (idx s_1 (IntKind.i64.wrap ((s_1.length : Int) - 1))) fun x =>
(cond ((x.toNat : Int) == (c.toNat : Int))
(Option.bind (slc s_1 0 (IntKind.i64.wrap ((s_1.length : Int) - 1))) fun y_ =>
some (.inl y_))
(some (.inr (.inl s_1)))))
(some (.inr (.inl s_1))))
noncomputable def bytes_trimRightByte (s_ : List UInt8) (c : UInt8) : Option ((List UInt8)) :=
(bnd (loopO (fun s => bytes_trimRightByte_l1 c s) (s_ : (List UInt8))) fun s_2 =>
some s_2)
noncomputable def bytes_TrimRight (s_ : List UInt8) : Option ((List UInt8)) :=
(bnd ((cond ((s_.length : Int) == 0)
(some (.inl true))
(some (.inl false))) : Option (Sum Bool ((List UInt8)))) fun x =>
(cond x
(some s_)
(Option.bind (bytes_trimRightByte s_ (0 : UInt8)) fun r =>
some r)))
noncomputable def tree_node (x : List UInt8) (x1 : Int) (x2 : Int) (x3 : Int) (x4 : Int) (x5 : Int) (x6 : Int) (x7 : List UInt8) (x8 : List UInt8) (x9 : Int) (x10 : List TApiAttr) : Option ((Int × Int × Int × Int × Int × Int × (List UInt8) × (List UInt8) × Int × (List TApiAttr) × (List TApiKid) × Int × Int)) :=
(bnd ((dup (.f .o .o) (Option.bind (tree_attrs x10) fun r =>
some (.inl (x1, x2, x3, x4, x5, 0, [], ([] : List UInt8), 0, r, [], 0, 0)))) : Option (Sum ((Int × Int × Int × Int × Int × Int × (List UInt8) × (List UInt8) × Int × (List TApiAttr) × (List TApiKid) × Int × Int)) ((Int × Int × Int × Int × Int × Int × (List UInt8) × (List UInt8) × Int × (List TApiAttr) × (List TApiKid) × Int × Int)))) fun j =>
(cond (x1 == 1)
(Option.bind (bytes_TrimRight x7) fun r1 =>
(Option.bind (bytes_Clone r1) fun r2 =>
some (j.1, j.2.1, j.2.2.1, j.2.2.2.1, j.2.2.2.2.1, x6, r2, j.2.2.2.2.2.2.2.1, j.2.2.2.2.2.2.2.2.1, j.2.2.2.2.2.2.2.2.2.1, j.2.2.2.2.2.2.2.2.2.2.1, j.2.2.2.2.2.2.2.2.2.2.2.1, j.2.2.2.2.2.2.2.2.2.2.2.2)))
(cond (x1 == 2)
(some (j.1, j.2.1, j.2.2.1, j.2.2.2.1, j.2.2.2.2.1, j.2.2.2.2.2.1, j.2.2.2.2.2.2.1, j.2.2.2.2.2.2.2.1, j.2.2.2.2.2.2.2.2.1, j.2.2.2.2.2.2.2.2.2.1, j.2.2.2.2.2.2.2.2.2.2.1, j.2.2.2.2.2.2.2.2.2.2.2.1, 2))
(cond (x1 == 3)
(some (j.1, j.2.1, j.2.2.1, j.2.2.2.1, j.2.2.2.2.1, j.2.2.2.2.2.1, j.2.2.2.2.2.2.1, x8, j.2.2.2.2.2.2.2.2.1, j.2.2.2.2.2.2.2.2.2.1, j.2.2.2.2.2.2.2.2.2.2.1, j.2.2.2.2.2.2.2.2.2.2.2.1, j.2.2.2.2.2.2.2.2.2.2.2.2))
(some (j.1, j.2.1, j.2.2.1, j.2.2.2.1, j.2.2.2.2.1, j.2.2.2.2.2.1, j.2.2.2.2.2.2.1, j.2.2.2.2.2.2.2.1, x9, j.2.2.2.2.2.2.2.2.2.1, j.2.2.2.2.2.2.2.2.2.2.1, j.2.2.2.2.2.2.2.2.2.2.2.1, j.2.2.2.2.2.2.2.2.2.2.2.2))))))
noncomputable def slices_Compare_string_l1 (s1 : List (List UInt8)) (s2 : List (List UInt8)) (x : Int) : Option (Sum Int (Sum Unit Int)) :=
(cond (decide (x < (s1.length : Int)))
(Option.bind (idx s1 x) fun x1 =>
(cond (decide (x ≥ (s2.length : Int)))
(some (.inr (.inr 1)))
(Option.bind (idx s2 x) fun x2 =>
(Option.bind (cmp_Compare_string x1 x2) fun r =>
(cond (r != 0)
(some (.inr (.inr r)))
(some (.inl (IntKind.i64.wrap (x + 1)))))))))
(some (.inr (.inl ()))))
noncomputable def slices_Compare_string (s1 : List (List UInt8)) (s2 : List (List UInt8)) : Option (Int) :=
(bnd (loopO (fun s => slices_Compare_string_l1 s1 s2 s) (0 : Int)) fun _ =>
(cond (decide ((s1.length : Int) < (s2.length : Int)))
(some (-1))
(some 0)))
noncomputable def name_Order (a : List (List UInt8)) (b : List (List UInt8)) : Option (Int) :=
(Option.bind (slices_Compare_string a b) fun r =>
some r)
noncomputable def tree_names_1 (a : List (List UInt8)) (a1 : List UInt8) (a2 : List UInt8) (b : List (List UInt8)) (b1 : List UInt8) (b2 : List UInt8) : Option (Int) :=
(Option.bind (name_Order a b) fun r =>
some r)
noncomputable def sort_Named (l : List TTreeNamed) : Option (List TTreeNamed) := sortBy (fun x y => tree_names_1 x.f_parts x.f_path x.f_of y.f_parts y.f_path y.f_of) l
noncomputable def tree_names_l1 (l : List TApiEntry) (out : List TTreeNamed) (x : Int) : Option (Sum ((List TTreeNamed) × Int) (Sum ((List TTreeNamed)) ((List TTreeNamed)))) :=
(cond (decide (x < (l.length : Int)))
(Option.bind (idx l x) fun x1 =>
(cond (x1.Path == ([] : List UInt8))
(some (.inl (out, (IntKind.i64.wrap (x + 1)))))
(bnd ((dup (.f .o .o) (Option.bind (strings_Split x1.Path) fun r =>
some (.inl (r, x1.Path, x1.Path)))) : Option (Sum (((List (List UInt8)) × (List UInt8) × (List UInt8))) (Sum ((List TTreeNamed) × Int) (Sum ((List TTreeNamed)) ((List TTreeNamed)))))) fun j =>
(cond (x1.Kind == 6)
(Option.bind (app out ([({ f_parts := j.1, f_path := j.2.1, f_of := x1.Target } : TTreeNamed)])) fun z =>
some (.inl (z, (IntKind.i64.wrap (x + 1)))))
(Option.bind (app out ([({ f_parts := j.1, f_path := j.2.1, f_of := j.2.2 } : TTreeNamed)])) fun z1 =>
some (.inl (z1, (IntKind.i64.wrap (x + 1)))))))))
(some (.inr (.inl out))))
noncomputable def tree_names (l : List TApiEntry) : Option ((List TTreeNamed)) :=
(bnd (loopO (fun s => tree_names_l1 l s.1 s.2) (([], 0) : (List TTreeNamed) × Int)) fun out1 =>
(Option.bind (sort_Named out1) fun r1 =>
some r1))
noncomputable def tree_Canon_l1 (l : List TApiEntry) (r1 : ((List TApiEntry) × (List (List UInt8 × Int)) × (List (List UInt8 × Int)) × (List (List UInt8 × Int)))) (r4 : (List TTreeNamed)) (inos : List (List UInt8 × Int)) (x : Int) (b : List TApiNode) : Option (Sum ((List (List UInt8 × Int)) × Int × ((List TApiNode))) (Sum (((List TApiNode))) (((List TApiNode)) × Int))) :=
(cond (decide (x < (r4.length : Int)))
(Option.bind (idx r4 x) fun x1 =>
(Option.bind (idx r4 x) fun x2 =>
(bnd ((cond (!(mget inos x2.f_of).isSome)
(bnd ((fork (Option.bind (idx l ((mget r1.2.1 x2.f_of).getD 0)) fun x3 =>
(Option.bind (tree_node x3.Path x3.Kind x3.Mode x3.Uid x3.Gid x3.Time x3.Size x3.Data x3.Target x3.Dev x3.Attrs) fun r5 =>
(Option.bind (app b [{ ({ Kind := r5.1, Mode := r5.2.1, Uid := r5.2.2.1, Gid := r5.2.2.2.1, Time := r5.2.2.2.2.1, Size := r5.2.2.2.2.2.1, Data := r5.2.2.2.2.2.2.1, Target := r5.2.2.2.2.2.2.2.1, Dev := r5.2.2.2.2.2.2.2.2.1, Attrs := r5.2.2.2.2.2.2.2.2.2.1, Kids := [], Parent := r5.2.2.2.2.2.2.2.2.2.2.2.1, Links := r5.2.2.2.2.2.2.2.2.2.2.2.2 } : TApiNode) with Kids := r5.2.2.2.2.2.2.2.2.2.2.1 }]) fun z =>
some (.inl z))))
(Option.bind (idx l ((mget r1.2.1 x2.f_of).getD 0)) fun x3 =>
(fork (Option.bind (tree_node x3.Path x3.Kind x3.Mode x3.Uid x3.Gid x3.Time x3.Size x3.Data x3.Target x3.Dev x3.Attrs) fun r5 =>
(Option.bind (app b [{ ({ Kind := r5.1, Mode := r5.2.1, Uid := r5.2.2.1, Gid := r5.2.2.2.1, Time := r5.2.2.2.2.1, Size := r5.2.2.2.2.2.1, Data := r5.2.2.2.2.2.2.1, Target := r5.2.2.2.2.2.2.2.1, Dev := r5.2.2.2.2.2.2.2.2.1, Attrs := r5.2.2.2.2.2.2.2.2.2.1, Kids := [], Parent := r5.2.2.2.2.2.2.2.2.2.2.2.1, Links := r5.2.2.2.2.2.2.2.2.2.2.2.2 } : TApiNode) with Kids := r5.2.2.2.2.2.2.2.2.2.2.1 }]) fun z =>
some (.inl z)))
(Option.bind (tree_node x3.Path x3.Kind x3.Mode x3.Uid x3.Gid x3.Time x3.Size x3.Data x3.Target x3.Dev x3.Attrs) fun r5 =>
(dup (.f .o .o) (Option.bind (app b [{ ({ Kind := r5.1, Mode := r5.2.1, Uid := r5.2.2.1, Gid := r5.2.2.2.1, Time := r5.2.2.2.2.1, Size := r5.2.2.2.2.2.1, Data := r5.2.2.2.2.2.2.1, Target := r5.2.2.2.2.2.2.2.1, Dev := r5.2.2.2.2.2.2.2.2.1, Attrs := r5.2.2.2.2.2.2.2.2.2.1, Kids := [], Parent := r5.2.2.2.2.2.2.2.2.2.2.2.1, Links := r5.2.2.2.2.2.2.2.2.2.2.2.2 } : TApiNode) with Kids := r5.2.2.2.2.2.2.2.2.2.2.1 }]) fun z =>
some (.inl z))))))) : Option (Sum (((List TApiNode))) (Sum ((List (List UInt8 × Int)) × Int × ((List TApiNode))) (Sum ((List (List UInt8 × Int)) × Int × ((List TApiNode))) (Sum (((List TApiNode))) (((List TApiNode)) × Int)))))) fun j =>
some (.inl ((mput inos x2.f_of (b.length : Int)), (b.length : Int), j)))
(some (.inl (inos, ((mget inos x2.f_of).getD 0), b)))) : Option (Sum ((List (List UInt8 × Int)) × Int × ((List TApiNode))) (Sum ((List (List UInt8 × Int)) × Int × ((List TApiNode))) (Sum (((List TApiNode))) (((List TApiNode)) × Int))))) fun j1 =>
(Option.bind (tree_above x2.f_path) fun r6 =>
(bnd ((Option.bind (idx x2.f_parts (IntKind.i64.wrap ((x2.f_parts.length : Int) - 1))) fun x4 =>
(fork (Option.bind (idx j1.2.2 ((mget j1.1 r6.1).getD 0)) fun x5 =>
(dup (.f .o .o) (Option.bind (idx j1.2.2 ((mget j1.1 r6.1).getD 0)) fun x6 =>
(Option.bind (app x6.Kids ([({ Name := x4, Ino := j1.2.1 } : TApiKid)])) fun z1 =>
(Option.bind (idx j1.2.2 ((mget j1.1 r6.1).getD 0)) fun x7 =>
(Option.bind (chk (decide (((mget j1.1 r6.1).getD 0) = ((mget j1.1 r6.1).getD 0)))) fun _ =>
some (.inl (List.set j1.2.2 (((mget j1.1 r6.1).getD 0).toNat) { x6 with Kids := z1 }))))))))
(Option.bind (idx j1.2.2 ((mget j1.1 r6.1).getD 0)) fun x5 =>
(Option.bind (idx j1.2.2 ((mget j1.1 r6.1).getD 0)) fun x6 =>
(Option.bind (app x6.Kids ([({ Name := x4, Ino := j1.2.1 } : TApiKid)])) fun z1 =>
(Option.bind (idx j1.2.2 ((mget j1.1 r6.1).getD 0)) fun x7 =>
(Option.bind (chk (decide (((mget j1.1 r6.1).getD 0) = ((mget j1.1 r6.1).getD 0)))) fun _ =>
some (.inl (List.set j1.2.2 (((mget j1.1 r6.1).getD 0).toNat) { x6 with Kids := z1 }))))))))) : Option (Sum (((List TApiNode))) (Sum ((List (List UInt8 × Int)) × Int × ((List TApiNode))) (Sum (((List TApiNode))) (((List TApiNode)) × Int))))) fun j2 =>
(Option.bind (idx j2 j1.2.1) fun x8 =>
(Option.bind (idx j2 j1.2.1) fun x9 =>
(cond (x9.Kind == 2)
(Option.bind (idx j2 j1.2.1) fun x10 =>
(Option.bind (idx j2 j1.2.1) fun x11 =>
(Option.bind (idx (List.set j2 j1.2.1.toNat ({ Kind := x11.Kind, Mode := x11.Mode, Uid := x11.Uid, Gid := x11.Gid, Time := x11.Time, Size := x11.Size, Data := x11.Data, Target := x11.Target, Dev := x11.Dev, Attrs := x11.Attrs, Kids := x11.Kids, Parent := ((mget j1.1 r6.1).getD 0), Links := x11.Links } : TApiNode)) ((mget j1.1 r6.1).getD 0)) fun x12 =>
(Option.bind (idx (List.set j2 j1.2.1.toNat ({ Kind := x11.Kind, Mode := x11.Mode, Uid := x11.Uid, Gid := x11.Gid, Time := x11.Time, Size := x11.Size, Data := x11.Data, Target := x11.Target, Dev := x11.Dev, Attrs := x11.Attrs, Kids := x11.Kids, Parent := ((mget j1.1 r6.1).getD 0), Links := x11.Links } : TApiNode)) ((mget j1.1 r6.1).getD 0)) fun x13 =>
(Option.bind (idx (List.set j2 j1.2.1.toNat ({ Kind := x11.Kind, Mode := x11.Mode, Uid := x11.Uid, Gid := x11.Gid, Time := x11.Time, Size := x11.Size, Data := x11.Data, Target := x11.Target, Dev := x11.Dev, Attrs := x11.Attrs, Kids := x11.Kids, Parent := ((mget j1.1 r6.1).getD 0), Links := x11.Links } : TApiNode)) ((mget j1.1 r6.1).getD 0)) fun x14 =>
(Option.bind (idx (List.set j2 j1.2.1.toNat ({ Kind := x11.Kind, Mode := x11.Mode, Uid := x11.Uid, Gid := x11.Gid, Time := x11.Time, Size := x11.Size, Data := x11.Data, Target := x11.Target, Dev := x11.Dev, Attrs := x11.Attrs, Kids := x11.Kids, Parent := ((mget j1.1 r6.1).getD 0), Links := x11.Links } : TApiNode)) ((mget j1.1 r6.1).getD 0)) fun x15 =>
some (.inl (j1.1, (IntKind.i64.wrap (x + 1)), (List.set (List.set j2 j1.2.1.toNat ({ Kind := x11.Kind, Mode := x11.Mode, Uid := x11.Uid, Gid := x11.Gid, Time := x11.Time, Size := x11.Size, Data := x11.Data, Target := x11.Target, Dev := x11.Dev, Attrs := x11.Attrs, Kids := x11.Kids, Parent := ((mget j1.1 r6.1).getD 0), Links := x11.Links } : TApiNode)) (((mget j1.1 r6.1).getD 0).toNat) ({ Kind := x15.Kind, Mode := x15.Mode, Uid := x15.Uid, Gid := x15.Gid, Time := x15.Time, Size := x15.Size, Data := x15.Data, Target := x15.Target, Dev := x15.Dev, Attrs := x15.Attrs, Kids := x15.Kids, Parent := x15.Parent, Links := (IntKind.i64.wrap (x13.Links + 1)) } : TApiNode))))))))))
(Option.bind (idx j2 j1.2.1) fun x16 =>
(Option.bind (idx j2 j1.2.1) fun x17 =>
(Option.bind (idx j2 j1.2.1) fun x18 =>
(Option.bind (idx j2 j1.2.1) fun x19 =>
some (.inl (j1.1, (IntKind.i64.wrap (x + 1)), (List.set j2 j1.2.1.toNat ({ Kind := x19.Kind, Mode := x19.Mode, Uid := x19.Uid, Gid := x19.Gid, Time := x19.Time, Size := x19.Size, Data := x19.Data, Target := x19.Target, Dev := x19.Dev, Attrs := x19.Attrs, Kids := x19.Kids, Parent := x19.Parent, Links := (IntKind.i64.wrap (x17.Links + 1)) } : TApiNode))))))))))))))))
(some (.inr (.inl b))))
noncomputable def tree_Canon (l : List TApiEntry) : Option (((List TApiNode)) × Int) :=
(Option.bind (tree_Check l) fun r =>
(cond (r.2 != 0)
(some ([], r.2))
(Option.bind (tree_index l) fun r1 =>
(Option.bind (tree_root l) fun r2 =>
(Option.bind (tree_node r2.1 r2.2.1 r2.2.2.1 r2.2.2.2.1 r2.2.2.2.2.1 r2.2.2.2.2.2.1 r2.2.2.2.2.2.2.1 r2.2.2.2.2.2.2.2.1 r2.2.2.2.2.2.2.2.2.1 r2.2.2.2.2.2.2.2.2.2.1 r2.2.2.2.2.2.2.2.2.2.2) fun r3 =>
(Option.bind (tree_names l) fun r4 =>
(bnd (loopO (fun s => tree_Canon_l1 l r1 r4 s.1 s.2.1 s.2.2) (((mput ([] : List (List UInt8 × Int)) ([] : List UInt8) 0), 0, [{ ({ Kind := r3.1, Mode := r3.2.1, Uid := r3.2.2.1, Gid := r3.2.2.2.1, Time := r3.2.2.2.2.1, Size := r3.2.2.2.2.2.1, Data := r3.2.2.2.2.2.2.1, Target := r3.2.2.2.2.2.2.2.1, Dev := r3.2.2.2.2.2.2.2.2.1, Attrs := r3.2.2.2.2.2.2.2.2.2.1, Kids := [], Parent := r3.2.2.2.2.2.2.2.2.2.2.2.1, Links := r3.2.2.2.2.2.2.2.2.2.2.2.2 } : TApiNode) with Kids := r3.2.2.2.2.2.2.2.2.2.2.1 }]) : (List (List UInt8 × Int)) × Int × ((List TApiNode)))) fun j3 =>
some (j3, 0))))))))
noncomputable def bytes_Equal (a : List UInt8) (b : List UInt8) : Option (Bool) :=
some (a == b)
noncomputable def slices_Equal_Kid_l1 (s1 : List TApiKid) (s2 : List TApiKid) (x : Int) : Option (Sum Int (Sum Unit Bool)) :=
(cond (decide (x < (s1.length : Int)))
(Option.bind (idx s1 x) fun x1 =>
(Option.bind (idx s2 x) fun x2 =>
(cond (!((x1.Name == x2.Name) && ((x1.Ino == x2.Ino) && true)))
(some (.inr (.inr false)))
(some (.inl (IntKind.i64.wrap (x + 1)))))))
(some (.inr (.inl ()))))
noncomputable def slices_Equal_Kid (s1 : List TApiKid) (s2 : List TApiKid) : Option (Bool) :=
(cond ((s1.length : Int) != (s2.length : Int))
(some false)
(bnd (loopO (fun s => slices_Equal_Kid_l1 s1 s2 s) (0 : Int)) fun _ =>
some true))
noncomputable def tree_alike_1 (x : List UInt8) (x1 : List UInt8) (y_ : List UInt8) (y_1 : List UInt8) : Option (Bool) :=
(cond (x == y_)
(Option.bind (bytes_Equal x1 y_1) fun r =>
some r)
(some false))
noncomputable def slices_EqualFunc_Attr_l1 (s1 : List TApiAttr) (s2 : List TApiAttr) (x : Int) : Option (Sum Int (Sum Unit Bool)) :=
(cond (decide (x < (s1.length : Int)))
(Option.bind (idx s1 x) fun x1 =>
(Option.bind (idx s2 x) fun x2 =>
(Option.bind (tree_alike_1 x1.Name x1.Value x2.Name x2.Value) fun r =>
(cond (!r)
(some (.inr (.inr false)))
(some (.inl (IntKind.i64.wrap (x + 1))))))))
(some (.inr (.inl ()))))
noncomputable def slices_EqualFunc_Attr (s1 : List TApiAttr) (s2 : List TApiAttr) : Option (Bool) :=
(cond ((s1.length : Int) != (s2.length : Int))
(some false)
(bnd (loopO (fun s => slices_EqualFunc_Attr_l1 s1 s2 s) (0 : Int)) fun _ =>
some true))
noncomputable def tree_alike (a : Int) (a1 : Int) (a2 : Int) (a3 : Int) (a4 : Int) (a5 : Int) (a6 : List UInt8) (a7 : List UInt8) (a8 : Int) (a9 : List TApiAttr) (a10 : List TApiKid) (a11 : Int) (a12 : Int) (b : Int) (b1 : Int) (b2 : Int) (b3 : Int) (b4 : Int) (b5 : Int) (b6 : List UInt8) (b7 : List UInt8) (b8 : Int) (b9 : List TApiAttr) (b10 : List TApiKid) (b11 : Int) (b12 : Int) : Option (Bool) :=
(bnd ((cond (a != b)
(some (.inl true))
(cond (a1 != b1)
(some (.inl true))
(cond (a2 != b2)
(some (.inl true))
(cond (a3 != b3)
(some (.inl true))
(cond (a4 != b4)
(some (.inl true))
(cond (a5 != b5)
(some (.inl true))
(cond (a7 != b7)
(some (.inl true))
(cond (a8 != b8)
(some (.inl true))
(cond (a11 != b11)
(some (.inl true))
(some (.inl (a12 != b12)))))))))))) : Option (Sum Bool Bool)) fun x =>
(cond x
(some false)
(Option.bind (bytes_Equal a6 b6) fun r =>
(cond r
(Option.bind (slices_Equal_Kid a10 b10) fun r1 =>
(cond r1
(Option.bind (slices_EqualFunc_Attr a9 b9) fun r2 =>
some r2)
(some false)))
(some false)))))
noncomputable def slices_EqualFunc_Node_l1 (s1 : List TApiNode) (s2 : List TApiNode) (x : Int) : Option (Sum Int (Sum Unit Bool)) :=
(cond (decide (x < (s1.length : Int)))
(Option.bind (idx s1 x) fun x1 =>
(Option.bind (idx s2 x) fun x2 =>
(Option.bind (tree_alike x1.Kind x1.Mode x1.Uid x1.Gid x1.Time x1.Size x1.Data x1.Target x1.Dev x1.Attrs x1.Kids x1.Parent x1.Links x2.Kind x2.Mode x2.Uid x2.Gid x2.Time x2.Size x2.Data x2.Target x2.Dev x2.Attrs x2.Kids x2.Parent x2.Links) fun r =>
(cond (!r)
(some (.inr (.inr false)))
(some (.inl (IntKind.i64.wrap (x + 1))))))))
(some (.inr (.inl ()))))
noncomputable def slices_EqualFunc_Node (s1 : List TApiNode) (s2 : List TApiNode) : Option (Bool) :=
(cond ((s1.length : Int) != (s2.length : Int))
(some false)
(bnd (loopO (fun s => slices_EqualFunc_Node_l1 s1 s2 s) (0 : Int)) fun _ =>
some true))
noncomputable def tree_Same (a : List TApiNode) (b : List TApiNode) : Option (Bool) :=
(Option.bind (slices_EqualFunc_Node a b) fun r =>
some r)
noncomputable def tree_List (t : List TApiNode) : Option ((List TApiEntry) × Int) :=
(pnE (tree_lister_add 70 t ([] : List (Int × (List UInt8))) ([]) 0 ([] : List UInt8) 0) (fun r =>
(Option.bind (tree_Canon r.2.2) fun r1 =>
(cond (r1.2 != 0)
(some ([], 1))
(Option.bind (tree_Same r1.1 t) fun r2 =>
(cond (!r2)
(some ([], 1))
(some (r.2.2, 0)))))))
(fun thrown => (some ([], 1))))
noncomputable def diff_list_l1 (r : (List TApiEntry) × Int) (x : Int) (b : List (List UInt8 × TApiEntry)) : Option (Sum (Int × ((List (List UInt8 × TApiEntry)))) (Sum (((List (List UInt8 × TApiEntry)))) (((List (List UInt8 × TApiEntry))) × Bool))) :=
(cond (decide (x < (r.1.length : Int)))
(Option.bind (idx r.1 x) fun x1 =>
some (.inl ((IntKind.i64.wrap (x + 1)), (mput b x1.Path x1))))
(some (.inr (.inl b))))
noncomputable def diff_list (t : List TApiNode) : Option (((List (List UInt8 × TApiEntry))) × Bool) :=
(Option.bind (tree_List t) fun r =>
(bnd (loopO (fun s => diff_list_l1 r s.1 s.2) ((0, ([] : List (List UInt8 × TApiEntry))) : Int × ((List (List UInt8 × TApiEntry))))) fun j =>
some (j, (r.2 == 0))))
noncomputable def diff_listing_portmanteau_api_Entry_has (l : (List (List UInt8 × TApiEntry))) (key : List UInt8) : Option (Bool) :=
some ((mget l key).isSome)
noncomputable def diff_keys_portmanteau_api_Entry_1 (o : (List (List UInt8 × TApiEntry))) (a : (List UInt8)) : Option (Bool) :=
(Option.bind (diff_listing_portmanteau_api_Entry_has o a) fun r =>
some r)
noncomputable def slices_IndexFunc_diff_listing_Entry_diff_listing_Entry_l1 (s_ : List (List (List UInt8 × TApiEntry))) (f : (List UInt8)) (x : Int) : Option (Sum Int (Sum Unit Int)) :=
(cond (decide (x < (s_.length : Int)))
(Option.bind (idx s_ x) fun x1 =>
(Option.bind (diff_keys_portmanteau_api_Entry_1 x1 f) fun r =>
(cond r
(some (.inr (.inr x)))
(some (.inl (IntKind.i64.wrap (x + 1)))))))
(some (.inr (.inl ()))))
noncomputable def slices_IndexFunc_diff_listing_Entry_diff_listing_Entry (s_ : List (List (List UInt8 × TApiEntry))) (f : (List UInt8)) : Option (Int) :=
(bnd (loopO (fun s => slices_IndexFunc_diff_listing_Entry_diff_listing_Entry_l1 s_ f s) (0 : Int)) fun _ =>
some (-1))
noncomputable def slices_ContainsFunc_diff_listing_Entry_diff_listing_Entry (s_ : List (List (List UInt8 × TApiEntry))) (f : (List UInt8)) : Option (Bool) :=
(Option.bind (slices_IndexFunc_diff_listing_Entry_diff_listing_Entry s_ f) fun r =>
some (decide (r ≥ 0)))
noncomputable def diff_parts (path : List UInt8) : Option ((List (List UInt8))) :=
(cond (path == ([] : List UInt8))
(some ([]))
(Option.bind (strings_Split path) fun r =>
some r))
noncomputable def diff_order (a : List UInt8) (b : List UInt8) : Option (Int) :=
(Option.bind (diff_parts a) fun r =>
(Option.bind (diff_parts b) fun r1 =>
(Option.bind (name_Order r r1) fun r2 =>
some r2)))
noncomputable def sort_String (l : List (List UInt8)) : Option (List (List UInt8)) := sortBy (fun x y => diff_order x y) l
def keysU {β : Type} : List (List (List UInt8 × β)) → List (List (List UInt8 × β)) → List (List UInt8)
 | _, [] => []
 | pre, m :: r => (m.map (·.1)).filter (fun k => !pre.any (fun o => (mget o k).isSome)) ++ keysU (pre ++ [m]) r
noncomputable def diff_keys (ls : List (List (List UInt8 × TApiEntry))) : Option (List (List UInt8)) := Option.bind (chk (decide ((keysU [] ls).length ≤ 100000000))) fun _ => sort_String (keysU [] ls)
noncomputable def diff_copied_l1 (x10 : List TApiAttr) (x11 : Int) (b : List UInt8) (b1 : Int) (b2 : Int) (b3 : Int) (b4 : Int) (b5 : Int) (b6 : Int) (b7 : List UInt8) (b8 : List UInt8) (b9 : Int) (b10 : List TApiAttr) : Option (Sum (Int × ((List UInt8) × Int × Int × Int × Int × Int × Int × (List UInt8) × (List UInt8) × Int × (List TApiAttr))) (Sum (((List UInt8) × Int × Int × Int × Int × Int × Int × (List UInt8) × (List UInt8) × Int × (List TApiAttr))) (((List UInt8) × Int × Int × Int × Int × Int × Int × (List UInt8) × (List UInt8) × Int × (List TApiAttr))))) :=
(cond (decide (x11 < (x10.length : Int)))
(Option.bind (idx x10 x11) fun x12 =>
(fork (Option.bind (bytes_Clone x12.Value) fun r1 =>
(Option.bind (app b10 ([({ Name := x12.Name, Value := r1 } : TApiAttr)])) fun z =>
some (.inl ((IntKind.i64.wrap (x11 + 1)), (b, b1, b2, b3, b4, b5, b6, b7, b8, b9, z)))))
(Option.bind (bytes_Clone x12.Value) fun r1 =>
(dup (.f .o .o) (Option.bind (app b10 ([({ Name := x12.Name, Value := r1 } : TApiAttr)])) fun z =>
some (.inl ((IntKind.i64.wrap (x11 + 1)), (b, b1, b2, b3, b4, b5, b6, b7, b8, b9, z))))))))
(some (.inr (.inl (b, b1, b2, b3, b4, b5, b6, b7, b8, b9, b10)))))
noncomputable def diff_copied (x : List UInt8) (x1 : Int) (x2 : Int) (x3 : Int) (x4 : Int) (x5 : Int) (x6 : Int) (x7 : List UInt8) (x8 : List UInt8) (x9 : Int) (x10 : List TApiAttr) : Option (((List UInt8) × Int × Int × Int × Int × Int × Int × (List UInt8) × (List UInt8) × Int × (List TApiAttr))) :=
(Option.bind (bytes_Clone x7) fun r =>
(bnd (loopO (fun s => diff_copied_l1 x10 s.1 s.2.1 s.2.2.1 s.2.2.2.1 s.2.2.2.2.1 s.2.2.2.2.2.1 s.2.2.2.2.2.2.1 s.2.2.2.2.2.2.2.1 s.2.2.2.2.2.2.2.2.1 s.2.2.2.2.2.2.2.2.2.1 s.2.2.2.2.2.2.2.2.2.2.1 s.2.2.2.2.2.2.2.2.2.2.2) ((0, (x, x1, x2, x3, x4, x5, x6, r, x8, x9, [])) : Int × ((List UInt8) × Int × Int × Int × Int × Int × Int × (List UInt8) × (List UInt8) × Int × (List TApiAttr)))) fun j =>
some (j.1, j.2.1, j.2.2.1, j.2.2.2.1, j.2.2.2.2.1, j.2.2.2.2.2.1, j.2.2.2.2.2.2.1, j.2.2.2.2.2.2.2.1, j.2.2.2.2.2.2.2.2.1, j.2.2.2.2.2.2.2.2.2.1, j.2.2.2.2.2.2.2.2.2.2)))
noncomputable def diff_all_1 (a : List UInt8) (a1 : Int) (a2 : Int) (a3 : Int) (a4 : Int) (a5 : Int) (a6 : Int) (a7 : List UInt8) (a8 : List UInt8) (a9 : Int) (a10 : List TApiAttr) (b : List UInt8) (b1 : Int) (b2 : Int) (b3 : Int) (b4 : Int) (b5 : Int) (b6 : Int) (b7 : List UInt8) (b8 : List UInt8) (b9 : Int) (b10 : List TApiAttr) : Option (Bool) :=
some (a == b)
noncomputable def diff_all_2 (a : List UInt8) (a1 : Int) (a2 : Int) (a3 : Int) (a4 : Int) (a5 : Int) (a6 : Int) (a7 : List UInt8) (a8 : List UInt8) (a9 : Int) (a10 : List TApiAttr) (b : List UInt8) (b1 : Int) (b2 : Int) (b3 : Int) (b4 : Int) (b5 : Int) (b6 : Int) (b7 : List UInt8) (b8 : List UInt8) (b9 : Int) (b10 : List TApiAttr) : Option (Bool) :=
some (a1 == b1)
noncomputable def diff_all_3 (a : List UInt8) (a1 : Int) (a2 : Int) (a3 : Int) (a4 : Int) (a5 : Int) (a6 : Int) (a7 : List UInt8) (a8 : List UInt8) (a9 : Int) (a10 : List TApiAttr) (b : List UInt8) (b1 : Int) (b2 : Int) (b3 : Int) (b4 : Int) (b5 : Int) (b6 : Int) (b7 : List UInt8) (b8 : List UInt8) (b9 : Int) (b10 : List TApiAttr) : Option (Bool) :=
some (a2 == b2)
noncomputable def diff_all_4 (a : List UInt8) (a1 : Int) (a2 : Int) (a3 : Int) (a4 : Int) (a5 : Int) (a6 : Int) (a7 : List UInt8) (a8 : List UInt8) (a9 : Int) (a10 : List TApiAttr) (b : List UInt8) (b1 : Int) (b2 : Int) (b3 : Int) (b4 : Int) (b5 : Int) (b6 : Int) (b7 : List UInt8) (b8 : List UInt8) (b9 : Int) (b10 : List TApiAttr) : Option (Bool) :=
some (a3 == b3)
noncomputable def diff_all_5 (a : List UInt8) (a1 : Int) (a2 : Int) (a3 : Int) (a4 : Int) (a5 : Int) (a6 : Int) (a7 : List UInt8) (a8 : List UInt8) (a9 : Int) (a10 : List TApiAttr) (b : List UInt8) (b1 : Int) (b2 : Int) (b3 : Int) (b4 : Int) (b5 : Int) (b6 : Int) (b7 : List UInt8) (b8 : List UInt8) (b9 : Int) (b10 : List TApiAttr) : Option (Bool) :=
some (a4 == b4)
noncomputable def diff_all_6 (a : List UInt8) (a1 : Int) (a2 : Int) (a3 : Int) (a4 : Int) (a5 : Int) (a6 : Int) (a7 : List UInt8) (a8 : List UInt8) (a9 : Int) (a10 : List TApiAttr) (b : List UInt8) (b1 : Int) (b2 : Int) (b3 : Int) (b4 : Int) (b5 : Int) (b6 : Int) (b7 : List UInt8) (b8 : List UInt8) (b9 : Int) (b10 : List TApiAttr) : Option (Bool) :=
some (a5 == b5)
noncomputable def diff_all_7 (a : List UInt8) (a1 : Int) (a2 : Int) (a3 : Int) (a4 : Int) (a5 : Int) (a6 : Int) (a7 : List UInt8) (a8 : List UInt8) (a9 : Int) (a10 : List TApiAttr) (b : List UInt8) (b1 : Int) (b2 : Int) (b3 : Int) (b4 : Int) (b5 : Int) (b6 : Int) (b7 : List UInt8) (b8 : List UInt8) (b9 : Int) (b10 : List TApiAttr) : Option (Bool) :=
some (a6 == b6)
noncomputable def diff_all_8 (a : List UInt8) (a1 : Int) (a2 : Int) (a3 : Int) (a4 : Int) (a5 : Int) (a6 : Int) (a7 : List UInt8) (a8 : List UInt8) (a9 : Int) (a10 : List TApiAttr) (b : List UInt8) (b1 : Int) (b2 : Int) (b3 : Int) (b4 : Int) (b5 : Int) (b6 : Int) (b7 : List UInt8) (b8 : List UInt8) (b9 : Int) (b10 : List TApiAttr) : Option (Bool) :=
(Option.bind (bytes_Equal a7 b7) fun r =>
some r)
noncomputable def diff_all_9 (a : List UInt8) (a1 : Int) (a2 : Int) (a3 : Int) (a4 : Int) (a5 : Int) (a6 : Int) (a7 : List UInt8) (a8 : List UInt8) (a9 : Int) (a10 : List TApiAttr) (b : List UInt8) (b1 : Int) (b2 : Int) (b3 : Int) (b4 : Int) (b5 : Int) (b6 : Int) (b7 : List UInt8) (b8 : List UInt8) (b9 : Int) (b10 : List TApiAttr) : Option (Bool) :=
some (a8 == b8)
noncomputable def diff_all_10 (a : List UInt8) (a1 : Int) (a2 : Int) (a3 : Int) (a4 : Int) (a5 : Int) (a6 : Int) (a7 : List UInt8) (a8 : List UInt8) (a9 : Int) (a10 : List TApiAttr) (b : List UInt8) (b1 : Int) (b2 : Int) (b3 : Int) (b4 : Int) (b5 : Int) (b6 : Int) (b7 : List UInt8) (b8 : List UInt8) (b9 : Int) (b10 : List TApiAttr) : Option (Bool) :=
some (a9 == b9)
noncomputable def diff_attrs_1 (x : List UInt8) (x1 : List UInt8) (y_ : List UInt8) (y_1 : List UInt8) : Option (Bool) :=
(cond (x == y_)
(Option.bind (bytes_Equal x1 y_1) fun r =>
some r)
(some false))
noncomputable def slices_EqualFunc_Attr_2_l1 (s1 : List TApiAttr) (s2 : List TApiAttr) (x : Int) : Option (Sum Int (Sum Unit Bool)) :=
(cond (decide (x < (s1.length : Int)))
(Option.bind (idx s1 x) fun x1 =>
(Option.bind (idx s2 x) fun x2 =>
(Option.bind (diff_attrs_1 x1.Name x1.Value x2.Name x2.Value) fun r =>
(cond (!r)
(some (.inr (.inr false)))
(some (.inl (IntKind.i64.wrap (x + 1))))))))
(some (.inr (.inl ()))))
noncomputable def slices_EqualFunc_Attr_2 (s1 : List TApiAttr) (s2 : List TApiAttr) : Option (Bool) :=
(cond ((s1.length : Int) != (s2.length : Int))
(some false)
(bnd (loopO (fun s => slices_EqualFunc_Attr_2_l1 s1 s2 s) (0 : Int)) fun _ =>
some true))
noncomputable def diff_attrs (a : List TApiAttr) (b : List TApiAttr) : Option (Bool) :=
(Option.bind (slices_EqualFunc_Attr_2 a b) fun r =>
some r)
noncomputable def diff_all_11 (a : List UInt8) (a1 : Int) (a2 : Int) (a3 : Int) (a4 : Int) (a5 : Int) (a6 : Int) (a7 : List UInt8) (a8 : List UInt8) (a9 : Int) (a10 : List TApiAttr) (b : List UInt8) (b1 : Int) (b2 : Int) (b3 : Int) (b4 : Int) (b5 : Int) (b6 : Int) (b7 : List UInt8) (b8 : List UInt8) (b9 : Int) (b10 : List TApiAttr) : Option (Bool) :=
(Option.bind (diff_attrs a10 b10) fun r =>
some r)
def fieldsF : List (List UInt8 × Option Bool) → Option (List (List UInt8))
 | [] => some []
 | (n, ob) :: r => ob.bind fun b => (fieldsF r).bind fun l => some (cond b l (n :: l))
noncomputable def diff_Fields (a0 : List UInt8) (a1 : Int) (a2 : Int) (a3 : Int) (a4 : Int) (a5 : Int) (a6 : Int) (a7 : List UInt8) (a8 : List UInt8) (a9 : Int) (a10 : List TApiAttr) (a11 : List UInt8) (a12 : Int) (a13 : Int) (a14 : Int) (a15 : Int) (a16 : Int) (a17 : Int) (a18 : List UInt8) (a19 : List UInt8) (a20 : Int) (a21 : List TApiAttr) : Option (List (List UInt8)) := fieldsF [([80, 97, 116, 104], diff_all_1 a0 a1 a2 a3 a4 a5 a6 a7 a8 a9 a10 a11 a12 a13 a14 a15 a16 a17 a18 a19 a20 a21), ([75, 105, 110, 100], diff_all_2 a0 a1 a2 a3 a4 a5 a6 a7 a8 a9 a10 a11 a12 a13 a14 a15 a16 a17 a18 a19 a20 a21), ([77, 111, 100, 101], diff_all_3 a0 a1 a2 a3 a4 a5 a6 a7 a8 a9 a10 a11 a12 a13 a14 a15 a16 a17 a18 a19 a20 a21), ([85, 105, 100], diff_all_4 a0 a1 a2 a3 a4 a5 a6 a7 a8 a9 a10 a11 a12 a13 a14 a15 a16 a17 a18 a19 a20 a21), ([71, 105, 100], diff_all_5 a0 a1 a2 a3 a4 a5 a6 a7 a8 a9 a10 a11 a12 a13 a14 a15 a16 a17 a18 a19 a20 a21), ([84, 105, 109, 101], diff_all_6 a0 a1 a2 a3 a4 a5 a6 a7 a8 a9 a10 a11 a12 a13 a14 a15 a16 a17 a18 a19 a20 a21), ([83, 105, 122, 101], diff_all_7 a0 a1 a2 a3 a4 a5 a6 a7 a8 a9 a10 a11 a12 a13 a14 a15 a16 a17 a18 a19 a20 a21), ([68, 97, 116, 97], diff_all_8 a0 a1 a2 a3 a4 a5 a6 a7 a8 a9 a10 a11 a12 a13 a14 a15 a16 a17 a18 a19 a20 a21), ([84, 97, 114, 103, 101, 116], diff_all_9 a0 a1 a2 a3 a4 a5 a6 a7 a8 a9 a10 a11 a12 a13 a14 a15 a16 a17 a18 a19 a20 a21), ([68, 101, 118], diff_all_10 a0 a1 a2 a3 a4 a5 a6 a7 a8 a9 a10 a11 a12 a13 a14 a15 a16 a17 a18 a19 a20 a21), ([65, 116, 116, 114, 115], diff_all_11 a0 a1 a2 a3 a4 a5 a6 a7 a8 a9 a10 a11 a12 a13 a14 a15 a16 a17 a18 a19 a20 a21)]
noncomputable def diff_Diff_l1 (r : ((List (List UInt8 × TApiEntry))) × Bool) (r1 : ((List (List UInt8 × TApiEntry))) × Bool) (r2 : (List (List UInt8))) (out : List TApiEdit) (x1 : Int) : Option (Sum ((List TApiEdit) × Int) (Sum ((List TApiEdit)) ((List TApiEdit) × Int))) :=
(cond (decide (x1 < (r2.length : Int)))
(Option.bind (idx r2 x1) fun x2 =>
(Option.bind (idx r2 x1) fun x3 =>
(Option.bind (diff_listing_portmanteau_api_Entry_has r1.1 x3) fun r3 =>
(cond (!r3)
(Option.bind (app out ([({ Do := 1, Entry := ({ Path := x3, Kind := 0, Mode := 0, Uid := 0, Gid := 0, Time := 0, Size := 0, Data := [], Target := ([] : List UInt8), Dev := 0, Attrs := [] } : TApiEntry) } : TApiEdit)])) fun z =>
some (.inl (z, (IntKind.i64.wrap (x1 + 1)))))
(Option.bind (diff_listing_portmanteau_api_Entry_has r.1 x3) fun r4 =>
(cond (!r4)
(Option.bind (diff_copied (((mget r1.1 x3).getD ({ Path := ([] : List UInt8), Kind := 0, Mode := 0, Uid := 0, Gid := 0, Time := 0, Size := 0, Data := [], Target := ([] : List UInt8), Dev := 0, Attrs := [] } : TApiEntry)).Path) (((mget r1.1 x3).getD ({ Path := ([] : List UInt8), Kind := 0, Mode := 0, Uid := 0, Gid := 0, Time := 0, Size := 0, Data := [], Target := ([] : List UInt8), Dev := 0, Attrs := [] } : TApiEntry)).Kind) (((mget r1.1 x3).getD ({ Path := ([] : List UInt8), Kind := 0, Mode := 0, Uid := 0, Gid := 0, Time := 0, Size := 0, Data := [], Target := ([] : List UInt8), Dev := 0, Attrs := [] } : TApiEntry)).Mode) (((mget r1.1 x3).getD ({ Path := ([] : List UInt8), Kind := 0, Mode := 0, Uid := 0, Gid := 0, Time := 0, Size := 0, Data := [], Target := ([] : List UInt8), Dev := 0, Attrs := [] } : TApiEntry)).Uid) (((mget r1.1 x3).getD ({ Path := ([] : List UInt8), Kind := 0, Mode := 0, Uid := 0, Gid := 0, Time := 0, Size := 0, Data := [], Target := ([] : List UInt8), Dev := 0, Attrs := [] } : TApiEntry)).Gid) (((mget r1.1 x3).getD ({ Path := ([] : List UInt8), Kind := 0, Mode := 0, Uid := 0, Gid := 0, Time := 0, Size := 0, Data := [], Target := ([] : List UInt8), Dev := 0, Attrs := [] } : TApiEntry)).Time) (((mget r1.1 x3).getD ({ Path := ([] : List UInt8), Kind := 0, Mode := 0, Uid := 0, Gid := 0, Time := 0, Size := 0, Data := [], Target := ([] : List UInt8), Dev := 0, Attrs := [] } : TApiEntry)).Size) (((mget r1.1 x3).getD ({ Path := ([] : List UInt8), Kind := 0, Mode := 0, Uid := 0, Gid := 0, Time := 0, Size := 0, Data := [], Target := ([] : List UInt8), Dev := 0, Attrs := [] } : TApiEntry)).Data) (((mget r1.1 x3).getD ({ Path := ([] : List UInt8), Kind := 0, Mode := 0, Uid := 0, Gid := 0, Time := 0, Size := 0, Data := [], Target := ([] : List UInt8), Dev := 0, Attrs := [] } : TApiEntry)).Target) (((mget r1.1 x3).getD ({ Path := ([] : List UInt8), Kind := 0, Mode := 0, Uid := 0, Gid := 0, Time := 0, Size := 0, Data := [], Target := ([] : List UInt8), Dev := 0, Attrs := [] } : TApiEntry)).Dev) (((mget r1.1 x3).getD ({ Path := ([] : List UInt8), Kind := 0, Mode := 0, Uid := 0, Gid := 0, Time := 0, Size := 0, Data := [], Target := ([] : List UInt8), Dev := 0, Attrs := [] } : TApiEntry)).Attrs)) fun r5 =>
(Option.bind (app out ([({ Do := 2, Entry := ({ Path := r5.1, Kind := r5.2.1, Mode := r5.2.2.1, Uid := r5.2.2.2.1, Gid := r5.2.2.2.2.1, Time := r5.2.2.2.2.2.1, Size := r5.2.2.2.2.2.2.1, Data := r5.2.2.2.2.2.2.2.1, Target := r5.2.2.2.2.2.2.2.2.1, Dev := r5.2.2.2.2.2.2.2.2.2.1, Attrs := r5.2.2.2.2.2.2.2.2.2.2 } : TApiEntry) } : TApiEdit)])) fun z1 =>
some (.inl (z1, (IntKind.i64.wrap (x1 + 1))))))
(bnd ((dup (.f .o .o) (Option.bind (diff_Fields (((mget r.1 x3).getD ({ Path := ([] : List UInt8), Kind := 0, Mode := 0, Uid := 0, Gid := 0, Time := 0, Size := 0, Data := [], Target := ([] : List UInt8), Dev := 0, Attrs := [] } : TApiEntry)).Path) (((mget r.1 x3).getD ({ Path := ([] : List UInt8), Kind := 0, Mode := 0, Uid := 0, Gid := 0, Time := 0, Size := 0, Data := [], Target := ([] : List UInt8), Dev := 0, Attrs := [] } : TApiEntry)).Kind) (((mget r.1 x3).getD ({ Path := ([] : List UInt8), Kind := 0, Mode := 0, Uid := 0, Gid := 0, Time := 0, Size := 0, Data := [], Target := ([] : List UInt8), Dev := 0, Attrs := [] } : TApiEntry)).Mode) (((mget r.1 x3).getD ({ Path := ([] : List UInt8), Kind := 0, Mode := 0, Uid := 0, Gid := 0, Time := 0, Size := 0, Data := [], Target := ([] : List UInt8), Dev := 0, Attrs := [] } : TApiEntry)).Uid) (((mget r.1 x3).getD ({ Path := ([] : List UInt8), Kind := 0, Mode := 0, Uid := 0, Gid := 0, Time := 0, Size := 0, Data := [], Target := ([] : List UInt8), Dev := 0, Attrs := [] } : TApiEntry)).Gid) (((mget r.1 x3).getD ({ Path := ([] : List UInt8), Kind := 0, Mode := 0, Uid := 0, Gid := 0, Time := 0, Size := 0, Data := [], Target := ([] : List UInt8), Dev := 0, Attrs := [] } : TApiEntry)).Time) (((mget r.1 x3).getD ({ Path := ([] : List UInt8), Kind := 0, Mode := 0, Uid := 0, Gid := 0, Time := 0, Size := 0, Data := [], Target := ([] : List UInt8), Dev := 0, Attrs := [] } : TApiEntry)).Size) (((mget r.1 x3).getD ({ Path := ([] : List UInt8), Kind := 0, Mode := 0, Uid := 0, Gid := 0, Time := 0, Size := 0, Data := [], Target := ([] : List UInt8), Dev := 0, Attrs := [] } : TApiEntry)).Data) (((mget r.1 x3).getD ({ Path := ([] : List UInt8), Kind := 0, Mode := 0, Uid := 0, Gid := 0, Time := 0, Size := 0, Data := [], Target := ([] : List UInt8), Dev := 0, Attrs := [] } : TApiEntry)).Target) (((mget r.1 x3).getD ({ Path := ([] : List UInt8), Kind := 0, Mode := 0, Uid := 0, Gid := 0, Time := 0, Size := 0, Data := [], Target := ([] : List UInt8), Dev := 0, Attrs := [] } : TApiEntry)).Dev) (((mget r.1 x3).getD ({ Path := ([] : List UInt8), Kind := 0, Mode := 0, Uid := 0, Gid := 0, Time := 0, Size := 0, Data := [], Target := ([] : List UInt8), Dev := 0, Attrs := [] } : TApiEntry)).Attrs) (((mget r1.1 x3).getD ({ Path := ([] : List UInt8), Kind := 0, Mode := 0, Uid := 0, Gid := 0, Time := 0, Size := 0, Data := [], Target := ([] : List UInt8), Dev := 0, Attrs := [] } : TApiEntry)).Path) (((mget r1.1 x3).getD ({ Path := ([] : List UInt8), Kind := 0, Mode := 0, Uid := 0, Gid := 0, Time := 0, Size := 0, Data := [], Target := ([] : List UInt8), Dev := 0, Attrs := [] } : TApiEntry)).Kind) (((mget r1.1 x3).getD ({ Path := ([] : List UInt8), Kind := 0, Mode := 0, Uid := 0, Gid := 0, Time := 0, Size := 0, Data := [], Target := ([] : List UInt8), Dev := 0, Attrs := [] } : TApiEntry)).Mode) (((mget r1.1 x3).getD ({ Path := ([] : List UInt8), Kind := 0, Mode := 0, Uid := 0, Gid := 0, Time := 0, Size := 0, Data := [], Target := ([] : List UInt8), Dev := 0, Attrs := [] } : TApiEntry)).Uid) (((mget r1.1 x3).getD ({ Path := ([] : List UInt8), Kind := 0, Mode := 0, Uid := 0, Gid := 0, Time := 0, Size := 0, Data := [], Target := ([] : List UInt8), Dev := 0, Attrs := [] } : TApiEntry)).Gid) (((mget r1.1 x3).getD ({ Path := ([] : List UInt8), Kind := 0, Mode := 0, Uid := 0, Gid := 0, Time := 0, Size := 0, Data := [], Target := ([] : List UInt8), Dev := 0, Attrs := [] } : TApiEntry)).Time) (((mget r1.1 x3).getD ({ Path := ([] : List UInt8), Kind := 0, Mode := 0, Uid := 0, Gid := 0, Time := 0, Size := 0, Data := [], Target := ([] : List UInt8), Dev := 0, Attrs := [] } : TApiEntry)).Size) (((mget r1.1 x3).getD ({ Path := ([] : List UInt8), Kind := 0, Mode := 0, Uid := 0, Gid := 0, Time := 0, Size := 0, Data := [], Target := ([] : List UInt8), Dev := 0, Attrs := [] } : TApiEntry)).Data) (((mget r1.1 x3).getD ({ Path := ([] : List UInt8), Kind := 0, Mode := 0, Uid := 0, Gid := 0, Time := 0, Size := 0, Data := [], Target := ([] : List UInt8), Dev := 0, Attrs := [] } : TApiEntry)).Target) (((mget r1.1 x3).getD ({ Path := ([] : List UInt8), Kind := 0, Mode := 0, Uid := 0, Gid := 0, Time := 0, Size := 0, Data := [], Target := ([] : List UInt8), Dev := 0, Attrs := [] } : TApiEntry)).Dev) (((mget r1.1 x3).getD ({ Path := ([] : List UInt8), Kind := 0, Mode := 0, Uid := 0, Gid := 0, Time := 0, Size := 0, Data := [], Target := ([] : List UInt8), Dev := 0, Attrs := [] } : TApiEntry)).Attrs)) fun r6 =>
some (.inl (decide ((r6.length : Int) > 0))))) : Option (Sum Bool (Sum ((List TApiEdit) × Int) (Sum ((List TApiEdit)) ((List TApiEdit) × Int))))) fun x4 =>
(cond x4
(Option.bind (diff_copied (((mget r1.1 x3).getD ({ Path := ([] : List UInt8), Kind := 0, Mode := 0, Uid := 0, Gid := 0, Time := 0, Size := 0, Data := [], Target := ([] : List UInt8), Dev := 0, Attrs := [] } : TApiEntry)).Path) (((mget r1.1 x3).getD ({ Path := ([] : List UInt8), Kind := 0, Mode := 0, Uid := 0, Gid := 0, Time := 0, Size := 0, Data := [], Target := ([] : List UInt8), Dev := 0, Attrs := [] } : TApiEntry)).Kind) (((mget r1.1 x3).getD ({ Path := ([] : List UInt8), Kind := 0, Mode := 0, Uid := 0, Gid := 0, Time := 0, Size := 0, Data := [], Target := ([] : List UInt8), Dev := 0, Attrs := [] } : TApiEntry)).Mode) (((mget r1.1 x3).getD ({ Path := ([] : List UInt8), Kind := 0, Mode := 0, Uid := 0, Gid := 0, Time := 0, Size := 0, Data := [], Target := ([] : List UInt8), Dev := 0, Attrs := [] } : TApiEntry)).Uid) (((mget r1.1 x3).getD ({ Path := ([] : List UInt8), Kind := 0, Mode := 0, Uid := 0, Gid := 0, Time := 0, Size := 0, Data := [], Target := ([] : List UInt8), Dev := 0, Attrs := [] } : TApiEntry)).Gid) (((mget r1.1 x3).getD ({ Path := ([] : List UInt8), Kind := 0, Mode := 0, Uid := 0, Gid := 0, Time := 0, Size := 0, Data := [], Target := ([] : List UInt8), Dev := 0, Attrs := [] } : TApiEntry)).Time) (((mget r1.1 x3).getD ({ Path := ([] : List UInt8), Kind := 0, Mode := 0, Uid := 0, Gid := 0, Time := 0, Size := 0, Data := [], Target := ([] : List UInt8), Dev := 0, Attrs := [] } : TApiEntry)).Size) (((mget r1.1 x3).getD ({ Path := ([] : List UInt8), Kind := 0, Mode := 0, Uid := 0, Gid := 0, Time := 0, Size := 0, Data := [], Target := ([] : List UInt8), Dev := 0, Attrs := [] } : TApiEntry)).Data) (((mget r1.1 x3).getD ({ Path := ([] : List UInt8), Kind := 0, Mode := 0, Uid := 0, Gid := 0, Time := 0, Size := 0, Data := [], Target := ([] : List UInt8), Dev := 0, Attrs := [] } : TApiEntry)).Target) (((mget r1.1 x3).getD ({ Path := ([] : List UInt8), Kind := 0, Mode := 0, Uid := 0, Gid := 0, Time := 0, Size := 0, Data := [], Target := ([] : List UInt8), Dev := 0, Attrs := [] } : TApiEntry)).Dev) (((mget r1.1 x3).getD ({ Path := ([] : List UInt8), Kind := 0, Mode := 0, Uid := 0, Gid := 0, Time := 0, Size := 0, Data := [], Target := ([] : List UInt8), Dev := 0, Attrs := [] } : TApiEntry)).Attrs)) fun r7 =>
(Option.bind (app out ([({ Do := 3, Entry := ({ Path := r7.1, Kind := r7.2.1, Mode := r7.2.2.1, Uid := r7.2.2.2.1, Gid := r7.2.2.2.2.1, Time := r7.2.2.2.2.2.1, Size := r7.2.2.2.2.2.2.1, Data := r7.2.2.2.2.2.2.2.1, Target := r7.2.2.2.2.2.2.2.2.1, Dev := r7.2.2.2.2.2.2.2.2.2.1, Attrs := r7.2.2.2.2.2.2.2.2.2.2 } : TApiEntry) } : TApiEdit)])) fun z2 =>
some (.inl (z2, (IntKind.i64.wrap (x1 + 1))))))
(some (.inl (out, (IntKind.i64.wrap (x1 + 1)))))))))))))
(some (.inr (.inl out))))
noncomputable def diff_Diff (a : List TApiNode) (b : List TApiNode) : Option ((List TApiEdit) × Int) :=
(Option.bind (diff_list a) fun r =>
(Option.bind (diff_list b) fun r1 =>
(bnd ((cond (!r.2)
(some (.inl true))
(some (.inl (!r1.2)))) : Option (Sum Bool ((List TApiEdit) × Int))) fun x =>
(cond x
(some ([], 1))
(Option.bind (diff_keys ([r.1, r1.1] : List (List (List UInt8 × TApiEntry)))) fun r2 =>
(bnd (loopO (fun s => diff_Diff_l1 r r1 r2 s.1 s.2) (([], 0) : (List TApiEdit) × Int)) fun out1 =>
some (out1, 0)))))))
noncomputable def law29_num (e : Int) : Option (Int) :=
some e
noncomputable def law29_live : Option (Bool) :=
(Option.bind (ref11_Canon ([({ Path := ([97] : List UInt8), Kind := 1, Mode := 0, Uid := 0, Gid := 0, Time := 0, Size := 0, Data := [], Target := ([] : List UInt8), Dev := 0, Attrs := [] } : TApiEntry)] : List TApiEntry)) fun r =>
(Option.bind (ref11_Canon ([({ Path := ([97] : List UInt8), Kind := 1, Mode := 1, Uid := 0, Gid := 0, Time := 0, Size := 0, Data := [], Target := ([] : List UInt8), Dev := 0, Attrs := [] } : TApiEntry), ({ Path := ([98] : List UInt8), Kind := 1, Mode := 0, Uid := 0, Gid := 0, Time := 0, Size := 0, Data := [], Target := ([] : List UInt8), Dev := 0, Attrs := [] } : TApiEntry)] : List TApiEntry)) fun r1 =>
(Option.bind (diff_Diff r r1) fun r2 =>
(Option.bind (law29_num r2.2) fun r3 =>
(cond (r3 == 0)
(cond ((r2.1.length : Int) == 2)
(Option.bind (idx r2.1 0) fun x =>
(Option.bind (idx r2.1 0) fun x1 =>
(cond (x1.Do == 3)
(Option.bind (idx r2.1 0) fun x2 =>
(Option.bind (idx r2.1 0) fun x3 =>
(cond (x3.Entry.Path == ([97] : List UInt8))
(Option.bind (idx r2.1 1) fun x4 =>
(Option.bind (idx r2.1 1) fun x5 =>
(cond (x5.Do == 2)
(Option.bind (idx r2.1 1) fun x6 =>
(Option.bind (idx r2.1 1) fun x7 =>
some (x7.Entry.Path == ([98] : List UInt8))))
(some false))))
(some false))))
(some false))))
(some false))
(some false))))))
noncomputable def diff_list_2_l1 (r : (List TApiEntry) × Int) (x : Int) (b : List (List UInt8 × TApiEntry)) : Option (Sum (Int × ((List (List UInt8 × TApiEntry)))) (Sum (((List (List UInt8 × TApiEntry)))) (((List (List UInt8 × TApiEntry))) × Bool))) :=
(cond (decide (x < (r.1.length : Int)))
(Option.bind (idx r.1 x) fun x1 =>
some (.inl ((IntKind.i64.wrap (x + 1)), (mput b x1.Path x1))))
(some (.inr (.inl b))))
noncomputable def diff_list_2 (t : List TApiNode) : Option (((List (List UInt8 × TApiEntry))) × Bool) :=
(Option.bind (tree_List t) fun r =>
(bnd (loopO (fun s => diff_list_2_l1 r s.1 s.2) ((0, ([] : List (List UInt8 × TApiEntry))) : Int × ((List (List UInt8 × TApiEntry))))) fun j =>
some (j, (r.2 == 0))))
noncomputable def diff_listing_portmanteau_api_Entry_has_2 (by_ : List (List UInt8 × TApiEntry)) (key : List UInt8) : Option (Bool × ((List (List UInt8 × TApiEntry)))) :=
some ((mget by_ key).isSome, by_)
noncomputable def diff_edit (by_ : List (List UInt8 × TApiEntry)) (x : Int) (x1 : List UInt8) (x2 : Int) (x3 : Int) (x4 : Int) (x5 : Int) (x6 : Int) (x7 : Int) (x8 : List UInt8) (x9 : List UInt8) (x10 : Int) (x11 : List TApiAttr) : Option (Int × ((List (List UInt8 × TApiEntry)))) :=
(Option.bind (diff_listing_portmanteau_api_Entry_has_2 by_ x1) fun r =>
(cond (x == 1)
(cond (!r.1)
(some (4, r.2))
(some (0, (mdel r.2 x1))))
(bnd ((cond (x == 2)
(cond r.1
(some (.inr (110, r.2)))
(some (.inl ())))
(cond (x == 3)
(cond (!r.1)
(some (.inr (4, r.2)))
(some (.inl ())))
(some (.inr (8, r.2))))) : Option (Sum Unit (Int × ((List (List UInt8 × TApiEntry)))))) fun _ =>
(Option.bind (diff_copied x1 x2 x3 x4 x5 x6 x7 x8 x9 x10 x11) fun r1 =>
some (0, (mput r.2 x1 ({ Path := r1.1, Kind := r1.2.1, Mode := r1.2.2.1, Uid := r1.2.2.2.1, Gid := r1.2.2.2.2.1, Time := r1.2.2.2.2.2.1, Size := r1.2.2.2.2.2.2.1, Data := r1.2.2.2.2.2.2.2.1, Target := r1.2.2.2.2.2.2.2.2.1, Dev := r1.2.2.2.2.2.2.2.2.2.1, Attrs := r1.2.2.2.2.2.2.2.2.2.2 } : TApiEntry)))))))
noncomputable def diff_entries_l1 (l : (List (List UInt8 × TApiEntry))) (r : (List (List UInt8))) (out : List TApiEntry) (x : Int) : Option (Sum ((List TApiEntry) × Int) (Sum ((List TApiEntry)) ((List TApiEntry)))) :=
(cond (decide (x < (r.length : Int)))
(Option.bind (idx r x) fun x1 =>
(Option.bind (idx r x) fun x2 =>
(Option.bind (app out ([((mget l x2).getD ({ Path := ([] : List UInt8), Kind := 0, Mode := 0, Uid := 0, Gid := 0, Time := 0, Size := 0, Data := [], Target := ([] : List UInt8), Dev := 0, Attrs := [] } : TApiEntry))])) fun z =>
some (.inl (z, (IntKind.i64.wrap (x + 1)))))))
(some (.inr (.inl out))))
noncomputable def diff_entries (l : (List (List UInt8 × TApiEntry))) : Option ((List TApiEntry)) :=
(Option.bind (diff_keys ([l] : List (List (List UInt8 × TApiEntry)))) fun r =>
(bnd (loopO (fun s => diff_entries_l1 l r s.1 s.2) (([], 0) : (List TApiEntry) × Int)) fun out1 =>
some out1))
noncomputable def diff_Apply_l1 (l : List TApiEdit) (x : Int) (b : List (List UInt8 × TApiEntry)) : Option (Sum (Int × ((List (List UInt8 × TApiEntry)))) (Sum (((List (List UInt8 × TApiEntry)))) (((List TApiNode)) × Int × Int))) :=
(cond (decide (x < (l.length : Int)))
(Option.bind (idx l x) fun x1 =>
(Option.bind (diff_edit b x1.Do x1.Entry.Path x1.Entry.Kind x1.Entry.Mode x1.Entry.Uid x1.Entry.Gid x1.Entry.Time x1.Entry.Size x1.Entry.Data x1.Entry.Target x1.Entry.Dev x1.Entry.Attrs) fun r1 =>
(cond (r1.1 != 0)
(some (.inr (.inr ([], r1.1, x))))
(some (.inl ((IntKind.i64.wrap (x + 1)), r1.2))))))
(some (.inr (.inl b))))
noncomputable def diff_Apply (t : List TApiNode) (l : List TApiEdit) : Option (((List TApiNode)) × Int × Int) :=
(Option.bind (diff_list_2 t) fun r =>
(cond (!r.2)
(some ([], 1, 0))
(bnd (loopO (fun s => diff_Apply_l1 l s.1 s.2) ((0, r.1) : Int × ((List (List UInt8 × TApiEntry))))) fun j =>
(Option.bind (diff_entries j) fun r2 =>
(Option.bind (tree_Canon r2) fun r3 =>
(cond (r3.2 != 0)
(some ([], 6, (l.length : Int)))
(some (r3.1, 0, (l.length : Int)))))))))
noncomputable def diff_Invert (t : List TApiNode) (l : List TApiEdit) : Option ((List TApiEdit) × Int) :=
(Option.bind (diff_Apply t l) fun r =>
(cond (r.2.1 != 0)
(some ([], r.2.1))
(Option.bind (diff_Diff r.1 t) fun r1 =>
some (r1.1, r1.2))))
noncomputable def ref11_SameAttrs_l1 (a : List TApiAttr) (b : List TApiAttr) (i : Int) : Option (Sum Int (Sum Unit Bool)) :=
(cond (decide (i < (a.length : Int)))
(Option.bind (idx a i) fun x =>
(Option.bind (idx b i) fun x1 =>
(cond (x.Name != x1.Name)
(some (.inr (.inr false)))
(Option.bind (idx a i) fun x2 =>
(Option.bind (idx b i) fun x3 =>
(cond (x2.Value != x3.Value)
(some (.inr (.inr false)))
(some (.inl (IntKind.i64.wrap (i + 1))))))))))
(some (.inr (.inl ()))))
noncomputable def ref11_SameAttrs (a : List TApiAttr) (b : List TApiAttr) : Option (Bool) :=
(cond ((a.length : Int) != (b.length : Int))
(some false)
(bnd (loopO (fun s => ref11_SameAttrs_l1 a b s) (0 : Int)) fun _ =>
some true))
noncomputable def ref11_SameKids_l1 (a : List TApiKid) (b : List TApiKid) (i : Int) : Option (Sum Int (Sum Unit Bool)) :=
(cond (decide (i < (a.length : Int)))
(Option.bind (idx a i) fun x =>
(Option.bind (idx b i) fun x1 =>
(cond (x.Name != x1.Name)
(some (.inr (.inr false)))
(Option.bind (idx a i) fun x2 =>
(Option.bind (idx b i) fun x3 =>
(cond (x2.Ino != x3.Ino)
(some (.inr (.inr false)))
(some (.inl (IntKind.i64.wrap (i + 1))))))))))
(some (.inr (.inl ()))))
noncomputable def ref11_SameKids (a : List TApiKid) (b : List TApiKid) : Option (Bool) :=
(cond ((a.length : Int) != (b.length : Int))
(some false)
(bnd (loopO (fun s => ref11_SameKids_l1 a b s) (0 : Int)) fun _ =>
some true))
noncomputable def ref11_Same_l1 (a : List TApiNode) (b : List TApiNode) (i : Int) : Option (Sum Int (Sum Unit Bool)) :=
(cond (decide (i < (a.length : Int)))
(bnd ((Option.bind (idx a i) fun x =>
(Option.bind (idx b i) fun x1 =>
(dup (.f .o .o) (some (.inl ((x.Kind, x.Mode, x.Uid, x.Gid, x.Time, x.Size, x.Data, x.Target, x.Dev, x.Attrs, x.Kids, x.Parent, x.Links), (x1.Kind, x1.Mode, x1.Uid, x1.Gid, x1.Time, x1.Size, x1.Data, x1.Target, x1.Dev, x1.Attrs, x1.Kids, x1.Parent, x1.Links))))))) : Option (Sum ((Int × Int × Int × Int × Int × Int × (List UInt8) × (List UInt8) × Int × (List TApiAttr) × (List TApiKid) × Int × Int) × (Int × Int × Int × Int × Int × Int × (List UInt8) × (List UInt8) × Int × (List TApiAttr) × (List TApiKid) × Int × Int)) (Sum Int (Sum Unit Bool)))) fun j =>
(bnd ((cond (j.1.1 != j.2.1)
(some (.inl true))
(cond (j.1.2.1 != j.2.2.1)
(some (.inl true))
(cond (j.1.2.2.1 != j.2.2.2.1)
(some (.inl true))
(cond (j.1.2.2.2.1 != j.2.2.2.2.1)
(some (.inl true))
(cond (j.1.2.2.2.2.1 != j.2.2.2.2.2.1)
(some (.inl true))
(cond (j.1.2.2.2.2.2.1 != j.2.2.2.2.2.2.1)
(some (.inl true))
(cond (j.1.2.2.2.2.2.2.1 != j.2.2.2.2.2.2.2.1)
(some (.inl true))
(cond (j.1.2.2.2.2.2.2.2.1 != j.2.2.2.2.2.2.2.2.1)
(some (.inl true))
(cond (j.1.2.2.2.2.2.2.2.2.1 != j.2.2.2.2.2.2.2.2.2.1)
(some (.inl true))
(cond (j.1.2.2.2.2.2.2.2.2.2.2.2.1 != j.2.2.2.2.2.2.2.2.2.2.2.2.1)
(some (.inl true))
(cond (j.1.2.2.2.2.2.2.2.2.2.2.2.2 != j.2.2.2.2.2.2.2.2.2.2.2.2.2)
(some (.inl true))
(Option.bind (ref11_SameAttrs j.1.2.2.2.2.2.2.2.2.2.1 j.2.2.2.2.2.2.2.2.2.2.1) fun r =>
(cond (!r)
(some (.inl true))
(Option.bind (ref11_SameKids j.1.2.2.2.2.2.2.2.2.2.2.1 j.2.2.2.2.2.2.2.2.2.2.2.1) fun r1 =>
some (.inl (!r1)))))))))))))))) : Option (Sum Bool (Sum Int (Sum Unit Bool)))) fun x2 =>
(cond x2
(some (.inr (.inr false)))
(some (.inl (IntKind.i64.wrap (i + 1)))))))
(some (.inr (.inl ()))))
noncomputable def ref11_Same (a : List TApiNode) (b : List TApiNode) : Option (Bool) :=
(cond ((a.length : Int) != (b.length : Int))
(some false)
(bnd (loopO (fun s => ref11_Same_l1 a b s) (0 : Int)) fun _ =>
some true))
noncomputable def law29_DiffBack (a : List TApiEntry) (b : List TApiEntry) : Option (Bool) :=
(Option.bind (law29_of a) fun r =>
(Option.bind (law29_of b) fun r1 =>
(bnd ((cond (!r.2)
(some (.inl true))
(some (.inl (!r1.2)))) : Option (Sum Bool Bool)) fun x =>
(cond x
(Option.bind law29_live fun r2 =>
some r2)
(Option.bind (diff_Diff r.1 r1.1) fun r3 =>
(Option.bind (diff_Apply r.1 r3.1) fun r4 =>
(Option.bind (diff_Invert r.1 r3.1) fun r5 =>
(Option.bind (diff_Apply r4.1 r5.1) fun r6 =>
(Option.bind (diff_Diff r.1 r.1) fun r7 =>
(Option.bind (diff_Apply r.1 ([])) fun r8 =>
(Option.bind (law29_num r3.2) fun r9 =>
(Option.bind (law29_num r4.2.1) fun r10 =>
(Option.bind (law29_num r5.2) fun r11 =>
(Option.bind (law29_num r6.2.1) fun r12 =>
(Option.bind (law29_num r7.2) fun r13 =>
(Option.bind (law29_num r8.2.1) fun r14 =>
(cond ((IntKind.i64.wrap ((IntKind.i64.wrap ((IntKind.i64.wrap ((IntKind.i64.wrap ((IntKind.i64.wrap (r9 + r10)) + r11)) + r12)) + r13)) + r14)) == 0)
(cond (r4.2.2 == (r3.1.length : Int))
(Option.bind (ref11_Same r4.1 r1.1) fun r15 =>
(cond r15
(Option.bind (ref11_Same r6.1 r.1) fun r16 =>
(cond r16
(cond ((r7.1.length : Int) == 0)
(Option.bind (ref11_Same r8.1 r.1) fun r17 =>
(cond r17
(Option.bind law29_live fun r18 =>
some r18)
(some false)))
(some false))
(some false)))
(some false)))
(some false))
(some false))))))))))))))))))
end Go.Proofs.YtkleajhiihbefaaGreatDoor.F
