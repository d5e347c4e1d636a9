/- Texts in one: MPP Lays20. -/
import Derived.Test.YtkmhidggbnbaaaaGreatDoorBP7
import Derived.Test.YtkmhidggbnbaaaaGreatDoorProg
set_option linter.unusedVariables false
set_option linter.unusedSimpArgs false
namespace Go.Proofs.YtkmhidggbnbaaaaGreatDoor.K
open Go Go.RowKit
structure TApiAttr where
  Name : (List UInt8)
  Value : (List UInt8)
  deriving DecidableEq
def rApiAttr : Rep TApiAttr where
  sz := 2
  im m cs x := ∃ A1 c1, cs = [.string ⟨x.Name.toArray⟩, .slice A1 x.Value.length c1] ∧ x.Name.length ≤ 9223372036854775807 ∧ SlI rU8 m A1 c1 x.Value
  wf x := rStr.wf x.Name ∧ (rSl rU8).wf x.Value
  mono hs := fun ⟨A1, c1, h, s0, s1⟩ => ⟨A1, c1, h, s0, s1.mono hs⟩
  len := fun ⟨A1, c1, h, s0, s1⟩ => by rw [h]; rfl
  one := fun ⟨A1, c1, h, s0, s1⟩ => by rw [h]; intro u hu; simp only [List.mem_cons, List.mem_nil_iff, or_false] at hu; rcases hu with rfl | rfl <;> rfl
structure TApiEntry where
  Path : (List UInt8)
  Kind : Int
  Mode : Int
  Uid : Int
  Gid : Int
  Time : Int
  Size : Int
  Data : (List UInt8)
  Target : (List UInt8)
  Dev : Int
  Attrs : (List TApiAttr)
  deriving DecidableEq
def rApiEntry : Rep TApiEntry where
  sz := 11
  im m cs x := ∃ A7 c7, ∃ A10 c10, cs = [.string ⟨x.Path.toArray⟩, .int .i64 x.Kind, .int .i64 x.Mode, .int .i64 x.Uid, .int .i64 x.Gid, .int .i64 x.Time, .int .i64 x.Size, .slice A7 x.Data.length c7, .string ⟨x.Target.toArray⟩, .int .i64 x.Dev, .slice A10 x.Attrs.length c10] ∧ x.Path.length ≤ 9223372036854775807 ∧ SlI rU8 m A7 c7 x.Data ∧ x.Target.length ≤ 9223372036854775807 ∧ SlI rApiAttr m A10 c10 x.Attrs
  wf x := rStr.wf x.Path ∧ rI64.wf x.Kind ∧ rI64.wf x.Mode ∧ rI64.wf x.Uid ∧ rI64.wf x.Gid ∧ rI64.wf x.Time ∧ rI64.wf x.Size ∧ (rSl rU8).wf x.Data ∧ rStr.wf x.Target ∧ rI64.wf x.Dev ∧ (rSl rApiAttr).wf x.Attrs
  mono hs := fun ⟨A7, c7, A10, c10, h, s0, s7, s8, s10⟩ => ⟨A7, c7, A10, c10, h, s0, s7.mono hs, s8, s10.mono hs⟩
  len := fun ⟨A7, c7, A10, c10, h, s0, s7, s8, s10⟩ => by rw [h]; rfl
  one := fun ⟨A7, c7, A10, c10, h, s0, s7, s8, s10⟩ => by rw [h]; intro u hu; simp only [List.mem_cons, List.mem_nil_iff, or_false] at hu; rcases hu with rfl | rfl | rfl | rfl | rfl | rfl | rfl | rfl | rfl | rfl | rfl <;> rfl
structure TApiKid where
  Name : (List UInt8)
  Ino : Int
  deriving DecidableEq
def rApiKid : Rep TApiKid where
  sz := 2
  im m cs x := cs = [.string ⟨x.Name.toArray⟩, .int .i64 x.Ino] ∧ x.Name.length ≤ 9223372036854775807
  wf x := rStr.wf x.Name ∧ rI64.wf x.Ino
  mono hs := fun ⟨h, s0⟩ => ⟨h, s0⟩
  len := fun ⟨h, s0⟩ => by rw [h]; rfl
  one := fun ⟨h, s0⟩ => by rw [h]; intro u hu; simp only [List.mem_cons, List.mem_nil_iff, or_false] at hu; rcases hu with rfl | rfl <;> rfl
structure TApiNode where
  Kind : Int
  Mode : Int
  Uid : Int
  Gid : Int
  Time : Int
  Size : Int
  Data : (List UInt8)
  Target : (List UInt8)
  Dev : Int
  Attrs : (List TApiAttr)
  Kids : (List TApiKid)
  Parent : Int
  Links : Int
  deriving DecidableEq
def rApiNode : Rep TApiNode where
  sz := 13
  im m cs x := ∃ A6 c6, ∃ A9 c9, ∃ A10 c10, cs = [.int .i64 x.Kind, .int .i64 x.Mode, .int .i64 x.Uid, .int .i64 x.Gid, .int .i64 x.Time, .int .i64 x.Size, .slice A6 x.Data.length c6, .string ⟨x.Target.toArray⟩, .int .i64 x.Dev, .slice A9 x.Attrs.length c9, .slice A10 x.Kids.length c10, .int .i64 x.Parent, .int .i64 x.Links] ∧ SlI rU8 m A6 c6 x.Data ∧ x.Target.length ≤ 9223372036854775807 ∧ SlI rApiAttr m A9 c9 x.Attrs ∧ SlI rApiKid m A10 c10 x.Kids
  wf x := rI64.wf x.Kind ∧ rI64.wf x.Mode ∧ rI64.wf x.Uid ∧ rI64.wf x.Gid ∧ rI64.wf x.Time ∧ rI64.wf x.Size ∧ (rSl rU8).wf x.Data ∧ rStr.wf x.Target ∧ rI64.wf x.Dev ∧ (rSl rApiAttr).wf x.Attrs ∧ (rSl rApiKid).wf x.Kids ∧ rI64.wf x.Parent ∧ rI64.wf x.Links
  mono hs := fun ⟨A6, c6, A9, c9, A10, c10, h, s6, s7, s9, s10⟩ => ⟨A6, c6, A9, c9, A10, c10, h, s6.mono hs, s7, s9.mono hs, s10.mono hs⟩
  len := fun ⟨A6, c6, A9, c9, A10, c10, h, s6, s7, s9, s10⟩ => by rw [h]; rfl
  one := fun ⟨A6, c6, A9, c9, A10, c10, h, s6, s7, s9, s10⟩ => by rw [h]; intro u hu; simp only [List.mem_cons, List.mem_nil_iff, or_false] at hu; rcases hu with rfl | rfl | rfl | rfl | rfl | rfl | rfl | rfl | rfl | rfl | rfl | rfl | rfl <;> rfl
structure TTreeNamed where
  f_parts : (List (List UInt8))
  f_path : (List UInt8)
  f_of : (List UInt8)
  deriving DecidableEq
def rTreeNamed : Rep TTreeNamed where
  sz := 3
  im m cs x := ∃ A0 c0, cs = [.slice A0 x.f_parts.length c0, .string ⟨x.f_path.toArray⟩, .string ⟨x.f_of.toArray⟩] ∧ SlI rStr m A0 c0 x.f_parts ∧ x.f_path.length ≤ 9223372036854775807 ∧ x.f_of.length ≤ 9223372036854775807
  wf x := (rSl rStr).wf x.f_parts ∧ rStr.wf x.f_path ∧ rStr.wf x.f_of
  mono hs := fun ⟨A0, c0, h, s0, s1, s2⟩ => ⟨A0, c0, h, s0.mono hs, s1, s2⟩
  len := fun ⟨A0, c0, h, s0, s1, s2⟩ => by rw [h]; rfl
  one := fun ⟨A0, c0, h, s0, s1, s2⟩ => by rw [h]; intro u hu; simp only [List.mem_cons, List.mem_nil_iff, or_false] at hu; rcases hu with rfl | rfl | rfl <;> rfl
structure TModelModel where
  f_nodes : (List TApiNode)
  f_kids : (List (List (List UInt8 × Int)))
  deriving DecidableEq
def rModelModel : Rep TModelModel where
  sz := 2
  im m cs x := ∃ A0 c0, ∃ A1 c1, cs = [.slice A0 x.f_nodes.length c0, .slice A1 x.f_kids.length c1] ∧ SlI rApiNode m A0 c0 x.f_nodes ∧ SlI (E.rMap K.kStr K.E.wfS rI64 false) m A1 c1 x.f_kids
  wf x := (rSl rApiNode).wf x.f_nodes ∧ (rSl (E.rMap K.kStr K.E.wfS rI64 false)).wf x.f_kids
  mono hs := fun ⟨A0, c0, A1, c1, h, s0, s1⟩ => ⟨A0, c0, A1, c1, h, s0.mono hs, s1.mono hs⟩
  len := fun ⟨A0, c0, A1, c1, h, s0, s1⟩ => by rw [h]; rfl
  one := fun ⟨A0, c0, A1, c1, h, s0, s1⟩ => by rw [h]; intro u hu; simp only [List.mem_cons, List.mem_nil_iff, or_false] at hu; rcases hu with rfl | rfl <;> rfl
end Go.Proofs.YtkmhidggbnbaaaaGreatDoor.K
namespace Go.Proofs.YtkmhidggbnbaaaaGreatDoor.F
open Go Go.RowKit Go.Proofs.YtkmhidggbnbaaaaGreatDoor.K Go.Proofs.YtkmhidggbnbaaaaGreatDoor.K.E
noncomputable def ref11_Much_l2 (l : List TApiEntry) (i : Int) (sum1 : Int) (k : Int) : Option (Sum (Int × Int) (Sum Int (Sum (Int × Int) (Sum Unit Bool)))) :=
(Option.bind (idx l i) fun x5 =>
(cond (decide (k < (x5.Attrs.length : Int)))
(Option.bind (idx l i) fun x6 =>
(Option.bind (idx x6.Attrs k) fun x7 =>
(Option.bind (idx l i) fun x8 =>
(Option.bind (idx x8.Attrs k) fun x9 =>
(Option.bind (idx l i) fun x10 =>
(Option.bind (idx x10.Attrs k) fun x11 =>
(cond (decide ((x11.Name.length : Int) > 300))
(some (.inr (.inr (.inr (.inr true)))))
(Option.bind (idx l i) fun x12 =>
(Option.bind (idx x12.Attrs k) fun x13 =>
(cond (decide ((x13.Value.length : Int) > 5000))
(some (.inr (.inr (.inr (.inr true)))))
(cond (decide ((IntKind.i64.wrap ((IntKind.i64.wrap (sum1 + (x7.Name.length : Int))) + (x9.Value.length : Int))) > 1000000))
(some (.inr (.inr (.inr (.inr true)))))
(some (.inl ((IntKind.i64.wrap ((IntKind.i64.wrap (sum1 + (x7.Name.length : Int))) + (x9.Value.length : Int))), (IntKind.i64.wrap (k + 1))))))))))))))))
(some (.inr (.inl sum1)))))
noncomputable def ref11_Much_l1 (l : List TApiEntry) (sum : Int) (i : Int) : Option (Sum (Int × Int) (Sum Unit Bool)) :=
(cond (decide (i < (l.length : Int)))
(bnd ((Option.bind (idx l i) fun x =>
(cond (decide ((x.Data.length : Int) > 70000))
(some (.inl true))
(Option.bind (idx l i) fun x1 =>
(cond (decide ((x1.Path.length : Int) > 5000))
(some (.inl true))
(Option.bind (idx l i) fun x2 =>
(cond (decide ((x2.Target.length : Int) > 5000))
(some (.inl true))
(Option.bind (idx l i) fun x3 =>
some (.inl (decide ((x3.Attrs.length : Int) > 70)))))))))) : Option (Sum Bool (Sum (Int × Int) (Sum Unit Bool)))) fun x4 =>
(cond x4
(some (.inr (.inr true)))
(bnd (loopO (fun s => ref11_Much_l2 l i s.1 s.2) ((sum, 0) : Int × Int)) fun sum2 =>
some (.inl (sum2, (IntKind.i64.wrap (i + 1)))))))
(some (.inr (.inl ()))))
noncomputable def ref11_Much (l : List TApiEntry) : Option (Bool) :=
(cond (decide ((l.length : Int) > 40))
(some true)
(bnd (loopO (fun s => ref11_Much_l1 l s.1 s.2) ((0, 0) : Int × Int)) fun _ =>
some false))
noncomputable def ref11_in (n : Int) (low : Int) (high : Int) : Option (Bool) :=
(cond (decide (low ≤ n))
(some (decide (n ≤ high)))
(some false))
noncomputable def ref10_Split_l1 (path : List UInt8) (i : Int) : Option (Sum Int (Sum Unit ((List (List UInt8)) × Int))) :=
(cond (decide (i < (path.length : Int)))
(Option.bind (idx path i) fun c =>
(cond ((c.toNat : Int) == 0)
(some (.inr (.inr ([], 6))))
(some (.inl (IntKind.i64.wrap (i + 1))))))
(some (.inr (.inl ()))))
noncomputable def ref10_Split_l2 (path : List UInt8) (l : List (List UInt8)) (from_ : Int) (i1 : Int) : Option (Sum ((List (List UInt8)) × Int × Int) (Sum ((List (List UInt8))) ((List (List UInt8)) × Int))) :=
(cond (decide (i1 ≤ (path.length : Int)))
(bnd ((cond (decide (i1 < (path.length : Int)))
(Option.bind (idx path i1) fun c1 =>
some (.inl ((c1.toNat : Int) != 47)))
(some (.inl false))) : Option (Sum Bool (Sum ((List (List UInt8)) × Int × Int) (Sum ((List (List UInt8))) ((List (List UInt8)) × Int))))) fun x =>
(cond x
(some (.inl (l, from_, (IntKind.i64.wrap (i1 + 1)))))
(Option.bind (slc path from_ i1) fun y_ =>
(cond (decide ((y_.length : Int) > 255))
(some (.inr (.inr ([], 1))))
(cond (y_ != ([] : List UInt8))
(cond (y_ != ([46] : List UInt8))
(Option.bind (app l ([y_])) fun z =>
some (.inl (z, (IntKind.i64.wrap (i1 + 1)), (IntKind.i64.wrap (i1 + 1)))))
(some (.inl (l, (IntKind.i64.wrap (i1 + 1)), (IntKind.i64.wrap (i1 + 1))))))
(some (.inl (l, (IntKind.i64.wrap (i1 + 1)), (IntKind.i64.wrap (i1 + 1))))))))))
(some (.inr (.inl l))))
noncomputable def ref10_Split (path : List UInt8) : Option ((List (List UInt8)) × Int) :=
(cond (decide ((path.length : Int) > 4096))
(some ([], 2))
(bnd (loopO (fun s => ref10_Split_l1 path s) (0 : Int)) fun _ =>
(bnd (loopO (fun s => ref10_Split_l2 path s.1 s.2.1 s.2.2) (([], 0, 0) : (List (List UInt8)) × Int × Int)) fun l1 =>
(cond (decide ((l1.length : Int) > 128))
(some ([], 3))
(some (l1, 0))))))
noncomputable def ref10_Valid_l1 (s_ : List UInt8) (i : Int) : Option (Sum Int (Sum Unit Bool)) :=
(cond (decide (i < (s_.length : Int)))
(Option.bind (idx s_ i) fun c =>
(cond ((c.toNat : Int) == 47)
(some (.inr (.inr false)))
(Option.bind (idx s_ i) fun c1 =>
(cond ((c1.toNat : Int) == 0)
(some (.inr (.inr false)))
(some (.inl (IntKind.i64.wrap (i + 1))))))))
(some (.inr (.inl ()))))
noncomputable def ref10_Valid (s_ : List UInt8) : Option (Bool) :=
(bnd ((cond (decide ((s_.length : Int) < 1))
(some (.inl true))
(cond (decide ((s_.length : Int) > 255))
(some (.inl true))
(cond (s_ == ([46] : List UInt8))
(some (.inl true))
(some (.inl (s_ == ([46, 46] : List UInt8))))))) : Option (Sum Bool Bool)) fun x =>
(cond x
(some false)
(bnd (loopO (fun s => ref10_Valid_l1 s_ s) (0 : Int)) fun _ =>
some true)))
noncomputable def ref10_Join_l1 (l : List (List UInt8)) (s_ : List UInt8) (i : Int) : Option (Sum ((List UInt8) × Int) (Sum ((List UInt8)) ((List UInt8) × Int))) :=
(cond (decide (i < (l.length : Int)))
(bnd ((Option.bind (idx l i) fun x =>
(cond (x != ([46, 46] : List UInt8))
(Option.bind (idx l i) fun x1 =>
(Option.bind (ref10_Valid x1) fun r =>
some (.inl (!r))))
(some (.inl false)))) : Option (Sum Bool (Sum ((List UInt8) × Int) (Sum ((List UInt8)) ((List UInt8) × Int))))) fun x2 =>
(cond x2
(some (.inr (.inr (([] : List UInt8), 1))))
(cond (decide (i > 0))
(Option.bind (cat s_ ([47] : List UInt8)) fun z =>
(Option.bind (idx l i) fun x3 =>
(Option.bind (cat z x3) fun z1 =>
some (.inl (z1, (IntKind.i64.wrap (i + 1)))))))
(Option.bind (idx l i) fun x4 =>
(Option.bind (cat s_ x4) fun z2 =>
some (.inl (z2, (IntKind.i64.wrap (i + 1)))))))))
(some (.inr (.inl s_))))
noncomputable def ref10_Join (l : List (List UInt8)) : Option ((List UInt8) × Int) :=
(cond (decide ((l.length : Int) > 128))
(some (([] : List UInt8), 3))
(bnd (loopO (fun s => ref10_Join_l1 l s.1 s.2) ((([] : List UInt8), 0) : (List UInt8) × Int)) fun s_1 =>
(cond (decide ((s_1.length : Int) > 4096))
(some (([] : List UInt8), 2))
(some (s_1, 0)))))
noncomputable def ref11_path_l1 (r : (List (List UInt8)) × Int) (i : Int) : Option (Sum Int (Sum Unit Int)) :=
(cond (decide (i < (r.1.length : Int)))
(Option.bind (idx r.1 i) fun x11 =>
(Option.bind (idx r.1 i) fun x12 =>
(Option.bind (ref10_Valid x12) fun r1 =>
(cond (!r1)
(some (.inr (.inr 6)))
(some (.inl (IntKind.i64.wrap (i + 1))))))))
(some (.inr (.inl ()))))
noncomputable def ref11_path (x : List UInt8) (x1 : Int) (x2 : Int) (x3 : Int) (x4 : Int) (x5 : Int) (x6 : Int) (x7 : List UInt8) (x8 : List UInt8) (x9 : Int) (x10 : List TApiAttr) : Option (Int) :=
(cond (x == ([] : List UInt8))
(cond (x1 == 2)
(some 0)
(some 6))
(Option.bind (ref10_Split x) fun r =>
(cond (r.2 != 0)
(some 6)
(bnd (loopO (fun s => ref11_path_l1 r s) (0 : Int)) fun _ =>
(Option.bind (ref10_Join r.1) fun r2 =>
(cond (r2.2 != 0)
(some 6)
(cond (r2.1 != x)
(some 6)
(cond (decide ((r.1.length : Int) > 64))
(some 3)
(some 0)))))))))
noncomputable def ref11_Up_l1 (path : List UInt8) (i : Int) : Option (Sum Int (Sum Unit ((List UInt8)))) :=
(cond (decide (i ≥ 0))
(Option.bind (idx path i) fun c =>
(cond ((c.toNat : Int) == 47)
(Option.bind (slc path 0 i) fun y_ =>
some (.inr (.inr y_)))
(some (.inl (IntKind.i64.wrap (i - 1))))))
(some (.inr (.inl ()))))
noncomputable def ref11_Up (path : List UInt8) : Option ((List UInt8)) :=
(bnd (loopO (fun s => ref11_Up_l1 path s) ((IntKind.i64.wrap ((path.length : Int) - 1)) : Int)) fun _ =>
some ([] : List UInt8))
noncomputable def ref11_text_l1 (s_ : List UInt8) (i : Int) : Option (Sum Int (Sum Unit Bool)) :=
(cond (decide (i < (s_.length : Int)))
(Option.bind (idx s_ i) fun c =>
(cond ((c.toNat : Int) == 0)
(some (.inr (.inr false)))
(some (.inl (IntKind.i64.wrap (i + 1))))))
(some (.inr (.inl ()))))
noncomputable def ref11_text (s_ : List UInt8) (low : Int) (high : Int) : Option (Bool) :=
(Option.bind (ref11_in (s_.length : Int) low high) fun r =>
(cond (!r)
(some false)
(bnd (loopO (fun s => ref11_text_l1 s_ s) (0 : Int)) fun _ =>
some true)))
noncomputable def ref11_fields_l1 (x10 : List TApiAttr) (i : Int) : Option (Sum Int (Sum Unit Int)) :=
(cond (decide (i < (x10.length : Int)))
(Option.bind (idx x10 i) fun x13 =>
(Option.bind (ref11_text x13.Name 1 255) fun r11 =>
(cond (!r11)
(some (.inr (.inr 1)))
(Option.bind (idx x10 i) fun x14 =>
(cond (decide ((x14.Value.length : Int) > 4096))
(some (.inr (.inr 1)))
(some (.inl (IntKind.i64.wrap (i + 1)))))))))
(some (.inr (.inl ()))))
noncomputable def ref11_fields_l3 (x10 : List TApiAttr) (i1 : Int) (k : Int) : Option (Sum Int (Sum Unit (Sum Int (Sum Unit Int)))) :=
(cond (decide (k < i1))
(Option.bind (idx x10 k) fun x15 =>
(Option.bind (idx x10 i1) fun x16 =>
(cond (x15.Name == x16.Name)
(some (.inr (.inr (.inr (.inr 110)))))
(some (.inl (IntKind.i64.wrap (k + 1)))))))
(some (.inr (.inl ()))))
noncomputable def ref11_fields_l2 (x10 : List TApiAttr) (i1 : Int) : Option (Sum Int (Sum Unit Int)) :=
(cond (decide (i1 < (x10.length : Int)))
(bnd (loopO (fun s => ref11_fields_l3 x10 i1 s) (0 : Int)) fun _ =>
some (.inl (IntKind.i64.wrap (i1 + 1))))
(some (.inr (.inl ()))))
noncomputable def ref11_fields (x : List UInt8) (x1 : Int) (x2 : Int) (x3 : Int) (x4 : Int) (x5 : Int) (x6 : Int) (x7 : List UInt8) (x8 : List UInt8) (x9 : Int) (x10 : List TApiAttr) : Option (Int) :=
(bnd ((Option.bind (ref11_in x2 0 4095) fun r =>
(cond (!r)
(some (.inl true))
(Option.bind (ref11_in x3 0 4294967295) fun r1 =>
(cond (!r1)
(some (.inl true))
(Option.bind (ref11_in x4 0 4294967295) fun r2 =>
(cond (!r2)
(some (.inl true))
(Option.bind (ref11_in x5 0 4294967295) fun r3 =>
some (.inl (!r3))))))))) : Option (Sum Bool Int)) fun x11 =>
(cond x11
(some 1)
(bnd ((cond (x1 == 1)
(Option.bind (ref11_in x6 (x7.length : Int) 1099511627775) fun r4 =>
(cond (!r4)
(some (.inl true))
(cond (x1 == 3)
(Option.bind (ref11_text x8 1 4096) fun r5 =>
(cond (!r5)
(some (.inl true))
(cond (decide (x1 > 3))
(Option.bind (ref11_in x9 0 4294967295) fun r6 =>
(cond (!r6)
(some (.inl true))
(some (.inl (decide ((x10.length : Int) > 64))))))
(some (.inl (decide ((x10.length : Int) > 64)))))))
(cond (decide (x1 > 3))
(Option.bind (ref11_in x9 0 4294967295) fun r7 =>
(cond (!r7)
(some (.inl true))
(some (.inl (decide ((x10.length : Int) > 64))))))
(some (.inl (decide ((x10.length : Int) > 64))))))))
(cond (x1 == 3)
(Option.bind (ref11_text x8 1 4096) fun r8 =>
(cond (!r8)
(some (.inl true))
(cond (decide (x1 > 3))
(Option.bind (ref11_in x9 0 4294967295) fun r9 =>
(cond (!r9)
(some (.inl true))
(some (.inl (decide ((x10.length : Int) > 64))))))
(some (.inl (decide ((x10.length : Int) > 64)))))))
(cond (decide (x1 > 3))
(Option.bind (ref11_in x9 0 4294967295) fun r10 =>
(cond (!r10)
(some (.inl true))
(some (.inl (decide ((x10.length : Int) > 64))))))
(some (.inl (decide ((x10.length : Int) > 64))))))) : Option (Sum Bool Int)) fun x12 =>
(cond x12
(some 1)
(bnd (loopO (fun s => ref11_fields_l1 x10 s) (0 : Int)) fun _ =>
(bnd (loopO (fun s => ref11_fields_l2 x10 s) (0 : Int)) fun _ =>
some 0))))))
noncomputable def ref11_entry_l1 (l : List TApiEntry) (i : Int) (x : TApiEntry) (k : Int) : Option (Sum Int (Sum Unit Int)) :=
(cond (decide (k < i))
(Option.bind (idx l k) fun x1 =>
(cond (x1.Path == x.Path)
(some (.inr (.inr 110)))
(some (.inl (IntKind.i64.wrap (k + 1))))))
(some (.inr (.inl ()))))
noncomputable def ref11_entry_l2 (l : List TApiEntry) (x : TApiEntry) (up_ : Bool) (named : Bool) (k1 : Int) : Option (Sum (Bool × Bool × Int) (Sum (Bool × Bool) Int)) :=
(cond (decide (k1 < (l.length : Int)))
(bnd ((cond up_
(some (.inl true))
(Option.bind (idx l k1) fun x2 =>
(Option.bind (ref11_Up x.Path) fun r3 =>
(cond (x2.Path == r3)
(Option.bind (idx l k1) fun x3 =>
some (.inl (x3.Kind == 2)))
(some (.inl false)))))) : Option (Sum Bool (Sum (Bool × Bool × Int) (Sum (Bool × Bool) Int)))) fun up_1 =>
(cond named
(some (.inl (up_1, true, (IntKind.i64.wrap (k1 + 1)))))
(Option.bind (idx l k1) fun x4 =>
(cond (x4.Path == x.Target)
(Option.bind (idx l k1) fun x5 =>
(Option.bind (ref11_in x5.Kind 1 5) fun r4 =>
(cond r4
(Option.bind (idx l k1) fun x6 =>
some (.inl (up_1, (x6.Kind != 2), (IntKind.i64.wrap (k1 + 1)))))
(some (.inl (up_1, false, (IntKind.i64.wrap (k1 + 1))))))))
(some (.inl (up_1, false, (IntKind.i64.wrap (k1 + 1)))))))))
(some (.inr (.inl (up_, named)))))
noncomputable def ref11_entry (l : List TApiEntry) (i : Int) : Option (Int) :=
(Option.bind (idx l i) fun x =>
(Option.bind (ref11_in x.Kind 1 6) fun r =>
(cond (!r)
(some 8)
(Option.bind (ref11_path x.Path x.Kind x.Mode x.Uid x.Gid x.Time x.Size x.Data x.Target x.Dev x.Attrs) fun r1 =>
(cond (r1 != 0)
(some r1)
(bnd (loopO (fun s => ref11_entry_l1 l i x s) (0 : Int)) fun _ =>
(Option.bind (ref11_Up x.Path) fun r2 =>
(bnd (loopO (fun s => ref11_entry_l2 l x s.1 s.2.1 s.2.2) (((r2 == ([] : List UInt8)), false, 0) : Bool × Bool × Int)) fun j1 =>
(bnd ((cond (!j1.1)
(some (.inl true))
(cond (x.Kind == 6)
(some (.inl (!j1.2)))
(some (.inl false)))) : Option (Sum Bool Int)) fun x7 =>
(cond x7
(some 4)
(cond (x.Kind == 6)
(some 0)
(Option.bind (ref11_fields x.Path x.Kind x.Mode x.Uid x.Gid x.Time x.Size x.Data x.Target x.Dev x.Attrs) fun r5 =>
some r5))))))))))))
noncomputable def ref11_Check_l1 (l : List TApiEntry) (sum : Int) (i : Int) : Option (Sum (Int × Int) (Sum Unit (Int × Int))) :=
(cond (decide (i < (l.length : Int)))
(Option.bind (idx l i) fun x =>
(cond (x.Kind != 1)
(some (.inl (sum, (IntKind.i64.wrap (i + 1)))))
(Option.bind (idx l i) fun x1 =>
(cond (decide ((x1.Data.length : Int) > (IntKind.i64.wrap (8388608 - sum))))
(some (.inr (.inr (0, 2))))
(Option.bind (idx l i) fun x2 =>
some (.inl ((IntKind.i64.wrap (sum + (x2.Data.length : Int))), (IntKind.i64.wrap (i + 1)))))))))
(some (.inr (.inl ()))))
noncomputable def ref11_Check_l2 (l : List TApiEntry) (i1 : Int) : Option (Sum Int (Sum Unit (Int × Int))) :=
(cond (decide (i1 < (l.length : Int)))
(Option.bind (ref11_entry l i1) fun r =>
(cond (r != 0)
(some (.inr (.inr (i1, r))))
(some (.inl (IntKind.i64.wrap (i1 + 1))))))
(some (.inr (.inl ()))))
noncomputable def ref11_Check (l : List TApiEntry) : Option (Int × Int) :=
(cond (decide ((l.length : Int) > 16384))
(some (0, 3))
(bnd (loopO (fun s => ref11_Check_l1 l s.1 s.2) ((0, 0) : Int × Int)) fun _ =>
(bnd (loopO (fun s => ref11_Check_l2 l s) (0 : Int)) fun _ =>
some (0, 0))))
noncomputable def ref11_Attrs_l3 (l : List TApiAttr) (out : List TApiAttr) (i : Int) (done : Bool) (k : Int) : Option (Sum (Bool × Int) (Sum Bool (Sum (Int × Int) (Sum Int (Sum ((List TApiAttr)) (Sum ((List TApiAttr)) ((List TApiAttr)))))))) :=
(cond (decide (k < (out.length : Int)))
(cond done
(some (.inl (true, (IntKind.i64.wrap (k + 1)))))
(Option.bind (idx l i) fun x =>
(Option.bind (idx out k) fun x1 =>
(Option.bind (idx out k) fun x2 =>
some (.inl ((x2.Name == x.Name), (IntKind.i64.wrap (k + 1))))))))
(some (.inr (.inl done))))
noncomputable def ref11_Attrs_l2 (l : List TApiAttr) (out : List TApiAttr) (best : Int) (i : Int) : Option (Sum (Int × Int) (Sum Int (Sum ((List TApiAttr)) (Sum ((List TApiAttr)) ((List TApiAttr)))))) :=
(cond (decide (i < (l.length : Int)))
(bnd (loopO (fun s => ref11_Attrs_l3 l out i s.1 s.2) ((false, 0) : Bool × Int)) fun done1 =>
(cond (!done1)
(cond (decide (best < 0))
(some (.inl (i, (IntKind.i64.wrap (i + 1)))))
(Option.bind (idx l i) fun x3 =>
(Option.bind (idx l best) fun x4 =>
(cond (ltB x3.Name x4.Name)
(some (.inl (i, (IntKind.i64.wrap (i + 1)))))
(some (.inl (best, (IntKind.i64.wrap (i + 1)))))))))
(some (.inl (best, (IntKind.i64.wrap (i + 1)))))))
(some (.inr (.inl best))))
noncomputable def ref11_Attrs_l1 (l : List TApiAttr) (out : List TApiAttr) : Option (Sum ((List TApiAttr)) (Sum ((List TApiAttr)) ((List TApiAttr)))) :=
(cond (decide ((out.length : Int) < (l.length : Int)))
(bnd (loopO (fun s => ref11_Attrs_l2 l out s.1 s.2) (((-1), 0) : Int × Int)) fun best1 =>
(cond (decide (best1 < 0))
(some (.inr (.inr out)))
(Option.bind (idx l best1) fun x5 =>
(Option.bind (app out ([x5])) fun z =>
some (.inl z)))))
(some (.inr (.inl out))))
noncomputable def ref11_Attrs (l : List TApiAttr) : Option ((List TApiAttr)) :=
(bnd (loopO (fun s => ref11_Attrs_l1 l s) ([] : (List TApiAttr))) fun out1 =>
some out1)
noncomputable def ref11_Node_l1 (b : Int) (b1 : Int) (b2 : Int) (b3 : Int) (b4 : Int) (b5 : Int) (b6 : List UInt8) (b7 : List UInt8) (b8 : Int) (b9 : List TApiAttr) (b10 : List TApiKid) (b11 : Int) (b12 : Int) : Option (Sum ((Int × Int × Int × Int × Int × Int × (List UInt8) × (List UInt8) × Int × (List TApiAttr) × (List TApiKid) × Int × Int)) (Sum ((Int × Int × Int × Int × Int × Int × (List UInt8) × (List UInt8) × Int × (List TApiAttr) × (List TApiKid) × Int × Int)) (Sum ((Int × Int × Int × Int × Int × Int × (List UInt8) × (List UInt8) × Int × (List TApiAttr) × (List TApiKid) × Int × Int)) ((Int × Int × Int × Int × Int × Int × (List UInt8) × (List UInt8) × Int × (List TApiAttr) × (List TApiKid) × Int × Int))))) :=
(cond (decide ((b6.length : Int) > 0))
(Option.bind (idx b6 (IntKind.i64.wrap ((b6.length : Int) - 1))) fun x11 =>
(cond ((x11.toNat : Int) == 0)
(Option.bind (slc b6 0 (IntKind.i64.wrap ((b6.length : Int) - 1))) fun y_ =>
some (.inl (b, b1, b2, b3, b4, b5, y_, b7, b8, b9, b10, b11, b12)))
(some (.inr (.inl (b, b1, b2, b3, b4, b5, b6, b7, b8, b9, b10, b11, b12))))))
(some (.inr (.inl (b, b1, b2, b3, b4, b5, b6, b7, b8, b9, b10, b11, b12)))))
noncomputable def ref11_Node (x : List UInt8) (x1 : Int) (x2 : Int) (x3 : Int) (x4 : Int) (x5 : Int) (x6 : Int) (x7 : List UInt8) (x8 : List UInt8) (x9 : Int) (x10 : List TApiAttr) : Option ((Int × Int × Int × Int × Int × Int × (List UInt8) × (List UInt8) × Int × (List TApiAttr) × (List TApiKid) × Int × Int)) :=
(bnd ((dup (.f .o .o) (Option.bind (ref11_Attrs x10) fun r =>
some (.inl (x1, x2, x3, x4, x5, 0, [], ([] : List UInt8), 0, r, [], 0, 0)))) : Option (Sum ((Int × Int × Int × Int × Int × Int × (List UInt8) × (List UInt8) × Int × (List TApiAttr) × (List TApiKid) × Int × Int)) ((Int × Int × Int × Int × Int × Int × (List UInt8) × (List UInt8) × Int × (List TApiAttr) × (List TApiKid) × Int × Int)))) fun j =>
(bnd ((cond (x1 == 1)
(bnd (loopO (fun s => ref11_Node_l1 s.1 s.2.1 s.2.2.1 s.2.2.2.1 s.2.2.2.2.1 s.2.2.2.2.2.1 s.2.2.2.2.2.2.1 s.2.2.2.2.2.2.2.1 s.2.2.2.2.2.2.2.2.1 s.2.2.2.2.2.2.2.2.2.1 s.2.2.2.2.2.2.2.2.2.2.1 s.2.2.2.2.2.2.2.2.2.2.2.1 s.2.2.2.2.2.2.2.2.2.2.2.2) ((j.1, j.2.1, j.2.2.1, j.2.2.2.1, j.2.2.2.2.1, x6, x7, j.2.2.2.2.2.2.2.1, j.2.2.2.2.2.2.2.2.1, j.2.2.2.2.2.2.2.2.2.1, j.2.2.2.2.2.2.2.2.2.2.1, j.2.2.2.2.2.2.2.2.2.2.2.1, j.2.2.2.2.2.2.2.2.2.2.2.2) : (Int × Int × Int × Int × Int × Int × (List UInt8) × (List UInt8) × Int × (List TApiAttr) × (List TApiKid) × Int × Int))) fun j1 =>
some (.inl (j1.1, j1.2.1, j1.2.2.1, j1.2.2.2.1, j1.2.2.2.2.1, j1.2.2.2.2.2.1, j1.2.2.2.2.2.2.1, j1.2.2.2.2.2.2.2.1, j1.2.2.2.2.2.2.2.2.1, j1.2.2.2.2.2.2.2.2.2.1, j1.2.2.2.2.2.2.2.2.2.2.1, j1.2.2.2.2.2.2.2.2.2.2.2.1, j1.2.2.2.2.2.2.2.2.2.2.2.2)))
(some (.inl (j.1, j.2.1, j.2.2.1, j.2.2.2.1, j.2.2.2.2.1, j.2.2.2.2.2.1, j.2.2.2.2.2.2.1, j.2.2.2.2.2.2.2.1, j.2.2.2.2.2.2.2.2.1, j.2.2.2.2.2.2.2.2.2.1, j.2.2.2.2.2.2.2.2.2.2.1, j.2.2.2.2.2.2.2.2.2.2.2.1, j.2.2.2.2.2.2.2.2.2.2.2.2)))) : Option (Sum ((Int × Int × Int × Int × Int × Int × (List UInt8) × (List UInt8) × Int × (List TApiAttr) × (List TApiKid) × Int × Int)) ((Int × Int × Int × Int × Int × Int × (List UInt8) × (List UInt8) × Int × (List TApiAttr) × (List TApiKid) × Int × Int)))) fun j2 =>
(bnd ((cond (x1 == 3)
(some (.inl (j2.1, j2.2.1, j2.2.2.1, j2.2.2.2.1, j2.2.2.2.2.1, j2.2.2.2.2.2.1, j2.2.2.2.2.2.2.1, x8, j2.2.2.2.2.2.2.2.2.1, j2.2.2.2.2.2.2.2.2.2.1, j2.2.2.2.2.2.2.2.2.2.2.1, j2.2.2.2.2.2.2.2.2.2.2.2.1, j2.2.2.2.2.2.2.2.2.2.2.2.2)))
(some (.inl (j2.1, j2.2.1, j2.2.2.1, j2.2.2.2.1, j2.2.2.2.2.1, j2.2.2.2.2.2.1, j2.2.2.2.2.2.2.1, j2.2.2.2.2.2.2.2.1, j2.2.2.2.2.2.2.2.2.1, j2.2.2.2.2.2.2.2.2.2.1, j2.2.2.2.2.2.2.2.2.2.2.1, j2.2.2.2.2.2.2.2.2.2.2.2.1, j2.2.2.2.2.2.2.2.2.2.2.2.2)))) : Option (Sum ((Int × Int × Int × Int × Int × Int × (List UInt8) × (List UInt8) × Int × (List TApiAttr) × (List TApiKid) × Int × Int)) ((Int × Int × Int × Int × Int × Int × (List UInt8) × (List UInt8) × Int × (List TApiAttr) × (List TApiKid) × Int × Int)))) fun j3 =>
(cond (x1 == 4)
(some (j3.1, j3.2.1, j3.2.2.1, j3.2.2.2.1, j3.2.2.2.2.1, j3.2.2.2.2.2.1, j3.2.2.2.2.2.2.1, j3.2.2.2.2.2.2.2.1, x9, j3.2.2.2.2.2.2.2.2.2.1, j3.2.2.2.2.2.2.2.2.2.2.1, j3.2.2.2.2.2.2.2.2.2.2.2.1, j3.2.2.2.2.2.2.2.2.2.2.2.2))
(cond (x1 == 5)
(some (j3.1, j3.2.1, j3.2.2.1, j3.2.2.2.1, j3.2.2.2.2.1, j3.2.2.2.2.2.1, j3.2.2.2.2.2.2.1, j3.2.2.2.2.2.2.2.1, x9, j3.2.2.2.2.2.2.2.2.2.1, j3.2.2.2.2.2.2.2.2.2.2.1, j3.2.2.2.2.2.2.2.2.2.2.2.1, j3.2.2.2.2.2.2.2.2.2.2.2.2))
(some (j3.1, j3.2.1, j3.2.2.1, j3.2.2.2.1, j3.2.2.2.2.1, j3.2.2.2.2.2.1, j3.2.2.2.2.2.2.1, j3.2.2.2.2.2.2.2.1, j3.2.2.2.2.2.2.2.2.1, j3.2.2.2.2.2.2.2.2.2.1, j3.2.2.2.2.2.2.2.2.2.2.1, j3.2.2.2.2.2.2.2.2.2.2.2.1, j3.2.2.2.2.2.2.2.2.2.2.2.2)))))))
noncomputable def ref10_length (a : Int) (b : Int) : Option (Int) :=
(cond (decide (a < b))
(some (-1))
(cond (decide (a > b))
(some 1)
(some 0)))
noncomputable def ref10_text_l1 (a : List UInt8) (b : List UInt8) (i : Int) : Option (Sum Int (Sum Unit Int)) :=
(bnd ((cond (decide (i < (a.length : Int)))
(some (.inl (decide (i < (b.length : Int)))))
(some (.inl false))) : Option (Sum Bool (Sum Int (Sum Unit Int)))) fun x =>
(cond x
(Option.bind (idx a i) fun c =>
(Option.bind (idx b i) fun c1 =>
(cond (decide ((c.toNat : Int) < (c1.toNat : Int)))
(some (.inr (.inr (-1))))
(Option.bind (idx a i) fun c2 =>
(Option.bind (idx b i) fun c3 =>
(cond (decide ((c2.toNat : Int) > (c3.toNat : Int)))
(some (.inr (.inr 1)))
(some (.inl (IntKind.i64.wrap (i + 1))))))))))
(some (.inr (.inl ())))))
noncomputable def ref10_text (a : List UInt8) (b : List UInt8) : Option (Int) :=
(bnd (loopO (fun s => ref10_text_l1 a b s) (0 : Int)) fun _ =>
(Option.bind (ref10_length (a.length : Int) (b.length : Int)) fun r =>
some r))
noncomputable def ref10_Order_l1 (a : List (List UInt8)) (b : List (List UInt8)) (i : Int) : Option (Sum Int (Sum Unit Int)) :=
(bnd ((cond (decide (i < (a.length : Int)))
(some (.inl (decide (i < (b.length : Int)))))
(some (.inl false))) : Option (Sum Bool (Sum Int (Sum Unit Int)))) fun x =>
(cond x
(Option.bind (idx a i) fun x1 =>
(Option.bind (idx b i) fun x2 =>
(Option.bind (ref10_text x1 x2) fun r =>
(cond (r != 0)
(some (.inr (.inr r)))
(some (.inl (IntKind.i64.wrap (i + 1))))))))
(some (.inr (.inl ())))))
noncomputable def ref10_Order (a : List (List UInt8)) (b : List (List UInt8)) : Option (Int) :=
(bnd (loopO (fun s => ref10_Order_l1 a b s) (0 : Int)) fun _ =>
(Option.bind (ref10_length (a.length : Int) (b.length : Int)) fun r1 =>
some r1))
noncomputable def ref11_Order_l2 (l : List TApiEntry) (done : List Bool) (best : Int) (at_ : List (List UInt8)) (i : Int) : Option (Sum (Int × (List (List UInt8)) × Int) (Sum Int (Sum ((List Int) × (List Bool)) (Sum Unit ((List Int)))))) :=
(cond (decide (i < (l.length : Int)))
(bnd ((Option.bind (idx done i) fun x =>
(Option.bind (idx done i) fun x1 =>
(cond x1
(some (.inl true))
(Option.bind (idx l i) fun x2 =>
some (.inl (x2.Path == ([] : List UInt8))))))) : Option (Sum Bool (Sum (Int × (List (List UInt8)) × Int) (Sum Int (Sum ((List Int) × (List Bool)) (Sum Unit ((List Int)))))))) fun x3 =>
(cond x3
(some (.inl (best, at_, (IntKind.i64.wrap (i + 1)))))
(Option.bind (idx l i) fun x4 =>
(Option.bind (ref10_Split x4.Path) fun r =>
(cond (decide (best < 0))
(some (.inl (i, r.1, (IntKind.i64.wrap (i + 1)))))
(Option.bind (ref10_Order r.1 at_) fun r1 =>
(cond (decide (r1 < 0))
(some (.inl (i, r.1, (IntKind.i64.wrap (i + 1)))))
(some (.inl (best, at_, (IntKind.i64.wrap (i + 1))))))))))))
(some (.inr (.inl best))))
noncomputable def ref11_Order_l1 (l : List TApiEntry) (out : List Int) (done : List Bool) : Option (Sum ((List Int) × (List Bool)) (Sum Unit ((List Int)))) :=
(bnd (loopO (fun s => ref11_Order_l2 l done s.1 s.2.1 s.2.2) (((-1), [], 0) : Int × (List (List UInt8)) × Int)) fun best1 =>
(cond (decide (best1 < 0))
(some (.inr (.inr out)))
(Option.bind (idx done best1) fun x5 =>
(Option.bind (idx done best1) fun x6 =>
(Option.bind (app out ([best1])) fun z =>
some (.inl (z, (List.set done best1.toNat true))))))))
noncomputable def ref11_Order (l : List TApiEntry) : Option ((List Int)) :=
(Option.bind (mkz 1 false (l.length : Int)) fun made =>
(bnd (loopO (fun s => ref11_Order_l1 l s.1 s.2) (([], made) : (List Int) × (List Bool))) fun _ =>
none))
noncomputable def ref11_owner_l1 (l : List TApiEntry) (i : Int) (k : Int) : Option (Sum Int (Sum Unit Int)) :=
(cond (decide (k < (l.length : Int)))
(Option.bind (idx l k) fun x1 =>
(Option.bind (idx l i) fun x2 =>
(cond (x1.Path == x2.Target)
(some (.inr (.inr k)))
(some (.inl (IntKind.i64.wrap (k + 1)))))))
(some (.inr (.inl ()))))
noncomputable def ref11_owner (l : List TApiEntry) (i : Int) : Option (Int) :=
(Option.bind (idx l i) fun x =>
(cond (x.Kind != 6)
(some i)
(bnd (loopO (fun s => ref11_owner_l1 l i s) (0 : Int)) fun _ =>
some i)))
noncomputable def ref11_Last_l1 (path : List UInt8) (i : Int) : Option (Sum Int (Sum Unit ((List UInt8)))) :=
(cond (decide (i ≥ 0))
(Option.bind (idx path i) fun c =>
(cond ((c.toNat : Int) == 47)
(Option.bind (slc path (IntKind.i64.wrap (i + 1)) (path.length : Int)) fun y_ =>
some (.inr (.inr y_)))
(some (.inl (IntKind.i64.wrap (i - 1))))))
(some (.inr (.inl ()))))
noncomputable def ref11_Last (path : List UInt8) : Option ((List UInt8)) :=
(bnd (loopO (fun s => ref11_Last_l1 path s) ((IntKind.i64.wrap ((path.length : Int) - 1)) : Int)) fun _ =>
some path)
noncomputable def ref11_Canon_l1 (l : List TApiEntry) (i : Int) (b : List UInt8) (b1 : Int) (b2 : Int) (b3 : Int) (b4 : Int) (b5 : Int) (b6 : Int) (b7 : List UInt8) (b8 : List UInt8) (b9 : Int) (b10 : List TApiAttr) : Option (Sum (Int × ((List UInt8) × Int × Int × Int × Int × Int × Int × (List UInt8) × (List UInt8) × Int × (List TApiAttr))) (Sum (((List UInt8) × Int × Int × Int × Int × Int × Int × (List UInt8) × (List UInt8) × Int × (List TApiAttr))) (((List TApiNode))))) :=
(cond (decide (i < (l.length : Int)))
(Option.bind (idx l i) fun x =>
(cond (x.Path == ([] : List UInt8))
(Option.bind (idx l i) fun x1 =>
some (.inl ((IntKind.i64.wrap (i + 1)), (x1.Path, x1.Kind, x1.Mode, x1.Uid, x1.Gid, x1.Time, x1.Size, x1.Data, x1.Target, x1.Dev, x1.Attrs))))
(some (.inl ((IntKind.i64.wrap (i + 1)), (b, b1, b2, b3, b4, b5, b6, b7, b8, b9, b10))))))
(some (.inr (.inl (b, b1, b2, b3, b4, b5, b6, b7, b8, b9, b10)))))
noncomputable def ref11_Canon_l3 (owners : List Int) (r2 : Int) (ino : Int) (j1 : Int) : Option (Sum (Int × Int) (Sum Int (Sum ((List Int) × Int × ((List TApiNode))) (Sum (((List TApiNode))) (((List TApiNode))))))) :=
(cond (decide (j1 < (owners.length : Int)))
(Option.bind (idx owners j1) fun x6 =>
(Option.bind (idx owners j1) fun x7 =>
(cond (x7 == r2)
(some (.inl ((IntKind.i64.wrap (j1 + 1)), (IntKind.i64.wrap (j1 + 1)))))
(some (.inl (ino, (IntKind.i64.wrap (j1 + 1))))))))
(some (.inr (.inl ino))))
noncomputable def ref11_Canon_l4 (l : List TApiEntry) (x5 : Int) (j4 : (List Int) × Int × ((List TApiNode))) (up_ : Int) (j5 : Int) : Option (Sum (Int × Int) (Sum Int (Sum ((List Int) × Int × ((List TApiNode))) (Sum (((List TApiNode))) (((List TApiNode))))))) :=
(cond (decide (j5 < (j4.1.length : Int)))
(bnd ((Option.bind (idx j4.1 j5) fun x12 =>
(Option.bind (idx j4.1 j5) fun x13 =>
(Option.bind (idx l x13) fun x14 =>
(cond (x14.Kind == 2)
(Option.bind (idx l x5) fun x15 =>
(fork (Option.bind (idx j4.1 j5) fun x16 =>
(fork (Option.bind (idx j4.1 j5) fun x17 =>
(Option.bind (idx l x17) fun x18 =>
(Option.bind (ref11_Up x15.Path) fun r4 =>
some (.inl (x18.Path == r4)))))
(Option.bind (ref11_Up x15.Path) fun r4 =>
(Option.bind (idx j4.1 j5) fun x17 =>
(Option.bind (idx l x17) fun x18 =>
some (.inl (x18.Path == r4)))))))
(Option.bind (ref11_Up x15.Path) fun r4 =>
(Option.bind (idx j4.1 j5) fun x16 =>
(Option.bind (idx j4.1 j5) fun x17 =>
(Option.bind (idx l x17) fun x18 =>
some (.inl (x18.Path == r4))))))))
(some (.inl false)))))) : Option (Sum Bool (Sum (Int × Int) (Sum Int (Sum ((List Int) × Int × ((List TApiNode))) (Sum (((List TApiNode))) (((List TApiNode))))))))) fun x19 =>
(cond x19
(some (.inl ((IntKind.i64.wrap (j5 + 1)), (IntKind.i64.wrap (j5 + 1)))))
(some (.inl (up_, (IntKind.i64.wrap (j5 + 1)))))))
(some (.inr (.inl up_))))
noncomputable def ref11_Canon_l2 (l : List TApiEntry) (r1 : (List Int)) (owners : List Int) (i1 : Int) (b11 : List TApiNode) : Option (Sum ((List Int) × Int × ((List TApiNode))) (Sum (((List TApiNode))) (((List TApiNode))))) :=
(cond (decide (i1 < (r1.length : Int)))
(Option.bind (idx r1 i1) fun x4 =>
(Option.bind (idx r1 i1) fun x5 =>
(Option.bind (ref11_owner l x5) fun r2 =>
(bnd (loopO (fun s => ref11_Canon_l3 owners r2 s.1 s.2) (((-1), 0) : Int × Int)) fun ino1 =>
(bnd ((cond (decide (ino1 < 0))
(Option.bind (app owners ([r2])) fun z =>
(bnd ((Option.bind (idx l r2) fun x8 =>
(fork (Option.bind (ref11_Node x8.Path x8.Kind x8.Mode x8.Uid x8.Gid x8.Time x8.Size x8.Data x8.Target x8.Dev x8.Attrs) fun r3 =>
(Option.bind (app b11 [{ ({ Kind := r3.1, Mode := r3.2.1, Uid := r3.2.2.1, Gid := r3.2.2.2.1, Time := r3.2.2.2.2.1, Size := r3.2.2.2.2.2.1, Data := r3.2.2.2.2.2.2.1, Target := r3.2.2.2.2.2.2.2.1, Dev := r3.2.2.2.2.2.2.2.2.1, Attrs := r3.2.2.2.2.2.2.2.2.2.1, Kids := [], Parent := r3.2.2.2.2.2.2.2.2.2.2.2.1, Links := r3.2.2.2.2.2.2.2.2.2.2.2.2 } : TApiNode) with Kids := r3.2.2.2.2.2.2.2.2.2.2.1 }]) fun z1 =>
some (.inl z1)))
(Option.bind (ref11_Node x8.Path x8.Kind x8.Mode x8.Uid x8.Gid x8.Time x8.Size x8.Data x8.Target x8.Dev x8.Attrs) fun r3 =>
(dup (.f .o .o) (Option.bind (app b11 [{ ({ Kind := r3.1, Mode := r3.2.1, Uid := r3.2.2.1, Gid := r3.2.2.2.1, Time := r3.2.2.2.2.1, Size := r3.2.2.2.2.2.1, Data := r3.2.2.2.2.2.2.1, Target := r3.2.2.2.2.2.2.2.1, Dev := r3.2.2.2.2.2.2.2.2.1, Attrs := r3.2.2.2.2.2.2.2.2.2.1, Kids := [], Parent := r3.2.2.2.2.2.2.2.2.2.2.2.1, Links := r3.2.2.2.2.2.2.2.2.2.2.2.2 } : TApiNode) with Kids := r3.2.2.2.2.2.2.2.2.2.2.1 }]) fun z1 =>
some (.inl z1)))))) : Option (Sum (((List TApiNode))) (Sum ((List Int) × Int × ((List TApiNode))) (Sum ((List Int) × Int × ((List TApiNode))) (Sum (((List TApiNode))) (((List TApiNode)))))))) fun j2 =>
(Option.bind (idx l r2) fun x9 =>
(bnd ((cond (x9.Kind == 2)
(Option.bind (idx j2 (z.length : Int)) fun x10 =>
(Option.bind (idx j2 (z.length : Int)) fun x11 =>
some (.inl (List.set j2 ((z.length : Int).toNat) ({ Kind := x11.Kind, Mode := x11.Mode, Uid := x11.Uid, Gid := x11.Gid, Time := x11.Time, Size := x11.Size, Data := x11.Data, Target := x11.Target, Dev := x11.Dev, Attrs := x11.Attrs, Kids := x11.Kids, Parent := x11.Parent, Links := 2 } : TApiNode)))))
(some (.inl j2))) : Option (Sum (((List TApiNode))) (Sum ((List Int) × Int × ((List TApiNode))) (Sum ((List Int) × Int × ((List TApiNode))) (Sum (((List TApiNode))) (((List TApiNode)))))))) fun j3 =>
some (.inl (z, (z.length : Int), j3))))))
(some (.inl (owners, ino1, b11)))) : Option (Sum ((List Int) × Int × ((List TApiNode))) (Sum ((List Int) × Int × ((List TApiNode))) (Sum (((List TApiNode))) (((List TApiNode))))))) fun j4 =>
(bnd (loopO (fun s => ref11_Canon_l4 l x5 j4 s.1 s.2) ((0, 0) : Int × Int)) fun up_1 =>
(bnd ((Option.bind (idx l x5) fun x20 =>
(fork (Option.bind (idx j4.2.2 up_1) fun x21 =>
(fork (Option.bind (idx j4.2.2 up_1) fun x22 =>
(Option.bind (ref11_Last x20.Path) fun r5 =>
(Option.bind (app x22.Kids ([({ Name := r5, Ino := j4.2.1 } : TApiKid)])) fun z2 =>
(Option.bind (idx j4.2.2 up_1) fun x23 =>
(Option.bind (chk (decide (up_1 = up_1))) fun _ =>
some (.inl (List.set j4.2.2 up_1.toNat { x22 with Kids := z2 })))))))
(Option.bind (ref11_Last x20.Path) fun r5 =>
(dup (.f .o .o) (Option.bind (idx j4.2.2 up_1) fun x22 =>
(Option.bind (app x22.Kids ([({ Name := r5, Ino := j4.2.1 } : TApiKid)])) fun z2 =>
(Option.bind (idx j4.2.2 up_1) fun x23 =>
(Option.bind (chk (decide (up_1 = up_1))) fun _ =>
some (.inl (List.set j4.2.2 up_1.toNat { x22 with Kids := z2 }))))))))))
(Option.bind (ref11_Last x20.Path) fun r5 =>
(fork (Option.bind (idx j4.2.2 up_1) fun x21 =>
(dup (.f .o .o) (Option.bind (idx j4.2.2 up_1) fun x22 =>
(Option.bind (app x22.Kids ([({ Name := r5, Ino := j4.2.1 } : TApiKid)])) fun z2 =>
(Option.bind (idx j4.2.2 up_1) fun x23 =>
(Option.bind (chk (decide (up_1 = up_1))) fun _ =>
some (.inl (List.set j4.2.2 up_1.toNat { x22 with Kids := z2 }))))))))
(Option.bind (idx j4.2.2 up_1) fun x21 =>
(Option.bind (idx j4.2.2 up_1) fun x22 =>
(Option.bind (app x22.Kids ([({ Name := r5, Ino := j4.2.1 } : TApiKid)])) fun z2 =>
(Option.bind (idx j4.2.2 up_1) fun x23 =>
(Option.bind (chk (decide (up_1 = up_1))) fun _ =>
some (.inl (List.set j4.2.2 up_1.toNat { x22 with Kids := z2 }))))))))))) : Option (Sum (((List TApiNode))) (Sum ((List Int) × Int × ((List TApiNode))) (Sum (((List TApiNode))) (((List TApiNode))))))) fun j6 =>
(Option.bind (idx l r2) fun x24 =>
(cond (x24.Kind == 2)
(Option.bind (idx j6 j4.2.1) fun x25 =>
(Option.bind (idx j6 j4.2.1) fun x26 =>
(Option.bind (idx (List.set j6 j4.2.1.toNat ({ Kind := x26.Kind, Mode := x26.Mode, Uid := x26.Uid, Gid := x26.Gid, Time := x26.Time, Size := x26.Size, Data := x26.Data, Target := x26.Target, Dev := x26.Dev, Attrs := x26.Attrs, Kids := x26.Kids, Parent := up_1, Links := x26.Links } : TApiNode)) up_1) fun x27 =>
(Option.bind (idx (List.set j6 j4.2.1.toNat ({ Kind := x26.Kind, Mode := x26.Mode, Uid := x26.Uid, Gid := x26.Gid, Time := x26.Time, Size := x26.Size, Data := x26.Data, Target := x26.Target, Dev := x26.Dev, Attrs := x26.Attrs, Kids := x26.Kids, Parent := up_1, Links := x26.Links } : TApiNode)) up_1) fun x28 =>
(Option.bind (idx (List.set j6 j4.2.1.toNat ({ Kind := x26.Kind, Mode := x26.Mode, Uid := x26.Uid, Gid := x26.Gid, Time := x26.Time, Size := x26.Size, Data := x26.Data, Target := x26.Target, Dev := x26.Dev, Attrs := x26.Attrs, Kids := x26.Kids, Parent := up_1, Links := x26.Links } : TApiNode)) up_1) fun x29 =>
(Option.bind (idx (List.set j6 j4.2.1.toNat ({ Kind := x26.Kind, Mode := x26.Mode, Uid := x26.Uid, Gid := x26.Gid, Time := x26.Time, Size := x26.Size, Data := x26.Data, Target := x26.Target, Dev := x26.Dev, Attrs := x26.Attrs, Kids := x26.Kids, Parent := up_1, Links := x26.Links } : TApiNode)) up_1) fun x30 =>
some (.inl (j4.1, (IntKind.i64.wrap (i1 + 1)), (List.set (List.set j6 j4.2.1.toNat ({ Kind := x26.Kind, Mode := x26.Mode, Uid := x26.Uid, Gid := x26.Gid, Time := x26.Time, Size := x26.Size, Data := x26.Data, Target := x26.Target, Dev := x26.Dev, Attrs := x26.Attrs, Kids := x26.Kids, Parent := up_1, Links := x26.Links } : TApiNode)) up_1.toNat ({ Kind := x30.Kind, Mode := x30.Mode, Uid := x30.Uid, Gid := x30.Gid, Time := x30.Time, Size := x30.Size, Data := x30.Data, Target := x30.Target, Dev := x30.Dev, Attrs := x30.Attrs, Kids := x30.Kids, Parent := x30.Parent, Links := (IntKind.i64.wrap (x28.Links + 1)) } : TApiNode))))))))))
(Option.bind (idx j6 j4.2.1) fun x31 =>
(Option.bind (idx j6 j4.2.1) fun x32 =>
(Option.bind (idx j6 j4.2.1) fun x33 =>
(Option.bind (idx j6 j4.2.1) fun x34 =>
some (.inl (j4.1, (IntKind.i64.wrap (i1 + 1)), (List.set j6 j4.2.1.toNat ({ Kind := x34.Kind, Mode := x34.Mode, Uid := x34.Uid, Gid := x34.Gid, Time := x34.Time, Size := x34.Size, Data := x34.Data, Target := x34.Target, Dev := x34.Dev, Attrs := x34.Attrs, Kids := x34.Kids, Parent := x34.Parent, Links := (IntKind.i64.wrap (x32.Links + 1)) } : TApiNode)))))))))))))))))
(some (.inr (.inl b11))))
noncomputable def ref11_Canon (l : List TApiEntry) : Option (((List TApiNode))) :=
(bnd (loopO (fun s => ref11_Canon_l1 l s.1 s.2.1 s.2.2.1 s.2.2.2.1 s.2.2.2.2.1 s.2.2.2.2.2.1 s.2.2.2.2.2.2.1 s.2.2.2.2.2.2.2.1 s.2.2.2.2.2.2.2.2.1 s.2.2.2.2.2.2.2.2.2.1 s.2.2.2.2.2.2.2.2.2.2.1 s.2.2.2.2.2.2.2.2.2.2.2) ((0, (([] : List UInt8), 2, 493, 0, 0, 0, 0, [], ([] : List UInt8), 0, [])) : Int × ((List UInt8) × Int × Int × Int × Int × Int × Int × (List UInt8) × (List UInt8) × Int × (List TApiAttr)))) fun j =>
(Option.bind (ref11_Node j.1 j.2.1 j.2.2.1 j.2.2.2.1 j.2.2.2.2.1 j.2.2.2.2.2.1 j.2.2.2.2.2.2.1 j.2.2.2.2.2.2.2.1 j.2.2.2.2.2.2.2.2.1 j.2.2.2.2.2.2.2.2.2.1 j.2.2.2.2.2.2.2.2.2.2) fun r =>
(Option.bind (idx ([{ ({ Kind := r.1, Mode := r.2.1, Uid := r.2.2.1, Gid := r.2.2.2.1, Time := r.2.2.2.2.1, Size := r.2.2.2.2.2.1, Data := r.2.2.2.2.2.2.1, Target := r.2.2.2.2.2.2.2.1, Dev := r.2.2.2.2.2.2.2.2.1, Attrs := r.2.2.2.2.2.2.2.2.2.1, Kids := [], Parent := r.2.2.2.2.2.2.2.2.2.2.2.1, Links := r.2.2.2.2.2.2.2.2.2.2.2.2 } : TApiNode) with Kids := r.2.2.2.2.2.2.2.2.2.2.1 }]) 0) fun x2 =>
(Option.bind (idx ([{ ({ Kind := r.1, Mode := r.2.1, Uid := r.2.2.1, Gid := r.2.2.2.1, Time := r.2.2.2.2.1, Size := r.2.2.2.2.2.1, Data := r.2.2.2.2.2.2.1, Target := r.2.2.2.2.2.2.2.1, Dev := r.2.2.2.2.2.2.2.2.1, Attrs := r.2.2.2.2.2.2.2.2.2.1, Kids := [], Parent := r.2.2.2.2.2.2.2.2.2.2.2.1, Links := r.2.2.2.2.2.2.2.2.2.2.2.2 } : TApiNode) with Kids := r.2.2.2.2.2.2.2.2.2.2.1 }]) 0) fun x3 =>
(Option.bind (ref11_Order l) fun r1 =>
(bnd (loopO (fun s => ref11_Canon_l2 l r1 s.1 s.2.1 s.2.2) (([], 0, (List.set ([{ ({ Kind := r.1, Mode := r.2.1, Uid := r.2.2.1, Gid := r.2.2.2.1, Time := r.2.2.2.2.1, Size := r.2.2.2.2.2.1, Data := r.2.2.2.2.2.2.1, Target := r.2.2.2.2.2.2.2.1, Dev := r.2.2.2.2.2.2.2.2.1, Attrs := r.2.2.2.2.2.2.2.2.2.1, Kids := [], Parent := r.2.2.2.2.2.2.2.2.2.2.2.1, Links := r.2.2.2.2.2.2.2.2.2.2.2.2 } : TApiNode) with Kids := r.2.2.2.2.2.2.2.2.2.2.1 }]) ((0 : Int).toNat) ({ Kind := x3.Kind, Mode := x3.Mode, Uid := x3.Uid, Gid := x3.Gid, Time := x3.Time, Size := x3.Size, Data := x3.Data, Target := x3.Target, Dev := x3.Dev, Attrs := x3.Attrs, Kids := x3.Kids, Parent := x3.Parent, Links := 2 } : TApiNode))) : (List Int) × Int × ((List TApiNode)))) fun j7 =>
some j7))))))
noncomputable def bytes_Clone_w (b : List UInt8) : Option ((List UInt8)) :=
(cond ((b).isEmpty)
(fork (some ([])) (Option.bind (app ([] : List UInt8) b) fun z =>
some z))
(Option.bind (app ([] : List UInt8) b) fun z1 =>
some z1))
noncomputable def bytes_Clone (b : List UInt8) : Option (List UInt8) := app [] b
noncomputable def cmp_isNaN_string (x : List UInt8) : Option (Bool) :=
some (x != x)
noncomputable def cmp_Compare_string (x : List UInt8) (y_ : List UInt8) : Option (Int) :=
(Option.bind (cmp_isNaN_string x) fun r =>
(Option.bind (cmp_isNaN_string y_) fun r1 =>
(cond r
(cond r1
(some 0)
(some (-1)))
(cond r1
(some 1)
(cond (ltB x y_)
(some (-1))
(cond (gtB x y_)
(some 1)
(some 0)))))))
noncomputable def tree_attrs_1 (a : List UInt8) (a1 : List UInt8) (b : List UInt8) (b1 : List UInt8) : Option (Int) :=
(Option.bind (cmp_Compare_string a b) fun r =>
some r)
noncomputable def sort_Attr (l : List TApiAttr) : Option (List TApiAttr) := sortBy (fun x y => tree_attrs_1 x.Name x.Value y.Name y.Value) l
noncomputable def tree_attrs_l1 (l : List TApiAttr) (out : List TApiAttr) (x : Int) : Option (Sum ((List TApiAttr) × Int) (Sum ((List TApiAttr)) ((List TApiAttr)))) :=
(cond (decide (x < (l.length : Int)))
(Option.bind (idx l x) fun x1 =>
(Option.bind (bytes_Clone x1.Value) fun r =>
(Option.bind (app out ([({ Name := x1.Name, Value := r } : TApiAttr)])) fun z =>
some (.inl (z, (IntKind.i64.wrap (x + 1)))))))
(some (.inr (.inl out))))
noncomputable def tree_attrs (l : List TApiAttr) : Option ((List TApiAttr)) :=
(bnd (loopO (fun s => tree_attrs_l1 l s.1 s.2) (([], 0) : (List TApiAttr) × Int)) fun out1 =>
(Option.bind (sort_Attr out1) fun r1 =>
some r1))
noncomputable def tree_lister_add_l1 (rec_ : (List TApiNode) → (List (Int × (List UInt8))) → (List TApiEntry) → Int → (List UInt8) → Int → Option (Sum Unit (((List TApiNode) × (List (Int × (List UInt8))) × (List TApiEntry))))) (path : List UInt8) (deep : Int) (x1 : TApiNode) (x2 : Int) (b : List TApiNode) (b1 : List (Int × (List UInt8))) (b2 : List TApiEntry) : Option (Sum (Int × ((List TApiNode) × (List (Int × (List UInt8))) × (List TApiEntry))) (Sum (((List TApiNode) × (List (Int × (List UInt8))) × (List TApiEntry))) (Sum Unit (((List TApiNode) × (List (Int × (List UInt8))) × (List TApiEntry)))))) :=
(cond (decide (x2 < (x1.Kids.length : Int)))
(Option.bind (idx x1.Kids x2) fun x3 =>
(cond (path == ([] : List UInt8))
(pnE (rec_ b b1 b2 x3.Ino x3.Name 1) (fun r2 =>
(some (.inl ((IntKind.i64.wrap (x2 + 1)), (r2.1, r2.2.1, r2.2.2)))))
(fun thrown => (some (.inr (.inr (.inl ()))))))
(Option.bind (cat path ([47] : List UInt8)) fun z2 =>
(Option.bind (cat z2 x3.Name) fun z3 =>
(pnE (rec_ b b1 b2 x3.Ino z3 (IntKind.i64.wrap (deep + 1))) (fun r3 =>
(some (.inl ((IntKind.i64.wrap (x2 + 1)), (r3.1, r3.2.1, r3.2.2)))))
(fun thrown1 => (some (.inr (.inr (.inl ()))))))))))
(some (.inr (.inl (b, b1, b2)))))
noncomputable def tree_lister_add_s (rec_ : (List TApiNode) → (List (Int × (List UInt8))) → (List TApiEntry) → Int → (List UInt8) → Int → Option (Sum Unit (((List TApiNode) × (List (Int × (List UInt8))) × (List TApiEntry))))) (Nodes : List TApiNode) (first : List (Int × (List UInt8))) (out : List TApiEntry) (ino : Int) (path : List UInt8) (deep : Int) : Option (Sum Unit (((List TApiNode) × (List (Int × (List UInt8))) × (List TApiEntry)))) :=
(bnd ((cond (decide (ino < 0))
(some (.inl true))
(cond (decide (ino ≥ (Nodes.length : Int)))
(some (.inl true))
(cond (decide (deep > 64))
(some (.inl true))
(some (.inl (decide ((out.length : Int) > 16384))))))) : Option (Sum Bool (Sum Unit (((List TApiNode) × (List (Int × (List UInt8))) × (List TApiEntry)))))) fun x =>
(cond x
(some (.inl ()))
(Option.bind (idx Nodes ino) fun x1 =>
(cond ((mget first ino).isSome)
(cond (x1.Kind == 2)
(some (.inl ()))
(Option.bind (app out ([({ Path := path, Kind := 6, Mode := 0, Uid := 0, Gid := 0, Time := 0, Size := 0, Data := [], Target := ((mget first ino).getD ([] : List UInt8)), Dev := 0, Attrs := [] } : TApiEntry)])) fun z =>
some (.inr (Nodes, first, z))))
(bnd ((fork (Option.bind (bytes_Clone x1.Data) fun r =>
(Option.bind (tree_attrs x1.Attrs) fun r1 =>
(Option.bind (app out ([({ Path := path, Kind := x1.Kind, Mode := x1.Mode, Uid := x1.Uid, Gid := x1.Gid, Time := x1.Time, Size := x1.Size, Data := r, Target := x1.Target, Dev := x1.Dev, Attrs := r1 } : TApiEntry)])) fun z1 =>
some (.inl (Nodes, (mput first ino path), z1)))))
(Option.bind (bytes_Clone x1.Data) fun r =>
(fork (Option.bind (tree_attrs x1.Attrs) fun r1 =>
(Option.bind (app out ([({ Path := path, Kind := x1.Kind, Mode := x1.Mode, Uid := x1.Uid, Gid := x1.Gid, Time := x1.Time, Size := x1.Size, Data := r, Target := x1.Target, Dev := x1.Dev, Attrs := r1 } : TApiEntry)])) fun z1 =>
some (.inl (Nodes, (mput first ino path), z1))))
(Option.bind (tree_attrs x1.Attrs) fun r1 =>
(dup (.f .o .o) (Option.bind (app out ([({ Path := path, Kind := x1.Kind, Mode := x1.Mode, Uid := x1.Uid, Gid := x1.Gid, Time := x1.Time, Size := x1.Size, Data := r, Target := x1.Target, Dev := x1.Dev, Attrs := r1 } : TApiEntry)])) fun z1 =>
some (.inl (Nodes, (mput first ino path), z1)))))))) : Option (Sum (((List TApiNode) × (List (Int × (List UInt8))) × (List TApiEntry))) (Sum Unit (((List TApiNode) × (List (Int × (List UInt8))) × (List TApiEntry)))))) fun j =>
(bnd (loopO (fun s => tree_lister_add_l1 rec_ path deep x1 s.1 s.2.1 s.2.2.1 s.2.2.2) ((0, (j.1, j.2.1, j.2.2)) : Int × ((List TApiNode) × (List (Int × (List UInt8))) × (List TApiEntry)))) fun j1 =>
some (.inr (j1.1, j1.2.1, j1.2.2))))))))
noncomputable def tree_lister_add : Nat → (List TApiNode) → (List (Int × (List UInt8))) → (List TApiEntry) → Int → (List UInt8) → Int → Option (Sum Unit (((List TApiNode) × (List (Int × (List UInt8))) × (List TApiEntry))))
  | 0 => fun _ _ _ _ _ _ => none
  | n + 1 => tree_lister_add_s (tree_lister_add n)
noncomputable def tree_index_l1 (l : List TApiEntry) (x : Int) (b : List TApiEntry) (b1 : List (List UInt8 × Int)) (b2 : List (List UInt8 × Int)) (b3 : List (List UInt8 × Int)) : Option (Sum (Int × ((List TApiEntry) × (List (List UInt8 × Int)) × (List (List UInt8 × Int)) × (List (List UInt8 × Int)))) (Sum (((List TApiEntry) × (List (List UInt8 × Int)) × (List (List UInt8 × Int)) × (List (List UInt8 × Int)))) (((List TApiEntry) × (List (List UInt8 × Int)) × (List (List UInt8 × Int)) × (List (List UInt8 × Int)))))) :=
(cond (decide (x < (l.length : Int)))
(Option.bind (idx l x) fun x1 =>
(bnd ((cond (!(mget b1 x1.Path).isSome)
(some (.inl (b, (mput b1 x1.Path x), b2, b3)))
(some (.inl (b, b1, b2, b3)))) : Option (Sum (((List TApiEntry) × (List (List UInt8 × Int)) × (List (List UInt8 × Int)) × (List (List UInt8 × Int)))) (Sum (Int × ((List TApiEntry) × (List (List UInt8 × Int)) × (List (List UInt8 × Int)) × (List (List UInt8 × Int)))) (Sum (((List TApiEntry) × (List (List UInt8 × Int)) × (List (List UInt8 × Int)) × (List (List UInt8 × Int)))) (((List TApiEntry) × (List (List UInt8 × Int)) × (List (List UInt8 × Int)) × (List (List UInt8 × Int)))))))) fun j =>
(cond (x1.Kind == 2)
(some (.inl ((IntKind.i64.wrap (x + 1)), (j.1, j.2.1, (mput j.2.2.1 x1.Path (IntKind.i64.wrap (((mget j.2.2.1 x1.Path).getD 0) + 1))), j.2.2.2))))
(cond (decide (x1.Kind ≥ 1))
(cond (decide (x1.Kind < 6))
(some (.inl ((IntKind.i64.wrap (x + 1)), (j.1, j.2.1, j.2.2.1, (mput j.2.2.2 x1.Path (IntKind.i64.wrap (((mget j.2.2.2 x1.Path).getD 0) + 1)))))))
(some (.inl ((IntKind.i64.wrap (x + 1)), (j.1, j.2.1, j.2.2.1, j.2.2.2)))))
(some (.inl ((IntKind.i64.wrap (x + 1)), (j.1, j.2.1, j.2.2.1, j.2.2.2))))))))
(some (.inr (.inl (b, b1, b2, b3)))))
noncomputable def tree_index (l : List TApiEntry) : Option (((List TApiEntry) × (List (List UInt8 × Int)) × (List (List UInt8 × Int)) × (List (List UInt8 × Int)))) :=
(bnd (loopO (fun s => tree_index_l1 l s.1 s.2.1 s.2.2.1 s.2.2.2.1 s.2.2.2.2) ((0, (l, ([] : List (List UInt8 × Int)), ([] : List (List UInt8 × Int)), ([] : List (List UInt8 × Int)))) : Int × ((List TApiEntry) × (List (List UInt8 × Int)) × (List (List UInt8 × Int)) × (List (List UInt8 × Int))))) fun j1 =>
some (j1.1, j1.2.1, j1.2.2.1, j1.2.2.2))
noncomputable def tree_between (n : Int) (low : Int) (high : Int) : Option (Bool) :=
(cond (decide (n ≥ low))
(some (decide (n ≤ high)))
(some false))
noncomputable def strings_Count (s_ : List UInt8) : Option (Int) :=
(Option.bind (ctb s_ (47 : UInt8)) fun r =>
some r)
noncomputable def internal_stringslite_IndexByte (s_ : List UInt8) (c : UInt8) : Option (Int) :=
(Option.bind (ixb s_ c) fun r =>
some r)
noncomputable def internal_stringslite_Index (s_ : List UInt8) : Option (Int) :=
(cond (([47] : List UInt8) == s_)
(some 0)
(Option.bind (internal_stringslite_IndexByte s_ (47 : UInt8)) fun r =>
some r))
noncomputable def strings_Index (s_ : List UInt8) : Option (Int) :=
(Option.bind (internal_stringslite_Index s_) fun r =>
some r)
noncomputable def strings_genSplit_l1 (s_ : List UInt8) (sepSave : Int) (n1 : Int) (s_1 : List UInt8) (a : List (List UInt8)) (i : Int) : Option (Sum ((List UInt8) × (List (List UInt8)) × Int) (Sum ((List UInt8) × (List (List UInt8)) × Int) ((List (List UInt8))))) :=
(cond (decide (i < (IntKind.i64.wrap ((if (IntKind.i64.wrap ((s_.length : Int) + 1)) < n1 then (IntKind.i64.wrap ((s_.length : Int) + 1)) else n1) - 1))))
(Option.bind (strings_Index s_1) fun r1 =>
(cond (decide (r1 < 0))
(some (.inr (.inl (s_1, a, i))))
(Option.bind (slc s_1 0 (IntKind.i64.wrap (r1 + sepSave))) fun y_ =>
(Option.bind (idx a i) fun x =>
(Option.bind (idx a i) fun x1 =>
(Option.bind (slc s_1 (IntKind.i64.wrap (r1 + 1)) (s_1.length : Int)) fun y_1 =>
some (.inl (y_1, (List.set a i.toNat y_), (IntKind.i64.wrap (i + 1))))))))))
(some (.inr (.inl (s_1, a, i)))))
noncomputable def strings_genSplit (s_ : List UInt8) (sepSave : Int) (n : Int) : Option ((List (List UInt8))) :=
(cond (n == 0)
(some ([]))
(bnd ((cond (decide (n < 0))
(Option.bind (strings_Count s_) fun r =>
some (.inl (IntKind.i64.wrap (r + 1))))
(some (.inl n))) : Option (Sum Int ((List (List UInt8))))) fun n1 =>
(Option.bind (mkz 16 ([] : List UInt8) (if (IntKind.i64.wrap ((s_.length : Int) + 1)) < n1 then (IntKind.i64.wrap ((s_.length : Int) + 1)) else n1)) fun made =>
(bnd (loopO (fun s => strings_genSplit_l1 s_ sepSave n1 s.1 s.2.1 s.2.2) ((s_, made, 0) : (List UInt8) × (List (List UInt8)) × Int)) fun j =>
(Option.bind (idx j.2.1 j.2.2) fun x2 =>
(Option.bind (idx j.2.1 j.2.2) fun x3 =>
(Option.bind (slc (List.set j.2.1 j.2.2.toNat j.1) 0 (IntKind.i64.wrap (j.2.2 + 1))) fun y_2 =>
some y_2)))))))
noncomputable def strings_Split (s_ : List UInt8) : Option ((List (List UInt8))) :=
(Option.bind (strings_genSplit s_ 0 (-1)) fun r =>
some r)
noncomputable def strings_IndexByte (s_ : List UInt8) (c : UInt8) : Option (Int) :=
(Option.bind (internal_stringslite_IndexByte s_ c) fun r =>
some r)
noncomputable def name_Valid (s_ : List UInt8) : Option (Bool) :=
(cond (s_ != ([] : List UInt8))
(cond (decide ((s_.length : Int) ≤ 255))
(cond (s_ != ([46] : List UInt8))
(cond (s_ != ([46, 46] : List UInt8))
(Option.bind (strings_IndexByte s_ (47 : UInt8)) fun r =>
(cond (decide (r < 0))
(Option.bind (strings_IndexByte s_ (0 : UInt8)) fun r1 =>
some (decide (r1 < 0)))
(some false)))
(some false))
(some false))
(some false))
(some false))
noncomputable def tree_path_1 (s_ : List UInt8) : Option (Bool) :=
(Option.bind (name_Valid s_) fun r =>
some (!r))
noncomputable def slices_IndexFunc_string_l1 (s_ : List (List UInt8)) (x : Int) : Option (Sum Int (Sum Unit Int)) :=
(cond (decide (x < (s_.length : Int)))
(Option.bind (idx s_ x) fun x1 =>
(Option.bind (tree_path_1 x1) fun r =>
(cond r
(some (.inr (.inr x)))
(some (.inl (IntKind.i64.wrap (x + 1)))))))
(some (.inr (.inl ()))))
noncomputable def slices_IndexFunc_string (s_ : List (List UInt8)) : Option (Int) :=
(bnd (loopO (fun s => slices_IndexFunc_string_l1 s_ s) (0 : Int)) fun _ =>
some (-1))
noncomputable def slices_ContainsFunc_string (s_ : List (List UInt8)) : Option (Bool) :=
(Option.bind (slices_IndexFunc_string s_) fun r =>
some (decide (r ≥ 0)))
noncomputable def tree_path (x : List UInt8) (x1 : Int) (x2 : Int) (x3 : Int) (x4 : Int) (x5 : Int) (x6 : Int) (x7 : List UInt8) (x8 : List UInt8) (x9 : Int) (x10 : List TApiAttr) : Option (Int) :=
(cond (x == ([] : List UInt8))
(cond (x1 != 2)
(some 6)
(some 0))
(cond (decide ((x.length : Int) > 4096))
(some 6)
(Option.bind (strings_Split x) fun r =>
(Option.bind (slices_ContainsFunc_string r) fun r1 =>
(cond r1
(some 6)
(cond (decide ((r.length : Int) > 128))
(some 6)
(cond (decide ((r.length : Int) > 64))
(some 3)
(some 0))))))))
noncomputable def internal_bytealg_LastIndexByteString_l1 (s_ : List UInt8) (c : UInt8) (i : Int) : Option (Sum Int (Sum Unit Int)) :=
(cond (decide (i ≥ 0))
(Option.bind (idx s_ i) fun c1 =>
(cond ((c1.toNat : Int) == (c.toNat : Int))
(some (.inr (.inr i)))
(some (.inl (IntKind.i64.wrap (i - 1))))))
(some (.inr (.inl ()))))
noncomputable def internal_bytealg_LastIndexByteString (s_ : List UInt8) (c : UInt8) : Option (Int) :=
(bnd (loopO (fun s => internal_bytealg_LastIndexByteString_l1 s_ c s) ((IntKind.i64.wrap ((s_.length : Int) - 1)) : Int)) fun _ =>
some (-1))
noncomputable def strings_LastIndexByte (s_ : List UInt8) (c : UInt8) : Option (Int) :=
(Option.bind (internal_bytealg_LastIndexByteString s_ c) fun r =>
some r)
noncomputable def tree_above (path : List UInt8) : Option ((List UInt8) × Bool) :=
(Option.bind (strings_LastIndexByte path (47 : UInt8)) fun r =>
(Option.bind (slc path 0 (if 0 > r then 0 else r)) fun y_ =>
some (y_, (decide (r ≥ 0)))))
noncomputable def tree_text (s_ : List UInt8) (low : Int) (high : Int) : Option (Bool) :=
(Option.bind (tree_between (s_.length : Int) low high) fun r =>
(cond r
(Option.bind (strings_IndexByte s_ (0 : UInt8)) fun r1 =>
some (decide (r1 < 0)))
(some false)))
noncomputable def tree_fields_1 (a : List UInt8) (a1 : List UInt8) : Option (Bool) :=
(Option.bind (tree_text a 1 255) fun r =>
(cond (!r)
(some true)
(some (decide ((a1.length : Int) > 4096)))))
noncomputable def slices_IndexFunc_Attr_l1 (s_ : List TApiAttr) (x : Int) : Option (Sum Int (Sum Unit Int)) :=
(cond (decide (x < (s_.length : Int)))
(Option.bind (idx s_ x) fun x1 =>
(Option.bind (tree_fields_1 x1.Name x1.Value) fun r =>
(cond r
(some (.inr (.inr x)))
(some (.inl (IntKind.i64.wrap (x + 1)))))))
(some (.inr (.inl ()))))
noncomputable def slices_IndexFunc_Attr (s_ : List TApiAttr) : Option (Int) :=
(bnd (loopO (fun s => slices_IndexFunc_Attr_l1 s_ s) (0 : Int)) fun _ =>
some (-1))
noncomputable def slices_ContainsFunc_Attr (s_ : List TApiAttr) : Option (Bool) :=
(Option.bind (slices_IndexFunc_Attr s_) fun r =>
some (decide (r ≥ 0)))
noncomputable def tree_fields_2 (o : List UInt8) (o1 : List UInt8) (Name : List UInt8) (Value : List UInt8) : Option (Bool × ((List UInt8) × (List UInt8))) :=
some ((o == Name), (Name, Value))
noncomputable def slices_IndexFunc_Attr_2_l1 (s_ : List TApiAttr) (x : Int) (b : List UInt8) (b1 : List UInt8) : Option (Sum (Int × ((List UInt8) × (List UInt8))) (Sum Unit Int)) :=
(cond (decide (x < (s_.length : Int)))
(Option.bind (idx s_ x) fun x1 =>
(Option.bind (tree_fields_2 x1.Name x1.Value b b1) fun r =>
(cond r.1
(some (.inr (.inr x)))
(some (.inl ((IntKind.i64.wrap (x + 1)), (r.2.1, r.2.2)))))))
(some (.inr (.inl ()))))
noncomputable def slices_IndexFunc_Attr_2 (s_ : List TApiAttr) (f : List UInt8) (f1 : List UInt8) : Option (Int) :=
(bnd (loopO (fun s => slices_IndexFunc_Attr_2_l1 s_ s.1 s.2.1 s.2.2) ((0, (f, f1)) : Int × ((List UInt8) × (List UInt8)))) fun _ =>
some (-1))
noncomputable def slices_ContainsFunc_Attr_2 (s_ : List TApiAttr) (f : List UInt8) (f1 : List UInt8) : Option (Bool) :=
(Option.bind (slices_IndexFunc_Attr_2 s_ f f1) fun r =>
some (decide (r ≥ 0)))
noncomputable def tree_fields_l1 (x10 : List TApiAttr) (x13 : Int) : Option (Sum Int (Sum Unit Int)) :=
(cond (decide (x13 < (x10.length : Int)))
(Option.bind (idx x10 x13) fun x14 =>
(Option.bind (slc x10 0 x13) fun y_ =>
(Option.bind (slices_ContainsFunc_Attr_2 y_ x14.Name x14.Value) fun r8 =>
(cond r8
(some (.inr (.inr 110)))
(some (.inl (IntKind.i64.wrap (x13 + 1))))))))
(some (.inr (.inl ()))))
noncomputable def tree_fields (x : List UInt8) (x1 : Int) (x2 : Int) (x3 : Int) (x4 : Int) (x5 : Int) (x6 : Int) (x7 : List UInt8) (x8 : List UInt8) (x9 : Int) (x10 : List TApiAttr) : Option (Int) :=
(bnd ((Option.bind (tree_between x2 0 4095) fun r =>
(cond r
(Option.bind (tree_between x3 0 4294967295) fun r1 =>
(cond r1
(Option.bind (tree_between x4 0 4294967295) fun r2 =>
(cond r2
(Option.bind (tree_between x5 0 4294967295) fun r3 =>
some (.inl r3))
(some (.inl false))))
(some (.inl false))))
(some (.inl false)))) : Option (Sum Bool Int)) fun right =>
(bnd ((cond (x1 == 1)
(bnd ((cond right
(Option.bind (tree_between x6 (x7.length : Int) 1099511627775) fun r4 =>
some (.inl r4))
(some (.inl false))) : Option (Sum Bool (Sum Bool Int))) fun right1 =>
some (.inl right1))
(bnd ((cond (x1 == 3)
(bnd ((cond right
(Option.bind (tree_text x8 1 4096) fun r5 =>
some (.inl r5))
(some (.inl false))) : Option (Sum Bool (Sum Bool (Sum Bool Int)))) fun right2 =>
some (.inl right2))
(bnd ((cond (x1 == 4)
(some (.inl true))
(some (.inl (x1 == 5)))) : Option (Sum Bool (Sum Bool (Sum Bool Int)))) fun x11 =>
(bnd ((cond x11
(bnd ((cond right
(Option.bind (tree_between x9 0 4294967295) fun r6 =>
some (.inl r6))
(some (.inl false))) : Option (Sum Bool (Sum Bool (Sum Bool (Sum Bool Int))))) fun right3 =>
some (.inl right3))
(some (.inl right))) : Option (Sum Bool (Sum Bool (Sum Bool Int)))) fun right4 =>
some (.inl right4)))) : Option (Sum Bool (Sum Bool Int))) fun right5 =>
some (.inl right5))) : Option (Sum Bool Int)) fun right6 =>
(bnd ((cond right6
(some (.inl (decide ((x10.length : Int) ≤ 64))))
(some (.inl false))) : Option (Sum Bool Int)) fun right7 =>
(bnd ((cond (!right7)
(some (.inl true))
(Option.bind (slices_ContainsFunc_Attr x10) fun r7 =>
some (.inl r7))) : Option (Sum Bool Int)) fun x12 =>
(cond x12
(some 1)
(bnd (loopO (fun s => tree_fields_l1 x10 s) (0 : Int)) fun _ =>
some 0))))))
noncomputable def tree_checker_entry (l : List TApiEntry) (first : List (List UInt8 × Int)) (dirs : List (List UInt8 × Int)) (nodes : List (List UInt8 × Int)) (i : Int) : Option (Int × ((List TApiEntry) × (List (List UInt8 × Int)) × (List (List UInt8 × Int)) × (List (List UInt8 × Int)))) :=
(Option.bind (idx l i) fun x =>
(Option.bind (tree_between x.Kind 1 6) fun r =>
(cond (!r)
(some (8, (l, first, dirs, nodes)))
(Option.bind (tree_path x.Path x.Kind x.Mode x.Uid x.Gid x.Time x.Size x.Data x.Target x.Dev x.Attrs) fun r1 =>
(cond (r1 != 0)
(some (r1, (l, first, dirs, nodes)))
(cond (decide (((mget first x.Path).getD 0) < i))
(some (110, (l, first, dirs, nodes)))
(Option.bind (tree_above x.Path) fun r2 =>
(bnd ((cond r2.2
(some (.inl (((mget dirs r2.1).getD 0) == 0)))
(some (.inl false))) : Option (Sum Bool (Int × ((List TApiEntry) × (List (List UInt8 × Int)) × (List (List UInt8 × Int)) × (List (List UInt8 × Int)))))) fun x1 =>
(cond x1
(some (4, (l, first, dirs, nodes)))
(cond (x.Kind == 6)
(cond (((mget nodes x.Target).getD 0) == 0)
(some (4, (l, first, dirs, nodes)))
(some (0, (l, first, dirs, nodes))))
(Option.bind (tree_fields x.Path x.Kind x.Mode x.Uid x.Gid x.Time x.Size x.Data x.Target x.Dev x.Attrs) fun r3 =>
some (r3, (l, first, dirs, nodes)))))))))))))
noncomputable def tree_Check_l1 (l : List TApiEntry) (left : Int) (x : Int) : Option (Sum (Int × Int) (Sum Unit (Int × Int))) :=
(cond (decide (x < (l.length : Int)))
(Option.bind (idx l x) fun x1 =>
(bnd ((cond (x1.Kind == 1)
(some (.inl (decide ((x1.Data.length : Int) > left))))
(some (.inl false))) : Option (Sum Bool (Sum (Int × Int) (Sum Unit (Int × Int))))) fun x2 =>
(cond x2
(some (.inr (.inr (0, 2))))
(cond (x1.Kind == 1)
(some (.inl ((IntKind.i64.wrap (left - (x1.Data.length : Int))), (IntKind.i64.wrap (x + 1)))))
(some (.inl (left, (IntKind.i64.wrap (x + 1)))))))))
(some (.inr (.inl ()))))
noncomputable def tree_Check_l2 (l : List TApiEntry) (x3 : Int) (b : List TApiEntry) (b1 : List (List UInt8 × Int)) (b2 : List (List UInt8 × Int)) (b3 : List (List UInt8 × Int)) : Option (Sum (Int × ((List TApiEntry) × (List (List UInt8 × Int)) × (List (List UInt8 × Int)) × (List (List UInt8 × Int)))) (Sum Unit (Int × Int))) :=
(cond (decide (x3 < (l.length : Int)))
(Option.bind (tree_checker_entry b b1 b2 b3 x3) fun r1 =>
(cond (r1.1 != 0)
(some (.inr (.inr (x3, r1.1))))
(some (.inl ((IntKind.i64.wrap (x3 + 1)), (r1.2.1, r1.2.2.1, r1.2.2.2.1, r1.2.2.2.2))))))
(some (.inr (.inl ()))))
noncomputable def tree_Check (l : List TApiEntry) : Option (Int × Int) :=
(cond (decide ((l.length : Int) > 16384))
(some (0, 3))
(bnd (loopO (fun s => tree_Check_l1 l s.1 s.2) ((8388608, 0) : Int × Int)) fun _ =>
(Option.bind (tree_index l) fun r =>
(bnd (loopO (fun s => tree_Check_l2 l s.1 s.2.1 s.2.2.1 s.2.2.2.1 s.2.2.2.2) ((0, (r.1, r.2.1, r.2.2.1, r.2.2.2)) : Int × ((List TApiEntry) × (List (List UInt8 × Int)) × (List (List UInt8 × Int)) × (List (List UInt8 × Int))))) fun _ =>
some (0, 0)))))
noncomputable def tree_root_1 (x : List UInt8) (x1 : Int) (x2 : Int) (x3 : Int) (x4 : Int) (x5 : Int) (x6 : Int) (x7 : List UInt8) (x8 : List UInt8) (x9 : Int) (x10 : List TApiAttr) : Option (Bool) :=
some (x == ([] : List UInt8))
noncomputable def slices_IndexFunc_Entry_l1 (s_ : List TApiEntry) (x : Int) : Option (Sum Int (Sum Unit Int)) :=
(cond (decide (x < (s_.length : Int)))
(Option.bind (idx s_ x) fun x1 =>
(Option.bind (tree_root_1 x1.Path x1.Kind x1.Mode x1.Uid x1.Gid x1.Time x1.Size x1.Data x1.Target x1.Dev x1.Attrs) fun r =>
(cond r
(some (.inr (.inr x)))
(some (.inl (IntKind.i64.wrap (x + 1)))))))
(some (.inr (.inl ()))))
noncomputable def slices_IndexFunc_Entry (s_ : List TApiEntry) : Option (Int) :=
(bnd (loopO (fun s => slices_IndexFunc_Entry_l1 s_ s) (0 : Int)) fun _ =>
some (-1))
noncomputable def tree_root (l : List TApiEntry) : Option (((List UInt8) × Int × Int × Int × Int × Int × Int × (List UInt8) × (List UInt8) × Int × (List TApiAttr))) :=
(Option.bind (slices_IndexFunc_Entry l) fun r =>
(cond (decide (r < 0))
(some (([] : List UInt8), 2, 493, 0, 0, 0, 0, [], ([] : List UInt8), 0, []))
(Option.bind (idx l r) fun x =>
some (x.Path, x.Kind, x.Mode, x.Uid, x.Gid, x.Time, x.Size, x.Data, x.Target, x.Dev, x.Attrs))))
noncomputable def bytes_trimRightByte_l1 (c : UInt8) (s_1 : List UInt8) : Option (Sum ((List UInt8)) (Sum ((List UInt8)) ((List UInt8)))) :=
(cond (decide ((s_1.length : Int) > 0))
(Option.bind (idx s_1 (IntKind.i64.wrap ((s_1.length : Int) - 1))) fun x =>
(cond ((x.toNat : Int) == (c.toNat : Int))
(Option.bind (slc s_1 0 (IntKind.i64.wrap ((s_1.length : Int) - 1))) fun y_ =>
some (.inl y_))
(some (.inr (.inl s_1)))))
(some (.inr (.inl s_1))))
noncomputable def bytes_trimRightByte (s_ : List UInt8) (c : UInt8) : Option ((List UInt8)) :=
(bnd (loopO (fun s => bytes_trimRightByte_l1 c s) (s_ : (List UInt8))) fun s_2 =>
some s_2)
noncomputable def bytes_TrimRight (s_ : List UInt8) : Option ((List UInt8)) :=
(bnd ((cond ((s_.length : Int) == 0)
(some (.inl true))
(some (.inl false))) : Option (Sum Bool ((List UInt8)))) fun x =>
(cond x
(some s_)
(Option.bind (bytes_trimRightByte s_ (0 : UInt8)) fun r =>
some r)))
noncomputable def tree_node (x : List UInt8) (x1 : Int) (x2 : Int) (x3 : Int) (x4 : Int) (x5 : Int) (x6 : Int) (x7 : List UInt8) (x8 : List UInt8) (x9 : Int) (x10 : List TApiAttr) : Option ((Int × Int × Int × Int × Int × Int × (List UInt8) × (List UInt8) × Int × (List TApiAttr) × (List TApiKid) × Int × Int)) :=
(bnd ((dup (.f .o .o) (Option.bind (tree_attrs x10) fun r =>
some (.inl (x1, x2, x3, x4, x5, 0, [], ([] : List UInt8), 0, r, [], 0, 0)))) : Option (Sum ((Int × Int × Int × Int × Int × Int × (List UInt8) × (List UInt8) × Int × (List TApiAttr) × (List TApiKid) × Int × Int)) ((Int × Int × Int × Int × Int × Int × (List UInt8) × (List UInt8) × Int × (List TApiAttr) × (List TApiKid) × Int × Int)))) fun j =>
(cond (x1 == 1)
(Option.bind (bytes_TrimRight x7) fun r1 =>
(Option.bind (bytes_Clone r1) fun r2 =>
some (j.1, j.2.1, j.2.2.1, j.2.2.2.1, j.2.2.2.2.1, x6, r2, j.2.2.2.2.2.2.2.1, j.2.2.2.2.2.2.2.2.1, j.2.2.2.2.2.2.2.2.2.1, j.2.2.2.2.2.2.2.2.2.2.1, j.2.2.2.2.2.2.2.2.2.2.2.1, j.2.2.2.2.2.2.2.2.2.2.2.2)))
(cond (x1 == 2)
(some (j.1, j.2.1, j.2.2.1, j.2.2.2.1, j.2.2.2.2.1, j.2.2.2.2.2.1, j.2.2.2.2.2.2.1, j.2.2.2.2.2.2.2.1, j.2.2.2.2.2.2.2.2.1, j.2.2.2.2.2.2.2.2.2.1, j.2.2.2.2.2.2.2.2.2.2.1, j.2.2.2.2.2.2.2.2.2.2.2.1, 2))
(cond (x1 == 3)
(some (j.1, j.2.1, j.2.2.1, j.2.2.2.1, j.2.2.2.2.1, j.2.2.2.2.2.1, j.2.2.2.2.2.2.1, x8, j.2.2.2.2.2.2.2.2.1, j.2.2.2.2.2.2.2.2.2.1, j.2.2.2.2.2.2.2.2.2.2.1, j.2.2.2.2.2.2.2.2.2.2.2.1, j.2.2.2.2.2.2.2.2.2.2.2.2))
(some (j.1, j.2.1, j.2.2.1, j.2.2.2.1, j.2.2.2.2.1, j.2.2.2.2.2.1, j.2.2.2.2.2.2.1, j.2.2.2.2.2.2.2.1, x9, j.2.2.2.2.2.2.2.2.2.1, j.2.2.2.2.2.2.2.2.2.2.1, j.2.2.2.2.2.2.2.2.2.2.2.1, j.2.2.2.2.2.2.2.2.2.2.2.2))))))
noncomputable def slices_Compare_string_l1 (s1 : List (List UInt8)) (s2 : List (List UInt8)) (x : Int) : Option (Sum Int (Sum Unit Int)) :=
(cond (decide (x < (s1.length : Int)))
(Option.bind (idx s1 x) fun x1 =>
(cond (decide (x ≥ (s2.length : Int)))
(some (.inr (.inr 1)))
(Option.bind (idx s2 x) fun x2 =>
(Option.bind (cmp_Compare_string x1 x2) fun r =>
(cond (r != 0)
(some (.inr (.inr r)))
(some (.inl (IntKind.i64.wrap (x + 1)))))))))
(some (.inr (.inl ()))))
noncomputable def slices_Compare_string (s1 : List (List UInt8)) (s2 : List (List UInt8)) : Option (Int) :=
(bnd (loopO (fun s => slices_Compare_string_l1 s1 s2 s) (0 : Int)) fun _ =>
(cond (decide ((s1.length : Int) < (s2.length : Int)))
(some (-1))
(some 0)))
noncomputable def name_Order (a : List (List UInt8)) (b : List (List UInt8)) : Option (Int) :=
(Option.bind (slices_Compare_string a b) fun r =>
some r)
noncomputable def tree_names_1 (a : List (List UInt8)) (a1 : List UInt8) (a2 : List UInt8) (b : List (List UInt8)) (b1 : List UInt8) (b2 : List UInt8) : Option (Int) :=
(Option.bind (name_Order a b) fun r =>
some r)
noncomputable def sort_Named (l : List TTreeNamed) : Option (List TTreeNamed) := sortBy (fun x y => tree_names_1 x.f_parts x.f_path x.f_of y.f_parts y.f_path y.f_of) l
noncomputable def tree_names_l1 (l : List TApiEntry) (out : List TTreeNamed) (x : Int) : Option (Sum ((List TTreeNamed) × Int) (Sum ((List TTreeNamed)) ((List TTreeNamed)))) :=
(cond (decide (x < (l.length : Int)))
(Option.bind (idx l x) fun x1 =>
(cond (x1.Path == ([] : List UInt8))
(some (.inl (out, (IntKind.i64.wrap (x + 1)))))
(bnd ((dup (.f .o .o) (Option.bind (strings_Split x1.Path) fun r =>
some (.inl (r, x1.Path, x1.Path)))) : Option (Sum (((List (List UInt8)) × (List UInt8) × (List UInt8))) (Sum ((List TTreeNamed) × Int) (Sum ((List TTreeNamed)) ((List TTreeNamed)))))) fun j =>
(cond (x1.Kind == 6)
(Option.bind (app out ([({ f_parts := j.1, f_path := j.2.1, f_of := x1.Target } : TTreeNamed)])) fun z =>
some (.inl (z, (IntKind.i64.wrap (x + 1)))))
(Option.bind (app out ([({ f_parts := j.1, f_path := j.2.1, f_of := j.2.2 } : TTreeNamed)])) fun z1 =>
some (.inl (z1, (IntKind.i64.wrap (x + 1)))))))))
(some (.inr (.inl out))))
noncomputable def tree_names (l : List TApiEntry) : Option ((List TTreeNamed)) :=
(bnd (loopO (fun s => tree_names_l1 l s.1 s.2) (([], 0) : (List TTreeNamed) × Int)) fun out1 =>
(Option.bind (sort_Named out1) fun r1 =>
some r1))
noncomputable def tree_Canon_l1 (l : List TApiEntry) (r1 : ((List TApiEntry) × (List (List UInt8 × Int)) × (List (List UInt8 × Int)) × (List (List UInt8 × Int)))) (r4 : (List TTreeNamed)) (inos : List (List UInt8 × Int)) (x : Int) (b : List TApiNode) : Option (Sum ((List (List UInt8 × Int)) × Int × ((List TApiNode))) (Sum (((List TApiNode))) (((List TApiNode)) × Int))) :=
(cond (decide (x < (r4.length : Int)))
(Option.bind (idx r4 x) fun x1 =>
(Option.bind (idx r4 x) fun x2 =>
(bnd ((cond (!(mget inos x2.f_of).isSome)
(bnd ((fork (Option.bind (idx l ((mget r1.2.1 x2.f_of).getD 0)) fun x3 =>
(Option.bind (tree_node x3.Path x3.Kind x3.Mode x3.Uid x3.Gid x3.Time x3.Size x3.Data x3.Target x3.Dev x3.Attrs) fun r5 =>
(Option.bind (app b [{ ({ Kind := r5.1, Mode := r5.2.1, Uid := r5.2.2.1, Gid := r5.2.2.2.1, Time := r5.2.2.2.2.1, Size := r5.2.2.2.2.2.1, Data := r5.2.2.2.2.2.2.1, Target := r5.2.2.2.2.2.2.2.1, Dev := r5.2.2.2.2.2.2.2.2.1, Attrs := r5.2.2.2.2.2.2.2.2.2.1, Kids := [], Parent := r5.2.2.2.2.2.2.2.2.2.2.2.1, Links := r5.2.2.2.2.2.2.2.2.2.2.2.2 } : TApiNode) with Kids := r5.2.2.2.2.2.2.2.2.2.2.1 }]) fun z =>
some (.inl z))))
(Option.bind (idx l ((mget r1.2.1 x2.f_of).getD 0)) fun x3 =>
(fork (Option.bind (tree_node x3.Path x3.Kind x3.Mode x3.Uid x3.Gid x3.Time x3.Size x3.Data x3.Target x3.Dev x3.Attrs) fun r5 =>
(Option.bind (app b [{ ({ Kind := r5.1, Mode := r5.2.1, Uid := r5.2.2.1, Gid := r5.2.2.2.1, Time := r5.2.2.2.2.1, Size := r5.2.2.2.2.2.1, Data := r5.2.2.2.2.2.2.1, Target := r5.2.2.2.2.2.2.2.1, Dev := r5.2.2.2.2.2.2.2.2.1, Attrs := r5.2.2.2.2.2.2.2.2.2.1, Kids := [], Parent := r5.2.2.2.2.2.2.2.2.2.2.2.1, Links := r5.2.2.2.2.2.2.2.2.2.2.2.2 } : TApiNode) with Kids := r5.2.2.2.2.2.2.2.2.2.2.1 }]) fun z =>
some (.inl z)))
(Option.bind (tree_node x3.Path x3.Kind x3.Mode x3.Uid x3.Gid x3.Time x3.Size x3.Data x3.Target x3.Dev x3.Attrs) fun r5 =>
(dup (.f .o .o) (Option.bind (app b [{ ({ Kind := r5.1, Mode := r5.2.1, Uid := r5.2.2.1, Gid := r5.2.2.2.1, Time := r5.2.2.2.2.1, Size := r5.2.2.2.2.2.1, Data := r5.2.2.2.2.2.2.1, Target := r5.2.2.2.2.2.2.2.1, Dev := r5.2.2.2.2.2.2.2.2.1, Attrs := r5.2.2.2.2.2.2.2.2.2.1, Kids := [], Parent := r5.2.2.2.2.2.2.2.2.2.2.2.1, Links := r5.2.2.2.2.2.2.2.2.2.2.2.2 } : TApiNode) with Kids := r5.2.2.2.2.2.2.2.2.2.2.1 }]) fun z =>
some (.inl z))))))) : Option (Sum (((List TApiNode))) (Sum ((List (List UInt8 × Int)) × Int × ((List TApiNode))) (Sum ((List (List UInt8 × Int)) × Int × ((List TApiNode))) (Sum (((List TApiNode))) (((List TApiNode)) × Int)))))) fun j =>
some (.inl ((mput inos x2.f_of (b.length : Int)), (b.length : Int), j)))
(some (.inl (inos, ((mget inos x2.f_of).getD 0), b)))) : Option (Sum ((List (List UInt8 × Int)) × Int × ((List TApiNode))) (Sum ((List (List UInt8 × Int)) × Int × ((List TApiNode))) (Sum (((List TApiNode))) (((List TApiNode)) × Int))))) fun j1 =>
(Option.bind (tree_above x2.f_path) fun r6 =>
(bnd ((Option.bind (idx x2.f_parts (IntKind.i64.wrap ((x2.f_parts.length : Int) - 1))) fun x4 =>
(fork (Option.bind (idx j1.2.2 ((mget j1.1 r6.1).getD 0)) fun x5 =>
(dup (.f .o .o) (Option.bind (idx j1.2.2 ((mget j1.1 r6.1).getD 0)) fun x6 =>
(Option.bind (app x6.Kids ([({ Name := x4, Ino := j1.2.1 } : TApiKid)])) fun z1 =>
(Option.bind (idx j1.2.2 ((mget j1.1 r6.1).getD 0)) fun x7 =>
(Option.bind (chk (decide (((mget j1.1 r6.1).getD 0) = ((mget j1.1 r6.1).getD 0)))) fun _ =>
some (.inl (List.set j1.2.2 (((mget j1.1 r6.1).getD 0).toNat) { x6 with Kids := z1 }))))))))
(Option.bind (idx j1.2.2 ((mget j1.1 r6.1).getD 0)) fun x5 =>
(Option.bind (idx j1.2.2 ((mget j1.1 r6.1).getD 0)) fun x6 =>
(Option.bind (app x6.Kids ([({ Name := x4, Ino := j1.2.1 } : TApiKid)])) fun z1 =>
(Option.bind (idx j1.2.2 ((mget j1.1 r6.1).getD 0)) fun x7 =>
(Option.bind (chk (decide (((mget j1.1 r6.1).getD 0) = ((mget j1.1 r6.1).getD 0)))) fun _ =>
some (.inl (List.set j1.2.2 (((mget j1.1 r6.1).getD 0).toNat) { x6 with Kids := z1 }))))))))) : Option (Sum (((List TApiNode))) (Sum ((List (List UInt8 × Int)) × Int × ((List TApiNode))) (Sum (((List TApiNode))) (((List TApiNode)) × Int))))) fun j2 =>
(Option.bind (idx j2 j1.2.1) fun x8 =>
(Option.bind (idx j2 j1.2.1) fun x9 =>
(cond (x9.Kind == 2)
(Option.bind (idx j2 j1.2.1) fun x10 =>
(Option.bind (idx j2 j1.2.1) fun x11 =>
(Option.bind (idx (List.set j2 j1.2.1.toNat ({ Kind := x11.Kind, Mode := x11.Mode, Uid := x11.Uid, Gid := x11.Gid, Time := x11.Time, Size := x11.Size, Data := x11.Data, Target := x11.Target, Dev := x11.Dev, Attrs := x11.Attrs, Kids := x11.Kids, Parent := ((mget j1.1 r6.1).getD 0), Links := x11.Links } : TApiNode)) ((mget j1.1 r6.1).getD 0)) fun x12 =>
(Option.bind (idx (List.set j2 j1.2.1.toNat ({ Kind := x11.Kind, Mode := x11.Mode, Uid := x11.Uid, Gid := x11.Gid, Time := x11.Time, Size := x11.Size, Data := x11.Data, Target := x11.Target, Dev := x11.Dev, Attrs := x11.Attrs, Kids := x11.Kids, Parent := ((mget j1.1 r6.1).getD 0), Links := x11.Links } : TApiNode)) ((mget j1.1 r6.1).getD 0)) fun x13 =>
(Option.bind (idx (List.set j2 j1.2.1.toNat ({ Kind := x11.Kind, Mode := x11.Mode, Uid := x11.Uid, Gid := x11.Gid, Time := x11.Time, Size := x11.Size, Data := x11.Data, Target := x11.Target, Dev := x11.Dev, Attrs := x11.Attrs, Kids := x11.Kids, Parent := ((mget j1.1 r6.1).getD 0), Links := x11.Links } : TApiNode)) ((mget j1.1 r6.1).getD 0)) fun x14 =>
(Option.bind (idx (List.set j2 j1.2.1.toNat ({ Kind := x11.Kind, Mode := x11.Mode, Uid := x11.Uid, Gid := x11.Gid, Time := x11.Time, Size := x11.Size, Data := x11.Data, Target := x11.Target, Dev := x11.Dev, Attrs := x11.Attrs, Kids := x11.Kids, Parent := ((mget j1.1 r6.1).getD 0), Links := x11.Links } : TApiNode)) ((mget j1.1 r6.1).getD 0)) fun x15 =>
some (.inl (j1.1, (IntKind.i64.wrap (x + 1)), (List.set (List.set j2 j1.2.1.toNat ({ Kind := x11.Kind, Mode := x11.Mode, Uid := x11.Uid, Gid := x11.Gid, Time := x11.Time, Size := x11.Size, Data := x11.Data, Target := x11.Target, Dev := x11.Dev, Attrs := x11.Attrs, Kids := x11.Kids, Parent := ((mget j1.1 r6.1).getD 0), Links := x11.Links } : TApiNode)) (((mget j1.1 r6.1).getD 0).toNat) ({ Kind := x15.Kind, Mode := x15.Mode, Uid := x15.Uid, Gid := x15.Gid, Time := x15.Time, Size := x15.Size, Data := x15.Data, Target := x15.Target, Dev := x15.Dev, Attrs := x15.Attrs, Kids := x15.Kids, Parent := x15.Parent, Links := (IntKind.i64.wrap (x13.Links + 1)) } : TApiNode))))))))))
(Option.bind (idx j2 j1.2.1) fun x16 =>
(Option.bind (idx j2 j1.2.1) fun x17 =>
(Option.bind (idx j2 j1.2.1) fun x18 =>
(Option.bind (idx j2 j1.2.1) fun x19 =>
some (.inl (j1.1, (IntKind.i64.wrap (x + 1)), (List.set j2 j1.2.1.toNat ({ Kind := x19.Kind, Mode := x19.Mode, Uid := x19.Uid, Gid := x19.Gid, Time := x19.Time, Size := x19.Size, Data := x19.Data, Target := x19.Target, Dev := x19.Dev, Attrs := x19.Attrs, Kids := x19.Kids, Parent := x19.Parent, Links := (IntKind.i64.wrap (x17.Links + 1)) } : TApiNode))))))))))))))))
(some (.inr (.inl b))))
noncomputable def tree_Canon (l : List TApiEntry) : Option (((List TApiNode)) × Int) :=
(Option.bind (tree_Check l) fun r =>
(cond (r.2 != 0)
(some ([], r.2))
(Option.bind (tree_index l) fun r1 =>
(Option.bind (tree_root l) fun r2 =>
(Option.bind (tree_node r2.1 r2.2.1 r2.2.2.1 r2.2.2.2.1 r2.2.2.2.2.1 r2.2.2.2.2.2.1 r2.2.2.2.2.2.2.1 r2.2.2.2.2.2.2.2.1 r2.2.2.2.2.2.2.2.2.1 r2.2.2.2.2.2.2.2.2.2.1 r2.2.2.2.2.2.2.2.2.2.2) fun r3 =>
(Option.bind (tree_names l) fun r4 =>
(bnd (loopO (fun s => tree_Canon_l1 l r1 r4 s.1 s.2.1 s.2.2) (((mput ([] : List (List UInt8 × Int)) ([] : List UInt8) 0), 0, [{ ({ Kind := r3.1, Mode := r3.2.1, Uid := r3.2.2.1, Gid := r3.2.2.2.1, Time := r3.2.2.2.2.1, Size := r3.2.2.2.2.2.1, Data := r3.2.2.2.2.2.2.1, Target := r3.2.2.2.2.2.2.2.1, Dev := r3.2.2.2.2.2.2.2.2.1, Attrs := r3.2.2.2.2.2.2.2.2.2.1, Kids := [], Parent := r3.2.2.2.2.2.2.2.2.2.2.2.1, Links := r3.2.2.2.2.2.2.2.2.2.2.2.2 } : TApiNode) with Kids := r3.2.2.2.2.2.2.2.2.2.2.1 }]) : (List (List UInt8 × Int)) × Int × ((List TApiNode)))) fun j3 =>
some (j3, 0))))))))
noncomputable def bytes_Equal (a : List UInt8) (b : List UInt8) : Option (Bool) :=
some (a == b)
noncomputable def slices_Equal_Kid_l1 (s1 : List TApiKid) (s2 : List TApiKid) (x : Int) : Option (Sum Int (Sum Unit Bool)) :=
(cond (decide (x < (s1.length : Int)))
(Option.bind (idx s1 x) fun x1 =>
(Option.bind (idx s2 x) fun x2 =>
(cond (!((x1.Name == x2.Name) && ((x1.Ino == x2.Ino) && true)))
(some (.inr (.inr false)))
(some (.inl (IntKind.i64.wrap (x + 1)))))))
(some (.inr (.inl ()))))
noncomputable def slices_Equal_Kid (s1 : List TApiKid) (s2 : List TApiKid) : Option (Bool) :=
(cond ((s1.length : Int) != (s2.length : Int))
(some false)
(bnd (loopO (fun s => slices_Equal_Kid_l1 s1 s2 s) (0 : Int)) fun _ =>
some true))
noncomputable def tree_alike_1 (x : List UInt8) (x1 : List UInt8) (y_ : List UInt8) (y_1 : List UInt8) : Option (Bool) :=
(cond (x == y_)
(Option.bind (bytes_Equal x1 y_1) fun r =>
some r)
(some false))
noncomputable def slices_EqualFunc_Attr_l1 (s1 : List TApiAttr) (s2 : List TApiAttr) (x : Int) : Option (Sum Int (Sum Unit Bool)) :=
(cond (decide (x < (s1.length : Int)))
(Option.bind (idx s1 x) fun x1 =>
(Option.bind (idx s2 x) fun x2 =>
(Option.bind (tree_alike_1 x1.Name x1.Value x2.Name x2.Value) fun r =>
(cond (!r)
(some (.inr (.inr false)))
(some (.inl (IntKind.i64.wrap (x + 1))))))))
(some (.inr (.inl ()))))
noncomputable def slices_EqualFunc_Attr (s1 : List TApiAttr) (s2 : List TApiAttr) : Option (Bool) :=
(cond ((s1.length : Int) != (s2.length : Int))
(some false)
(bnd (loopO (fun s => slices_EqualFunc_Attr_l1 s1 s2 s) (0 : Int)) fun _ =>
some true))
noncomputable def tree_alike (a : Int) (a1 : Int) (a2 : Int) (a3 : Int) (a4 : Int) (a5 : Int) (a6 : List UInt8) (a7 : List UInt8) (a8 : Int) (a9 : List TApiAttr) (a10 : List TApiKid) (a11 : Int) (a12 : Int) (b : Int) (b1 : Int) (b2 : Int) (b3 : Int) (b4 : Int) (b5 : Int) (b6 : List UInt8) (b7 : List UInt8) (b8 : Int) (b9 : List TApiAttr) (b10 : List TApiKid) (b11 : Int) (b12 : Int) : Option (Bool) :=
(bnd ((cond (a != b)
(some (.inl true))
(cond (a1 != b1)
(some (.inl true))
(cond (a2 != b2)
(some (.inl true))
(cond (a3 != b3)
(some (.inl true))
(cond (a4 != b4)
(some (.inl true))
(cond (a5 != b5)
(some (.inl true))
(cond (a7 != b7)
(some (.inl true))
(cond (a8 != b8)
(some (.inl true))
(cond (a11 != b11)
(some (.inl true))
(some (.inl (a12 != b12)))))))))))) : Option (Sum Bool Bool)) fun x =>
(cond x
(some false)
(Option.bind (bytes_Equal a6 b6) fun r =>
(cond r
(Option.bind (slices_Equal_Kid a10 b10) fun r1 =>
(cond r1
(Option.bind (slices_EqualFunc_Attr a9 b9) fun r2 =>
some r2)
(some false)))
(some false)))))
noncomputable def slices_EqualFunc_Node_l1 (s1 : List TApiNode) (s2 : List TApiNode) (x : Int) : Option (Sum Int (Sum Unit Bool)) :=
(cond (decide (x < (s1.length : Int)))
(Option.bind (idx s1 x) fun x1 =>
(Option.bind (idx s2 x) fun x2 =>
(Option.bind (tree_alike x1.Kind x1.Mode x1.Uid x1.Gid x1.Time x1.Size x1.Data x1.Target x1.Dev x1.Attrs x1.Kids x1.Parent x1.Links x2.Kind x2.Mode x2.Uid x2.Gid x2.Time x2.Size x2.Data x2.Target x2.Dev x2.Attrs x2.Kids x2.Parent x2.Links) fun r =>
(cond (!r)
(some (.inr (.inr false)))
(some (.inl (IntKind.i64.wrap (x + 1))))))))
(some (.inr (.inl ()))))
noncomputable def slices_EqualFunc_Node (s1 : List TApiNode) (s2 : List TApiNode) : Option (Bool) :=
(cond ((s1.length : Int) != (s2.length : Int))
(some false)
(bnd (loopO (fun s => slices_EqualFunc_Node_l1 s1 s2 s) (0 : Int)) fun _ =>
some true))
noncomputable def tree_Same (a : List TApiNode) (b : List TApiNode) : Option (Bool) :=
(Option.bind (slices_EqualFunc_Node a b) fun r =>
some r)
noncomputable def tree_List (t : List TApiNode) : Option ((List TApiEntry) × Int) :=
(pnE (tree_lister_add 70 t ([] : List (Int × (List UInt8))) ([]) 0 ([] : List UInt8) 0) (fun r =>
(Option.bind (tree_Canon r.2.2) fun r1 =>
(cond (r1.2 != 0)
(some ([], 1))
(Option.bind (tree_Same r1.1 t) fun r2 =>
(cond (!r2)
(some ([], 1))
(some (r.2.2, 0)))))))
(fun thrown => (some ([], 1))))
noncomputable def model_New_l2 (x1 : TApiNode) (by_ : List (List UInt8 × Int)) (x2 : Int) : Option (Sum ((List (List UInt8 × Int)) × Int) (Sum ((List (List UInt8 × Int))) (Sum (Int × ((List TApiNode) × (List (List (List UInt8 × Int))))) (Sum (((List TApiNode) × (List (List (List UInt8 × Int))))) (((Unit) ⊕ ((List TApiNode) × (List (List (List UInt8 × Int))))) × Int))))) :=
(cond (decide (x2 < (x1.Kids.length : Int)))
(Option.bind (idx x1.Kids x2) fun x3 =>
some (.inl ((mput by_ x3.Name x3.Ino), (IntKind.i64.wrap (x2 + 1)))))
(some (.inr (.inl by_))))
noncomputable def model_New_l1 (r1 : ((List TApiNode)) × Int) (x : Int) (b : List TApiNode) (b1 : List (List (List UInt8 × Int))) : Option (Sum (Int × ((List TApiNode) × (List (List (List UInt8 × Int))))) (Sum (((List TApiNode) × (List (List (List UInt8 × Int))))) (((Unit) ⊕ ((List TApiNode) × (List (List (List UInt8 × Int))))) × Int))) :=
(cond (decide (x < (r1.1.length : Int)))
(Option.bind (idx r1.1 x) fun x1 =>
(bnd (loopO (fun s => model_New_l2 x1 s.1 s.2) ((([] : List (List UInt8 × Int)), 0) : (List (List UInt8 × Int)) × Int)) fun by_1 =>
(Option.bind (app b1 ([by_1])) fun z =>
some (.inl ((IntKind.i64.wrap (x + 1)), (b, z))))))
(some (.inr (.inl (b, b1)))))
noncomputable def model_New (t : List TApiNode) : Option (((Unit) ⊕ ((List TApiNode) × (List (List (List UInt8 × Int))))) × Int) :=
(Option.bind (tree_List t) fun r =>
(cond (r.2 != 0)
(some ((.inl ()), 1))
(Option.bind (tree_Canon r.1) fun r1 =>
(bnd (loopO (fun s => model_New_l1 r1 s.1 s.2.1 s.2.2) ((0, (r1.1, [])) : Int × ((List TApiNode) × (List (List (List UInt8 × Int)))))) fun j =>
some ((.inr (j.1, j.2)), 0)))))
noncomputable def law12_num (e : Int) : Option (Int) :=
some e
noncomputable def law12_made (l : List TApiEntry) : Option (((Unit) ⊕ ((List TApiNode) × (List (List (List UInt8 × Int))))) × ((List TApiNode)) × Bool) :=
(Option.bind (ref11_Much l) fun r =>
(cond r
(some ((.inl ()), [], false))
(Option.bind (ref11_Check l) fun r1 =>
(cond (r1.2 != 0)
(some ((.inl ()), [], false))
(Option.bind (ref11_Canon l) fun r2 =>
(Option.bind (model_New r2) fun r3 =>
(altE r3.1 (fun y_ => (Option.bind (law12_num r3.2) fun r4 =>
some ((.inl ()), r2, (r4 == 0))))
(fun y_1 => (Option.bind (law12_num r3.2) fun r5 =>
some ((.inr (y_1.1, y_1.2)), r2, (r5 == 0)))))))))))
noncomputable def law12_fails (l : List TApiEntry) : Option (Bool) :=
(Option.bind (ref11_Much l) fun r =>
(cond r
(some false)
(Option.bind (ref11_Check l) fun r1 =>
some (r1.2 == 0))))
noncomputable def model_fail (e : Int) : Option (Sum Int (Unit)) :=
some (.inl e)
noncomputable def model_Model_node (m : Unit) (ino : Int) : Option (Sum Int (Unit)) :=
some (.inl 5)
noncomputable def model_Model_Walk (m : Unit) (from_ : Int) (path : List UInt8) (follow : Bool) : Option (Int × Int) :=
some (0, 5)
noncomputable def model_Model_of (m : Unit) (ino : Int) (kind : Int) : Option (Sum Int (Unit)) :=
some (.inl 5)
noncomputable def model_Model_Read (m : Unit) (ino : Int) (off : Int) (n : Int) : Option ((List UInt8) × Int) :=
some ([], 5)
noncomputable def model_Model_node_2 (m : TModelModel) (ino : Int) : Option (Sum Int (TApiNode)) :=
(cond (decide (ino < 0))
(some (.inl 9))
(cond (decide (ino ≥ (m.f_nodes.length : Int)))
(some (.inl 9))
(Option.bind (idx m.f_nodes ino) fun x =>
some (.inr x))))
noncomputable def internal_stringslite_Cut (s_ : List UInt8) : Option ((List UInt8) × (List UInt8) × Bool) :=
(Option.bind (internal_stringslite_Index s_) fun r =>
(cond (decide (r ≥ 0))
(Option.bind (slc s_ 0 r) fun y_ =>
(Option.bind (slc s_ (IntKind.i64.wrap (r + 1)) (s_.length : Int)) fun y_1 =>
some (y_, y_1, true)))
(some (s_, ([] : List UInt8), false))))
noncomputable def strings_Cut (s_ : List UInt8) : Option ((List UInt8) × (List UInt8) × Bool) :=
(Option.bind (internal_stringslite_Cut s_) fun r =>
some (r.1, r.2.1, r.2.2))
noncomputable def model_split (path : List UInt8) : Option (Sum Int ((List (List UInt8)))) :=
(Option.bind (name_Split path) fun r =>
(cond (r.2 != 0)
(some (.inl r.2))
(some (.inr r.1))))
noncomputable def internal_stringslite_HasPrefix (s_ : List UInt8) (prefix_ : List UInt8) : Option (Bool) :=
(cond (decide ((s_.length : Int) ≥ (prefix_.length : Int)))
(Option.bind (slc s_ 0 (prefix_.length : Int)) fun y_ =>
some (y_ == prefix_))
(some false))
noncomputable def strings_HasPrefix (s_ : List UInt8) (prefix_ : List UInt8) : Option (Bool) :=
(Option.bind (internal_stringslite_HasPrefix s_ prefix_) fun r =>
some r)
noncomputable def name_Absolute (path : List UInt8) : Option (Bool) :=
(Option.bind (strings_HasPrefix path ([47] : List UInt8)) fun r =>
some r)
noncomputable def model_Model_of_2 (m : TModelModel) (ino : Int) (kind : Int) : Option (Sum Int (TApiNode)) :=
(pnE (model_Model_node_2 m ino) (fun r =>
(cond (r.Kind != kind)
(some (.inl 8))
(some (.inr r))))
(fun thrown => (some (.inl thrown))))
noncomputable def model_Model_look (m : TModelModel) (dir : Int) (s_ : List UInt8) : Option (Sum Int (Int)) :=
(pnE (model_Model_of_2 m dir 2) (fun r =>
(cond (s_ == ([46] : List UInt8))
(some (.inr dir))
(cond (s_ == ([46, 46] : List UInt8))
(some (.inr r.Parent))
(Option.bind (name_Valid s_) fun r1 =>
(cond (!r1)
(some (.inl 6))
(Option.bind (idx m.f_kids dir) fun x =>
(cond (!(mget x s_).isSome)
(some (.inl 4))
(some (.inr ((mget x s_).getD 0))))))))))
(fun thrown => (some (.inl thrown))))
noncomputable def slices_Concat_string_l1 (slices : List (List (List UInt8))) (size : Int) (x : Int) : Option (Sum (Int × Int) (Sum Int ((List (List UInt8))))) :=
(cond (decide (x < (slices.length : Int)))
(Option.bind (idx slices x) fun x1 =>
(cond (decide ((IntKind.i64.wrap (size + (x1.length : Int))) < 0))
none
(some (.inl ((IntKind.i64.wrap (size + (x1.length : Int))), (IntKind.i64.wrap (x + 1)))))))
(some (.inr (.inl size))))
noncomputable def slices_Concat_string_l2 (slices : List (List (List UInt8))) (newslice : List (List UInt8)) (x2 : Int) : Option (Sum ((List (List UInt8)) × Int) (Sum ((List (List UInt8))) ((List (List UInt8))))) :=
(cond (decide (x2 < (slices.length : Int)))
(Option.bind (idx slices x2) fun x3 =>
(Option.bind (app newslice x3) fun z =>
some (.inl (z, (IntKind.i64.wrap (x2 + 1))))))
(some (.inr (.inl newslice))))
noncomputable def slices_Concat_string (slices : List (List (List UInt8))) : Option ((List (List UInt8))) :=
(bnd (loopO (fun s => slices_Concat_string_l1 slices s.1 s.2) ((0, 0) : Int × Int)) fun size1 =>
(Option.bind (slices_Grow_string () size1) fun r =>
(bnd (loopO (fun s => slices_Concat_string_l2 slices s.1 s.2) ((r, 0) : (List (List UInt8)) × Int)) fun newslice1 =>
some newslice1)))
noncomputable def model_Model_Walk_2_l1 (m : TModelModel) (follow : Bool) (left : List (List UInt8)) (at_1 : Int) (links : Int) : Option (Sum ((List (List UInt8)) × Int × Int) (Sum Int (Int × Int))) :=
(cond (decide ((left.length : Int) > 0))
(Option.bind (idx left 0) fun x =>
(pnE (model_Model_look m at_1 x) (fun r4 =>
(Option.bind (slc left 1 (left.length : Int)) fun y_ =>
(pnE (model_Model_node_2 m r4) (fun r5 =>
(bnd ((cond (r5.Kind != 3)
(some (.inl true))
(cond ((y_.length : Int) == 0)
(some (.inl (!follow)))
(some (.inl false)))) : Option (Sum Bool (Sum ((List (List UInt8)) × Int × Int) (Sum Int (Int × Int))))) fun x1 =>
(cond x1
(some (.inl (y_, r4, links)))
(cond (decide ((IntKind.i64.wrap (links + 1)) > 40))
(some (.inr (.inr (0, 120))))
(pnE (model_split r5.Target) (fun r6 =>
(Option.bind (slices_Concat_string ([r6, y_] : List (List (List UInt8)))) fun r7 =>
(cond (decide ((r7.length : Int) > 256))
(some (.inr (.inr (0, 3))))
(Option.bind (name_Absolute r5.Target) fun r8 =>
(cond r8
(some (.inl (r7, 0, (IntKind.i64.wrap (links + 1)))))
(some (.inl (r7, at_1, (IntKind.i64.wrap (links + 1))))))))))
(fun thrown5 => (some (.inr (.inr (0, thrown5))))))))))
(fun thrown4 => (some (.inr (.inr (0, thrown4))))))))
(fun thrown3 => (some (.inr (.inr (0, thrown3)))))))
(some (.inr (.inl at_1))))
noncomputable def model_Model_Walk_2 (m : TModelModel) (from_ : Int) (path : List UInt8) (follow : Bool) : Option (Int × Int) :=
(pnE (model_Model_node_2 m from_) (fun r =>
(pnE (model_split path) (fun r1 =>
(Option.bind (name_Absolute path) fun r2 =>
(bnd ((cond r2
(some (.inl 0))
(some (.inl from_))) : Option (Sum Int (Int × Int))) fun at_ =>
(pnE (model_Model_of_2 m at_ 2) (fun r3 =>
(bnd (loopO (fun s => model_Model_Walk_2_l1 m follow s.1 s.2.1 s.2.2) ((r1, at_, 0) : (List (List UInt8)) × Int × Int)) fun at_2 =>
some (at_2, 0)))
(fun thrown2 => (some (0, thrown2)))))))
(fun thrown1 => (some (0, thrown1)))))
(fun thrown => (some (0, thrown))))
noncomputable def model_Model_Read_2 (m : TModelModel) (ino : Int) (off : Int) (n : Int) : Option ((List UInt8) × Int) :=
(pnE (model_Model_of_2 m ino 1) (fun r =>
(bnd ((cond (decide (off < 0))
(some (.inl true))
(some (.inl (decide (n < 0))))) : Option (Sum Bool ((List UInt8) × Int))) fun x =>
(cond x
(some ([], 1))
(cond (decide (n > 1048576))
(some ([], 2))
(cond (decide (off ≥ r.Size))
(some ([], 0))
(Option.bind (mkz 1 (0 : UInt8) (if (IntKind.i64.wrap (r.Size - off)) < n then (IntKind.i64.wrap (r.Size - off)) else n)) fun made =>
(cond (decide (off < (r.Data.length : Int)))
(Option.bind (slc r.Data off (r.Data.length : Int)) fun y_ =>
some ((cpy made y_), 0))
(some (made, 0)))))))))
(fun thrown => (some ([], thrown))))
noncomputable def law12_live : Option (Bool) :=
(Option.bind (ref11_Canon ([({ Path := ([97] : List UInt8), Kind := 2, Mode := 0, Uid := 0, Gid := 0, Time := 0, Size := 0, Data := [], Target := ([] : List UInt8), Dev := 0, Attrs := [] } : TApiEntry), ({ Path := ([97, 47, 102] : List UInt8), Kind := 1, Mode := 0, Uid := 0, Gid := 0, Time := 0, Size := 4, Data := ([(120 : UInt8), (121 : UInt8)] : List UInt8), Target := ([] : List UInt8), Dev := 0, Attrs := [] } : TApiEntry), ({ Path := ([108] : List UInt8), Kind := 3, Mode := 0, Uid := 0, Gid := 0, Time := 0, Size := 0, Data := [], Target := ([97] : List UInt8), Dev := 0, Attrs := [] } : TApiEntry)] : List TApiEntry)) fun r =>
(Option.bind (model_New r) fun r1 =>
(altE r1.1 (fun y_ => (bnd ((Option.bind (law12_num r1.2) fun r2 =>
(cond (r2 != 0)
(some (.inl true))
(some (.inl true)))) : Option (Sum Bool Bool)) fun x =>
(cond x
(some false)
(Option.bind (model_Model_Walk () 0 ([108, 47, 102] : List UInt8) true) fun r3 =>
(Option.bind (model_Model_Read () r3.1 1 9) fun r4 =>
(Option.bind (law12_num r3.2) fun r5 =>
(Option.bind (law12_num r4.2) fun r6 =>
(cond ((IntKind.i64.wrap (r5 + r6)) == 0)
(cond (r3.1 == 2)
(some (r4.1 == ([121, 0, 0] : List UInt8)))
(some false))
(some false)))))))))
(fun y_1 => (bnd ((Option.bind (law12_num r1.2) fun r7 =>
(cond (r7 != 0)
(some (.inl true))
(some (.inl false)))) : Option (Sum Bool Bool)) fun x1 =>
(cond x1
(some false)
(Option.bind (model_Model_Walk_2 ({ f_nodes := y_1.1, f_kids := y_1.2 } : TModelModel) 0 ([108, 47, 102] : List UInt8) true) fun r8 =>
(Option.bind (model_Model_Read_2 ({ f_nodes := y_1.1, f_kids := y_1.2 } : TModelModel) r8.1 1 9) fun r9 =>
(Option.bind (law12_num r8.2) fun r10 =>
(Option.bind (law12_num r9.2) fun r11 =>
(cond ((IntKind.i64.wrap (r10 + r11)) == 0)
(cond (r8.1 == 2)
(some (r9.1 == ([121, 0, 0] : List UInt8)))
(some false))
(some false))))))))))))
noncomputable def model_Model_Readdir (m : Unit) (ino : Int) (cursor : Int) (n : Int) : Option ((List TApiKid) × Int × Int) :=
some ([], 0, 5)
noncomputable def model_Model_look_2 (m : Unit) (dir : Int) (s_ : List UInt8) : Option (Sum Int (Unit)) :=
some (.inl 5)
noncomputable def model_Model_Lookup (m : Unit) (dir : Int) (name : List UInt8) : Option (Int × Int) :=
some (0, 5)
noncomputable def slices_Clone_Kid (s_ : List TApiKid) : Option ((List TApiKid)) :=
(cond ((s_).isEmpty)
(fork (some ([])) (Option.bind (app ([] : List TApiKid) s_) fun z =>
some z))
(Option.bind (app ([] : List TApiKid) s_) fun z1 =>
some z1))
noncomputable def model_Model_Readdir_2 (m : TModelModel) (ino : Int) (cursor : Int) (n : Int) : Option ((List TApiKid) × Int × Int) :=
(pnE (model_Model_of_2 m ino 2) (fun r =>
(bnd ((cond (decide (cursor < 0))
(some (.inl true))
(some (.inl (decide (n < 0))))) : Option (Sum Bool ((List TApiKid) × Int × Int))) fun x =>
(cond x
(some ([], 0, 1))
(cond (decide (cursor ≥ (r.Kids.length : Int)))
(some ([], cursor, 0))
(Option.bind (slc r.Kids cursor (IntKind.i64.wrap (cursor + (if (IntKind.i64.wrap ((r.Kids.length : Int) - cursor)) < n then (IntKind.i64.wrap ((r.Kids.length : Int) - cursor)) else n)))) fun y_ =>
(Option.bind (slices_Clone_Kid y_) fun r1 =>
some (r1, (IntKind.i64.wrap (cursor + (if (IntKind.i64.wrap ((r.Kids.length : Int) - cursor)) < n then (IntKind.i64.wrap ((r.Kids.length : Int) - cursor)) else n))), 0)))))))
(fun thrown => (some ([], 0, thrown))))
noncomputable def model_Model_Lookup_2 (m : TModelModel) (dir : Int) (name : List UInt8) : Option (Int × Int) :=
(pnE (model_Model_look m dir name) (fun r =>
(some (r, 0)))
(fun thrown => (some (0, thrown))))
noncomputable def law12_ModelParts_l2 (ino : Int) (r12 : (List TApiKid) × Int × Int) (r13 : (List TApiKid) × Int × Int) (i1 : Int) (j : Int) : Option (Sum (Int × Int) (Sum Int (Sum (Int × Int) (Sum Int Bool)))) :=
(cond (decide (j < (r13.1.length : Int)))
(bnd ((cond (decide (i1 ≥ (r12.1.length : Int)))
(some (.inl true))
(fork (Option.bind (idx r13.1 j) fun x7 =>
(fork (Option.bind (idx r13.1 j) fun x8 =>
(Option.bind (idx r12.1 i1) fun x9 =>
(Option.bind (idx r12.1 i1) fun x10 =>
some (.inl (!((x8.Name == x10.Name) && ((x8.Ino == x10.Ino) && true)))))))
(Option.bind (idx r12.1 i1) fun x8 =>
(fork (Option.bind (idx r13.1 j) fun x9 =>
(Option.bind (idx r12.1 i1) fun x10 =>
some (.inl (!((x9.Name == x10.Name) && ((x9.Ino == x10.Ino) && true))))))
(Option.bind (idx r12.1 i1) fun x9 =>
(Option.bind (idx r13.1 j) fun x10 =>
some (.inl (!((x10.Name == x9.Name) && ((x10.Ino == x9.Ino) && true))))))))))
(Option.bind (idx r12.1 i1) fun x7 =>
(fork (Option.bind (idx r13.1 j) fun x8 =>
(fork (Option.bind (idx r13.1 j) fun x9 =>
(Option.bind (idx r12.1 i1) fun x10 =>
some (.inl (!((x9.Name == x10.Name) && ((x9.Ino == x10.Ino) && true))))))
(Option.bind (idx r12.1 i1) fun x9 =>
(Option.bind (idx r13.1 j) fun x10 =>
some (.inl (!((x10.Name == x9.Name) && ((x10.Ino == x9.Ino) && true))))))))
(Option.bind (idx r12.1 i1) fun x8 =>
(Option.bind (idx r13.1 j) fun x9 =>
(Option.bind (idx r13.1 j) fun x10 =>
some (.inl (!((x10.Name == x8.Name) && ((x10.Ino == x8.Ino) && true))))))))))) : Option (Sum Bool (Sum (Int × Int) (Sum Int (Sum (Int × Int) (Sum Int Bool)))))) fun x11 =>
(cond x11
(some (.inr (.inr (.inr (.inr false)))))
(Option.bind (idx r13.1 j) fun x12 =>
(Option.bind (idx r13.1 j) fun x13 =>
(Option.bind (model_Model_Lookup () ino x13.Name) fun r15 =>
(Option.bind (law12_num r15.2) fun r16 =>
(cond (r16 != 0)
(some (.inr (.inr (.inr (.inr false)))))
(Option.bind (idx r13.1 j) fun x14 =>
(Option.bind (idx r13.1 j) fun x15 =>
(cond (r15.1 != x15.Ino)
(some (.inr (.inr (.inr (.inr false)))))
(some (.inl ((IntKind.i64.wrap (i1 + 1)), (IntKind.i64.wrap (j + 1)))))))))))))))
(some (.inr (.inl i1))))
noncomputable def law12_ModelParts_l1 (ino : Int) (n : UInt8) (r12 : (List TApiKid) × Int × Int) (cursor : Int) (i : Int) : Option (Sum (Int × Int) (Sum Int Bool)) :=
(cond (decide (i < (r12.1.length : Int)))
(Option.bind (model_Model_Readdir () ino cursor (IntKind.i64.wrap (1 + ((n % (5 : UInt8)).toNat : Int)))) fun r13 =>
(bnd ((Option.bind (law12_num r13.2.2) fun r14 =>
(cond (r14 != 0)
(some (.inl true))
(cond ((r13.1.length : Int) == 0)
(some (.inl true))
(some (.inl (r13.2.1 != (IntKind.i64.wrap (cursor + (r13.1.length : Int))))))))) : Option (Sum Bool (Sum (Int × Int) (Sum Int Bool)))) fun x6 =>
(cond x6
(some (.inr (.inr false)))
(bnd (loopO (fun s => law12_ModelParts_l2 ino r12 r13 s.1 s.2) ((i, 0) : Int × Int)) fun i2 =>
some (.inl (r13.2.1, i2))))))
(some (.inr (.inl cursor))))
noncomputable def law12_ModelParts_l4 (ino : Int) (y_1 : (List TApiNode) × (List (List (List UInt8 × Int)))) (r32 : (List TApiKid) × Int × Int) (r33 : (List TApiKid) × Int × Int) (i4 : Int) (j1 : Int) : Option (Sum (Int × Int) (Sum Int (Sum (Int × Int) (Sum Int Bool)))) :=
(cond (decide (j1 < (r33.1.length : Int)))
(bnd ((cond (decide (i4 ≥ (r32.1.length : Int)))
(some (.inl true))
(fork (Option.bind (idx r33.1 j1) fun x23 =>
(fork (Option.bind (idx r33.1 j1) fun x24 =>
(Option.bind (idx r32.1 i4) fun x25 =>
(Option.bind (idx r32.1 i4) fun x26 =>
some (.inl (!((x24.Name == x26.Name) && ((x24.Ino == x26.Ino) && true)))))))
(Option.bind (idx r32.1 i4) fun x24 =>
(fork (Option.bind (idx r33.1 j1) fun x25 =>
(Option.bind (idx r32.1 i4) fun x26 =>
some (.inl (!((x25.Name == x26.Name) && ((x25.Ino == x26.Ino) && true))))))
(Option.bind (idx r32.1 i4) fun x25 =>
(Option.bind (idx r33.1 j1) fun x26 =>
some (.inl (!((x26.Name == x25.Name) && ((x26.Ino == x25.Ino) && true))))))))))
(Option.bind (idx r32.1 i4) fun x23 =>
(fork (Option.bind (idx r33.1 j1) fun x24 =>
(fork (Option.bind (idx r33.1 j1) fun x25 =>
(Option.bind (idx r32.1 i4) fun x26 =>
some (.inl (!((x25.Name == x26.Name) && ((x25.Ino == x26.Ino) && true))))))
(Option.bind (idx r32.1 i4) fun x25 =>
(Option.bind (idx r33.1 j1) fun x26 =>
some (.inl (!((x26.Name == x25.Name) && ((x26.Ino == x25.Ino) && true))))))))
(Option.bind (idx r32.1 i4) fun x24 =>
(Option.bind (idx r33.1 j1) fun x25 =>
(Option.bind (idx r33.1 j1) fun x26 =>
some (.inl (!((x26.Name == x24.Name) && ((x26.Ino == x24.Ino) && true))))))))))) : Option (Sum Bool (Sum (Int × Int) (Sum Int (Sum (Int × Int) (Sum Int Bool)))))) fun x27 =>
(cond x27
(some (.inr (.inr (.inr (.inr false)))))
(Option.bind (idx r33.1 j1) fun x28 =>
(Option.bind (idx r33.1 j1) fun x29 =>
(Option.bind (model_Model_Lookup_2 ({ f_nodes := y_1.1, f_kids := y_1.2 } : TModelModel) ino x29.Name) fun r35 =>
(Option.bind (law12_num r35.2) fun r36 =>
(cond (r36 != 0)
(some (.inr (.inr (.inr (.inr false)))))
(Option.bind (idx r33.1 j1) fun x30 =>
(Option.bind (idx r33.1 j1) fun x31 =>
(cond (r35.1 != x31.Ino)
(some (.inr (.inr (.inr (.inr false)))))
(some (.inl ((IntKind.i64.wrap (i4 + 1)), (IntKind.i64.wrap (j1 + 1)))))))))))))))
(some (.inr (.inl i4))))
noncomputable def law12_ModelParts_l3 (ino : Int) (n : UInt8) (y_1 : (List TApiNode) × (List (List (List UInt8 × Int)))) (r32 : (List TApiKid) × Int × Int) (cursor2 : Int) (i3 : Int) : Option (Sum (Int × Int) (Sum Int Bool)) :=
(cond (decide (i3 < (r32.1.length : Int)))
(Option.bind (model_Model_Readdir_2 ({ f_nodes := y_1.1, f_kids := y_1.2 } : TModelModel) ino cursor2 (IntKind.i64.wrap (1 + ((n % (5 : UInt8)).toNat : Int)))) fun r33 =>
(bnd ((Option.bind (law12_num r33.2.2) fun r34 =>
(cond (r34 != 0)
(some (.inl true))
(cond ((r33.1.length : Int) == 0)
(some (.inl true))
(some (.inl (r33.2.1 != (IntKind.i64.wrap (cursor2 + (r33.1.length : Int))))))))) : Option (Sum Bool (Sum (Int × Int) (Sum Int Bool)))) fun x22 =>
(cond x22
(some (.inr (.inr false)))
(bnd (loopO (fun s => law12_ModelParts_l4 ino y_1 r32 r33 s.1 s.2) ((i3, 0) : Int × Int)) fun i5 =>
some (.inl (r33.2.1, i5))))))
(some (.inr (.inl cursor2))))
noncomputable def law12_ModelParts (l : List TApiEntry) (ino : Int) (off : UInt16) (n : UInt8) (k : UInt8) : Option (Bool) :=
(Option.bind (law12_made l) fun r =>
(altE r.1 (fun y_ => (bnd ((cond (!r.2.2)
(some (.inl true))
(some (.inl true))) : Option (Sum Bool Bool)) fun x =>
(cond x
(bnd ((Option.bind (law12_fails l) fun r1 =>
(cond (!r1)
(Option.bind law12_live fun r2 =>
some (.inl r2))
(some (.inl false)))) : Option (Sum Bool Bool)) fun x1 =>
some x1)
(bnd ((cond (decide (ino < 0))
(some (.inl true))
(some (.inl (decide (ino ≥ (r.2.1.length : Int)))))) : Option (Sum Bool Bool)) fun x2 =>
(cond x2
(Option.bind law12_live fun r3 =>
some r3)
(Option.bind (idx r.2.1 ino) fun x3 =>
(cond (x3.Kind == 1)
(Option.bind (model_Model_Read () ino (off.toNat : Int) (n.toNat : Int)) fun r4 =>
(Option.bind (model_Model_Read () ino (IntKind.i64.wrap ((off.toNat : Int) + (n.toNat : Int))) (k.toNat : Int)) fun r5 =>
(Option.bind (model_Model_Read () ino (off.toNat : Int) (IntKind.i64.wrap ((n.toNat : Int) + (k.toNat : Int)))) fun r6 =>
(bnd ((Option.bind (law12_num r4.2) fun r7 =>
(Option.bind (law12_num r5.2) fun r8 =>
(Option.bind (law12_num r6.2) fun r9 =>
(cond ((IntKind.i64.wrap ((IntKind.i64.wrap (r7 + r8)) + r9)) == 0)
(Option.bind (cat r4.1 r5.1) fun z =>
(cond (z == r6.1)
(Option.bind law12_live fun r10 =>
some (.inl r10))
(some (.inl false))))
(some (.inl false)))))) : Option (Sum Bool Bool)) fun x4 =>
some x4))))
(Option.bind (idx r.2.1 ino) fun x5 =>
(cond (x5.Kind != 2)
(Option.bind law12_live fun r11 =>
some r11)
(Option.bind (model_Model_Readdir () ino 0 1000) fun r12 =>
(bnd (loopO (fun s => law12_ModelParts_l1 ino n r12 s.1 s.2) ((0, 0) : Int × Int)) fun cursor1 =>
(Option.bind (model_Model_Readdir () ino cursor1 9) fun r17 =>
(Option.bind (law12_num r12.2.2) fun r18 =>
(Option.bind (law12_num r17.2.2) fun r19 =>
(cond ((IntKind.i64.wrap (r18 + r19)) == 0)
(cond ((r17.1.length : Int) == 0)
(Option.bind law12_live fun r20 =>
some r20)
(some false))
(some false))))))))))))))))
(fun y_1 => (bnd ((cond (!r.2.2)
(some (.inl true))
(some (.inl false))) : Option (Sum Bool Bool)) fun x16 =>
(cond x16
(bnd ((Option.bind (law12_fails l) fun r21 =>
(cond (!r21)
(Option.bind law12_live fun r22 =>
some (.inl r22))
(some (.inl false)))) : Option (Sum Bool Bool)) fun x17 =>
some x17)
(bnd ((cond (decide (ino < 0))
(some (.inl true))
(some (.inl (decide (ino ≥ (r.2.1.length : Int)))))) : Option (Sum Bool Bool)) fun x18 =>
(cond x18
(Option.bind law12_live fun r23 =>
some r23)
(Option.bind (idx r.2.1 ino) fun x19 =>
(cond (x19.Kind == 1)
(Option.bind (model_Model_Read_2 ({ f_nodes := y_1.1, f_kids := y_1.2 } : TModelModel) ino (off.toNat : Int) (n.toNat : Int)) fun r24 =>
(Option.bind (model_Model_Read_2 ({ f_nodes := y_1.1, f_kids := y_1.2 } : TModelModel) ino (IntKind.i64.wrap ((off.toNat : Int) + (n.toNat : Int))) (k.toNat : Int)) fun r25 =>
(Option.bind (model_Model_Read_2 ({ f_nodes := y_1.1, f_kids := y_1.2 } : TModelModel) ino (off.toNat : Int) (IntKind.i64.wrap ((n.toNat : Int) + (k.toNat : Int)))) fun r26 =>
(bnd ((Option.bind (law12_num r24.2) fun r27 =>
(Option.bind (law12_num r25.2) fun r28 =>
(Option.bind (law12_num r26.2) fun r29 =>
(cond ((IntKind.i64.wrap ((IntKind.i64.wrap (r27 + r28)) + r29)) == 0)
(Option.bind (cat r24.1 r25.1) fun z1 =>
(cond (z1 == r26.1)
(Option.bind law12_live fun r30 =>
some (.inl r30))
(some (.inl false))))
(some (.inl false)))))) : Option (Sum Bool Bool)) fun x20 =>
some x20))))
(Option.bind (idx r.2.1 ino) fun x21 =>
(cond (x21.Kind != 2)
(Option.bind law12_live fun r31 =>
some r31)
(Option.bind (model_Model_Readdir_2 ({ f_nodes := y_1.1, f_kids := y_1.2 } : TModelModel) ino 0 1000) fun r32 =>
(bnd (loopO (fun s => law12_ModelParts_l3 ino n y_1 r32 s.1 s.2) ((0, 0) : Int × Int)) fun cursor3 =>
(Option.bind (model_Model_Readdir_2 ({ f_nodes := y_1.1, f_kids := y_1.2 } : TModelModel) ino cursor3 9) fun r37 =>
(Option.bind (law12_num r32.2.2) fun r38 =>
(Option.bind (law12_num r37.2.2) fun r39 =>
(cond ((IntKind.i64.wrap (r38 + r39)) == 0)
(cond ((r37.1.length : Int) == 0)
(Option.bind law12_live fun r40 =>
some r40)
(some false))
(some false))))))))))))))))))
end Go.Proofs.YtkmhidggbnbaaaaGreatDoor.F
namespace Go.Proofs.YtkmhidggbnbaaaaGreatDoor.F
open Go Go.Proofs
def renAttr : Go.Shelf.Ren := ⟨fun | 6 => 92 | 15 => 108 | 14 => 114 | 28 => 136 | 29 => 137 | 20 => 139 | 21 => 140 | 22 => 141 | 23 => 142 | 24 => 143 | 25 => 144 | 26 => 145 | 27 => 146 | 46 => 160 | 47 => 156 | 48 => 157 | 49 => 161 | 50 => 162 | 57 => 169 | n => n, fun | 22 => 69 | 24 => 90 | 25 => 163 | 3 => 3 | 39 => 178 | 0 => 0 | 53 => 198 | 55 => 200 | 4 => 4 | 46 => 192 | 45 => 191 | 50 => 113 | 5 => 5 | 9 => 9 | 66 => 210 | 70 => 214 | 76 => 219 | 77 => 50 | n => n, fun n => n⟩
theorem laysAttr : Go.Proofs.SlLaysF0.n6 Tryz.prog renAttr where
  mixed := by kernel_rfl
  f6 := ⟨ "slices.SortFunc[[]portmanteau/api.Attr,portmanteau/api.Attr]", by decide, Tryz.func92.trans (congrArg some (by kernel_rfl))⟩
  f14 := ⟨ "slices.pdqsortCmpFunc[portmanteau/api.Attr]", by decide, Tryz.func114.trans (congrArg some (by kernel_rfl))⟩
  f15 := Tryz.func108.trans (congrArg some (by kernel_rfl))
  f20 := ⟨ "slices.insertionSortCmpFunc[portmanteau/api.Attr]", by decide, Tryz.func139.trans (congrArg some (by kernel_rfl))⟩
  f21 := ⟨ "slices.heapSortCmpFunc[portmanteau/api.Attr]", by decide, Tryz.func140.trans (congrArg some (by kernel_rfl))⟩
  f22 := ⟨ "slices.breakPatternsCmpFunc[portmanteau/api.Attr]", by decide, Tryz.func141.trans (congrArg some (by kernel_rfl))⟩
  f23 := ⟨ "slices.choosePivotCmpFunc[portmanteau/api.Attr]", by decide, Tryz.func142.trans (congrArg some (by kernel_rfl))⟩
  f24 := ⟨ "slices.reverseRangeCmpFunc[portmanteau/api.Attr]", by decide, Tryz.func143.trans (congrArg some (by kernel_rfl))⟩
  f25 := ⟨ "slices.partialInsertionSortCmpFunc[portmanteau/api.Attr]", by decide, Tryz.func144.trans (congrArg some (by kernel_rfl))⟩
  f26 := ⟨ "slices.partitionEqualCmpFunc[portmanteau/api.Attr]", by decide, Tryz.func145.trans (congrArg some (by kernel_rfl))⟩
  f27 := ⟨ "slices.partitionCmpFunc[portmanteau/api.Attr]", by decide, Tryz.func146.trans (congrArg some (by kernel_rfl))⟩
  f28 := Tryz.func136.trans (congrArg some (by kernel_rfl))
  f29 := Tryz.func137.trans (congrArg some (by kernel_rfl))
  f46 := ⟨ "slices.siftDownCmpFunc[portmanteau/api.Attr]", by decide, Tryz.func160.trans (congrArg some (by kernel_rfl))⟩
  f47 := Tryz.func156.trans (congrArg some (by kernel_rfl))
  f48 := Tryz.func157.trans (congrArg some (by kernel_rfl))
  f49 := ⟨ "slices.medianAdjacentCmpFunc[portmanteau/api.Attr]", by decide, Tryz.func161.trans (congrArg some (by kernel_rfl))⟩
  f50 := ⟨ "slices.medianCmpFunc[portmanteau/api.Attr]", by decide, Tryz.func162.trans (congrArg some (by kernel_rfl))⟩
  f57 := ⟨ "slices.order2CmpFunc[portmanteau/api.Attr]", by decide, Tryz.func169.trans (congrArg some (by kernel_rfl))⟩
  t0 := Tryz.underlying0
  a0 := Tryz.isAgg0
  z0 := Tryz.sizeOf0
  v0 := Tryz.zeroValue0
  t3 := Tryz.underlying3
  a3 := Tryz.isAgg3
  z3 := Tryz.sizeOf3
  v3 := Tryz.zeroValue3
  t4 := Tryz.underlying4
  a4 := Tryz.isAgg4
  z4 := Tryz.sizeOf4
  v4 := Tryz.zeroValue4
  t5 := Tryz.underlying5
  a5 := Tryz.isAgg5
  z5 := Tryz.sizeOf5
  v5 := Tryz.zeroValue5
  t9 := Tryz.underlying9
  a9 := Tryz.isAgg9
  z9 := Tryz.sizeOf9
  v9 := Tryz.zeroValue9
  t22 := Tryz.underlying69
  a22 := Tryz.isAgg69
  z22 := Tryz.sizeOf69
  v22 := Tryz.zeroValue69
  t25 := Tryz.underlying163
  a25 := Tryz.isAgg163
  z25 := Tryz.sizeOf163
  v25 := Tryz.zeroValue163
  t39 := Tryz.underlying178
  a39 := Tryz.isAgg178
  z39 := Tryz.sizeOf178
  v39 := Tryz.zeroValue178
  t45 := Tryz.underlying191
  a45 := Tryz.isAgg191
  z45 := Tryz.sizeOf191
  v45 := Tryz.zeroValue191
  t46 := Tryz.underlying192
  a46 := Tryz.isAgg192
  z46 := Tryz.sizeOf192
  v46 := Tryz.zeroValue192
  t50 := Tryz.underlying113
  a50 := Tryz.isAgg113
  z50 := Tryz.sizeOf113
  v50 := Tryz.zeroValue113
  t53 := Tryz.underlying198
  a53 := Tryz.isAgg198
  z53 := Tryz.sizeOf198
  v53 := Tryz.zeroValue198
  t55 := Tryz.underlying200
  a55 := Tryz.isAgg200
  z55 := Tryz.sizeOf200
  v55 := Tryz.zeroValue200
  t66 := Tryz.underlying210
  a66 := Tryz.isAgg210
  z66 := Tryz.sizeOf210
  v66 := Tryz.zeroValue210
  t70 := Tryz.underlying214
  a70 := Tryz.isAgg214
  z70 := Tryz.sizeOf214
  v70 := Tryz.zeroValue214
  t76 := Tryz.underlying219
  a76 := Tryz.isAgg219
  z76 := Tryz.sizeOf219
  v76 := Tryz.zeroValue219
  t77 := Tryz.underlying50
  a77 := Tryz.isAgg50
  z77 := Tryz.sizeOf50
  v77 := Tryz.zeroValue50

def renNamed : Go.Shelf.Ren := ⟨fun | 6 => 85 | 15 => 108 | 14 => 107 | 28 => 136 | 29 => 137 | 20 => 128 | 21 => 129 | 22 => 130 | 23 => 131 | 24 => 132 | 25 => 133 | 26 => 134 | 27 => 135 | 46 => 155 | 47 => 156 | 48 => 157 | 49 => 158 | 50 => 159 | 57 => 168 | n => n, fun | 22 => 133 | 24 => 136 | 25 => 158 | 3 => 3 | 39 => 178 | 0 => 0 | 53 => 198 | 55 => 200 | 4 => 4 | 46 => 192 | 45 => 191 | 50 => 113 | 5 => 5 | 9 => 9 | 66 => 210 | 70 => 214 | 76 => 219 | 77 => 50 | n => n, fun n => n⟩
theorem laysNamed : Go.Proofs.SlLaysF0.n6 Tryz.prog renNamed where
  mixed := by kernel_rfl
  f6 := ⟨ "slices.SortFunc[[]portmanteau/tree.named,portmanteau/tree.named]", by decide, Tryz.func85.trans (congrArg some (by kernel_rfl))⟩
  f14 := ⟨ "slices.pdqsortCmpFunc[portmanteau/tree.named]", by decide, Tryz.func107.trans (congrArg some (by kernel_rfl))⟩
  f15 := Tryz.func108.trans (congrArg some (by kernel_rfl))
  f20 := ⟨ "slices.insertionSortCmpFunc[portmanteau/tree.named]", by decide, Tryz.func128.trans (congrArg some (by kernel_rfl))⟩
  f21 := ⟨ "slices.heapSortCmpFunc[portmanteau/tree.named]", by decide, Tryz.func129.trans (congrArg some (by kernel_rfl))⟩
  f22 := ⟨ "slices.breakPatternsCmpFunc[portmanteau/tree.named]", by decide, Tryz.func130.trans (congrArg some (by kernel_rfl))⟩
  f23 := ⟨ "slices.choosePivotCmpFunc[portmanteau/tree.named]", by decide, Tryz.func131.trans (congrArg some (by kernel_rfl))⟩
  f24 := ⟨ "slices.reverseRangeCmpFunc[portmanteau/tree.named]", by decide, Tryz.func132.trans (congrArg some (by kernel_rfl))⟩
  f25 := ⟨ "slices.partialInsertionSortCmpFunc[portmanteau/tree.named]", by decide, Tryz.func133.trans (congrArg some (by kernel_rfl))⟩
  f26 := ⟨ "slices.partitionEqualCmpFunc[portmanteau/tree.named]", by decide, Tryz.func134.trans (congrArg some (by kernel_rfl))⟩
  f27 := ⟨ "slices.partitionCmpFunc[portmanteau/tree.named]", by decide, Tryz.func135.trans (congrArg some (by kernel_rfl))⟩
  f28 := Tryz.func136.trans (congrArg some (by kernel_rfl))
  f29 := Tryz.func137.trans (congrArg some (by kernel_rfl))
  f46 := ⟨ "slices.siftDownCmpFunc[portmanteau/tree.named]", by decide, Tryz.func155.trans (congrArg some (by kernel_rfl))⟩
  f47 := Tryz.func156.trans (congrArg some (by kernel_rfl))
  f48 := Tryz.func157.trans (congrArg some (by kernel_rfl))
  f49 := ⟨ "slices.medianAdjacentCmpFunc[portmanteau/tree.named]", by decide, Tryz.func158.trans (congrArg some (by kernel_rfl))⟩
  f50 := ⟨ "slices.medianCmpFunc[portmanteau/tree.named]", by decide, Tryz.func159.trans (congrArg some (by kernel_rfl))⟩
  f57 := ⟨ "slices.order2CmpFunc[portmanteau/tree.named]", by decide, Tryz.func168.trans (congrArg some (by kernel_rfl))⟩
  t0 := Tryz.underlying0
  a0 := Tryz.isAgg0
  z0 := Tryz.sizeOf0
  v0 := Tryz.zeroValue0
  t3 := Tryz.underlying3
  a3 := Tryz.isAgg3
  z3 := Tryz.sizeOf3
  v3 := Tryz.zeroValue3
  t4 := Tryz.underlying4
  a4 := Tryz.isAgg4
  z4 := Tryz.sizeOf4
  v4 := Tryz.zeroValue4
  t5 := Tryz.underlying5
  a5 := Tryz.isAgg5
  z5 := Tryz.sizeOf5
  v5 := Tryz.zeroValue5
  t9 := Tryz.underlying9
  a9 := Tryz.isAgg9
  z9 := Tryz.sizeOf9
  v9 := Tryz.zeroValue9
  t22 := Tryz.underlying133
  a22 := Tryz.isAgg133
  z22 := Tryz.sizeOf133
  v22 := Tryz.zeroValue133
  t25 := Tryz.underlying158
  a25 := Tryz.isAgg158
  z25 := Tryz.sizeOf158
  v25 := Tryz.zeroValue158
  t39 := Tryz.underlying178
  a39 := Tryz.isAgg178
  z39 := Tryz.sizeOf178
  v39 := Tryz.zeroValue178
  t45 := Tryz.underlying191
  a45 := Tryz.isAgg191
  z45 := Tryz.sizeOf191
  v45 := Tryz.zeroValue191
  t46 := Tryz.underlying192
  a46 := Tryz.isAgg192
  z46 := Tryz.sizeOf192
  v46 := Tryz.zeroValue192
  t50 := Tryz.underlying113
  a50 := Tryz.isAgg113
  z50 := Tryz.sizeOf113
  v50 := Tryz.zeroValue113
  t53 := Tryz.underlying198
  a53 := Tryz.isAgg198
  z53 := Tryz.sizeOf198
  v53 := Tryz.zeroValue198
  t55 := Tryz.underlying200
  a55 := Tryz.isAgg200
  z55 := Tryz.sizeOf200
  v55 := Tryz.zeroValue200
  t66 := Tryz.underlying210
  a66 := Tryz.isAgg210
  z66 := Tryz.sizeOf210
  v66 := Tryz.zeroValue210
  t70 := Tryz.underlying214
  a70 := Tryz.isAgg214
  z70 := Tryz.sizeOf214
  v70 := Tryz.zeroValue214
  t76 := Tryz.underlying219
  a76 := Tryz.isAgg219
  z76 := Tryz.sizeOf219
  v76 := Tryz.zeroValue219
  t77 := Tryz.underlying50
  a77 := Tryz.isAgg50
  z77 := Tryz.sizeOf50
  v77 := Tryz.zeroValue50

end Go.Proofs.YtkmhidggbnbaaaaGreatDoor.F
