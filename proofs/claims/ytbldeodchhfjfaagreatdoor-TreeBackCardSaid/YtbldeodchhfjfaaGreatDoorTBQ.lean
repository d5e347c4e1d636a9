/- Twins that the kernel can run: printed by equick.py. -/
import Derived.Test.YtbldeodchhfjfaaGreatDoorTBP
import Derived.Test.YtbldeodchhfjfaaGreatDoorE21
set_option linter.unusedVariables false
set_option linter.unusedSimpArgs false
namespace Go.Proofs.YtbldeodchhfjfaaGreatDoor.F
open Go Go.RowKit Go.Proofs.YtbldeodchhfjfaaGreatDoor.K Go.Proofs.YtbldeodchhfjfaaGreatDoor.K.E
noncomputable def tree_index_l1_q (l : List TApiEntry) (x : Int) (b : List TApiEntry) (b1 : List (List UInt8 × Int)) (b2 : List (List UInt8 × Int)) (b3 : List (List UInt8 × Int)) : Option (Sum (Int × ((List TApiEntry) × (List (List UInt8 × Int)) × (List (List UInt8 × Int)) × (List (List UInt8 × Int)))) (Sum (((List TApiEntry) × (List (List UInt8 × Int)) × (List (List UInt8 × Int)) × (List (List UInt8 × Int)))) (((List TApiEntry) × (List (List UInt8 × Int)) × (List (List UInt8 × Int)) × (List (List UInt8 × Int)))))) :=
(cond (decide (x < (l.length : Int)))
(Option.bind (idx l x) fun x1 =>
(bnd ((cond (!(mget b1 x1.Path).isSome)
(some (.inl (b, (mput b1 x1.Path x), b2, b3)))
(some (.inl (b, b1, b2, b3)))) : Option (Sum (((List TApiEntry) × (List (List UInt8 × Int)) × (List (List UInt8 × Int)) × (List (List UInt8 × Int)))) (Sum (Int × ((List TApiEntry) × (List (List UInt8 × Int)) × (List (List UInt8 × Int)) × (List (List UInt8 × Int)))) (Sum (((List TApiEntry) × (List (List UInt8 × Int)) × (List (List UInt8 × Int)) × (List (List UInt8 × Int)))) (((List TApiEntry) × (List (List UInt8 × Int)) × (List (List UInt8 × Int)) × (List (List UInt8 × Int)))))))) fun j =>
(cond (x1.Kind == 2)
(some (.inl ((IntKind.i64.wrap (x + 1)), (j.1, j.2.1, (mput j.2.2.1 x1.Path (IntKind.i64.wrap (((mget j.2.2.1 x1.Path).getD 0) + 1))), j.2.2.2))))
(cond (decide (x1.Kind ≥ 1))
(cond (decide (x1.Kind < 6))
(some (.inl ((IntKind.i64.wrap (x + 1)), (j.1, j.2.1, j.2.2.1, (mput j.2.2.2 x1.Path (IntKind.i64.wrap (((mget j.2.2.2 x1.Path).getD 0) + 1)))))))
(some (.inl ((IntKind.i64.wrap (x + 1)), (j.1, j.2.1, j.2.2.1, j.2.2.2)))))
(some (.inl ((IntKind.i64.wrap (x + 1)), (j.1, j.2.1, j.2.2.1, j.2.2.2))))))))
(some (.inr (.inl (b, b1, b2, b3)))))
theorem tree_index_l1_le (l : List TApiEntry) (x : Int) (b : List TApiEntry) (b1 : List (List UInt8 × Int)) (b2 : List (List UInt8 × Int)) (b3 : List (List UInt8 × Int)) : Tw (tree_index_l1_q l x b b1 b2 b3) (tree_index_l1 l x b b1 b2 b3) := by
  unfold tree_index_l1 tree_index_l1_q
  repeat (first | exact Tw.rfl _ | refine Tw.cond _ ?_ ?_ | refine Tw.bnd ?_ fun _ => ?_ | refine Tw.bind ?_ fun _ => ?_ | refine Tw.loop _ _ fun _ => ?_ | refine Tw.alt _ (fun _ => ?_) (fun _ => ?_) | refine Tw.dup _ ?_ | refine Tw.fork ?_ ?_ | refine Tw.map _ ?_)
noncomputable def tree_index_q (l : List TApiEntry) : Option (((List TApiEntry) × (List (List UInt8 × Int)) × (List (List UInt8 × Int)) × (List (List UInt8 × Int)))) :=
(bnd (loopF 60 (fun s => tree_index_l1_q l s.1 s.2.1 s.2.2.1 s.2.2.2.1 s.2.2.2.2) ((0, (l, ([] : List (List UInt8 × Int)), ([] : List (List UInt8 × Int)), ([] : List (List UInt8 × Int)))) : Int × ((List TApiEntry) × (List (List UInt8 × Int)) × (List (List UInt8 × Int)) × (List (List UInt8 × Int))))) fun j1 =>
some (j1.1, j1.2.1, j1.2.2.1, j1.2.2.2))
theorem tree_index_le (l : List TApiEntry) : Tw (tree_index_q l) (tree_index l) := by
  unfold tree_index tree_index_q
  repeat (first | exact Tw.rfl _ | apply tree_index_l1_le | refine Tw.cond _ ?_ ?_ | refine Tw.bnd ?_ fun _ => ?_ | refine Tw.bind ?_ fun _ => ?_ | refine Tw.loop _ _ fun _ => ?_ | refine Tw.alt _ (fun _ => ?_) (fun _ => ?_) | refine Tw.dup _ ?_ | refine Tw.fork ?_ ?_ | refine Tw.map _ ?_)
noncomputable def tree_between_q (n : Int) (low : Int) (high : Int) : Option (Bool) :=
(cond (decide (n ≥ low))
(some (decide (n ≤ high)))
(some false))
theorem tree_between_le (n : Int) (low : Int) (high : Int) : Tw (tree_between_q n low high) (tree_between n low high) := by
  unfold tree_between tree_between_q
  repeat (first | exact Tw.rfl _ | refine Tw.cond _ ?_ ?_ | refine Tw.bnd ?_ fun _ => ?_ | refine Tw.bind ?_ fun _ => ?_ | refine Tw.loop _ _ fun _ => ?_ | refine Tw.alt _ (fun _ => ?_) (fun _ => ?_) | refine Tw.dup _ ?_ | refine Tw.fork ?_ ?_ | refine Tw.map _ ?_)
noncomputable def strings_Count_q (s_ : List UInt8) : Option (Int) :=
(Option.bind (ctb s_ (47 : UInt8)) fun r =>
some r)
theorem strings_Count_le (s_ : List UInt8) : Tw (strings_Count_q s_) (strings_Count s_) := by
  unfold strings_Count strings_Count_q
  repeat (first | exact Tw.rfl _ | refine Tw.cond _ ?_ ?_ | refine Tw.bnd ?_ fun _ => ?_ | refine Tw.bind ?_ fun _ => ?_ | refine Tw.loop _ _ fun _ => ?_ | refine Tw.alt _ (fun _ => ?_) (fun _ => ?_) | refine Tw.dup _ ?_ | refine Tw.fork ?_ ?_ | refine Tw.map _ ?_)
noncomputable def internal_stringslite_IndexByte_q (s_ : List UInt8) (c : UInt8) : Option (Int) :=
(Option.bind (ixb s_ c) fun r =>
some r)
theorem internal_stringslite_IndexByte_le (s_ : List UInt8) (c : UInt8) : Tw (internal_stringslite_IndexByte_q s_ c) (internal_stringslite_IndexByte s_ c) := by
  unfold internal_stringslite_IndexByte internal_stringslite_IndexByte_q
  repeat (first | exact Tw.rfl _ | refine Tw.cond _ ?_ ?_ | refine Tw.bnd ?_ fun _ => ?_ | refine Tw.bind ?_ fun _ => ?_ | refine Tw.loop _ _ fun _ => ?_ | refine Tw.alt _ (fun _ => ?_) (fun _ => ?_) | refine Tw.dup _ ?_ | refine Tw.fork ?_ ?_ | refine Tw.map _ ?_)
noncomputable def internal_stringslite_Index_q (s_ : List UInt8) : Option (Int) :=
(cond (([47] : List UInt8) == s_)
(some 0)
(Option.bind (internal_stringslite_IndexByte_q s_ (47 : UInt8)) fun r =>
some r))
theorem internal_stringslite_Index_le (s_ : List UInt8) : Tw (internal_stringslite_Index_q s_) (internal_stringslite_Index s_) := by
  unfold internal_stringslite_Index internal_stringslite_Index_q
  repeat (first | exact Tw.rfl _ | apply internal_stringslite_IndexByte_le | refine Tw.cond _ ?_ ?_ | refine Tw.bnd ?_ fun _ => ?_ | refine Tw.bind ?_ fun _ => ?_ | refine Tw.loop _ _ fun _ => ?_ | refine Tw.alt _ (fun _ => ?_) (fun _ => ?_) | refine Tw.dup _ ?_ | refine Tw.fork ?_ ?_ | refine Tw.map _ ?_)
noncomputable def strings_Index_q (s_ : List UInt8) : Option (Int) :=
(Option.bind (internal_stringslite_Index_q s_) fun r =>
some r)
theorem strings_Index_le (s_ : List UInt8) : Tw (strings_Index_q s_) (strings_Index s_) := by
  unfold strings_Index strings_Index_q
  repeat (first | exact Tw.rfl _ | apply internal_stringslite_Index_le | refine Tw.cond _ ?_ ?_ | refine Tw.bnd ?_ fun _ => ?_ | refine Tw.bind ?_ fun _ => ?_ | refine Tw.loop _ _ fun _ => ?_ | refine Tw.alt _ (fun _ => ?_) (fun _ => ?_) | refine Tw.dup _ ?_ | refine Tw.fork ?_ ?_ | refine Tw.map _ ?_)
noncomputable def strings_genSplit_l1_q (s_ : List UInt8) (sepSave : Int) (n1 : Int) (s_1 : List UInt8) (a : List (List UInt8)) (i : Int) : Option (Sum ((List UInt8) × (List (List UInt8)) × Int) (Sum ((List UInt8) × (List (List UInt8)) × Int) ((List (List UInt8))))) :=
(cond (decide (i < (IntKind.i64.wrap ((if (IntKind.i64.wrap ((s_.length : Int) + 1)) < n1 then (IntKind.i64.wrap ((s_.length : Int) + 1)) else n1) - 1))))
(Option.bind (strings_Index_q s_1) fun r1 =>
(cond (decide (r1 < 0))
(some (.inr (.inl (s_1, a, i))))
(Option.bind (slc s_1 0 (IntKind.i64.wrap (r1 + sepSave))) fun y_ =>
(Option.bind (idx a i) fun x =>
(Option.bind (idx a i) fun x1 =>
(Option.bind (slc s_1 (IntKind.i64.wrap (r1 + 1)) (s_1.length : Int)) fun y_1 =>
some (.inl (y_1, (List.set a i.toNat y_), (IntKind.i64.wrap (i + 1))))))))))
(some (.inr (.inl (s_1, a, i)))))
theorem strings_genSplit_l1_le (s_ : List UInt8) (sepSave : Int) (n1 : Int) (s_1 : List UInt8) (a : List (List UInt8)) (i : Int) : Tw (strings_genSplit_l1_q s_ sepSave n1 s_1 a i) (strings_genSplit_l1 s_ sepSave n1 s_1 a i) := by
  unfold strings_genSplit_l1 strings_genSplit_l1_q
  repeat (first | exact Tw.rfl _ | apply strings_Index_le | refine Tw.cond _ ?_ ?_ | refine Tw.bnd ?_ fun _ => ?_ | refine Tw.bind ?_ fun _ => ?_ | refine Tw.loop _ _ fun _ => ?_ | refine Tw.alt _ (fun _ => ?_) (fun _ => ?_) | refine Tw.dup _ ?_ | refine Tw.fork ?_ ?_ | refine Tw.map _ ?_)
noncomputable def strings_genSplit_q (s_ : List UInt8) (sepSave : Int) (n : Int) : Option ((List (List UInt8))) :=
(cond (n == 0)
(some ([]))
(bnd ((cond (decide (n < 0))
(Option.bind (strings_Count_q s_) fun r =>
some (.inl (IntKind.i64.wrap (r + 1))))
(some (.inl n))) : Option (Sum Int ((List (List UInt8))))) fun n1 =>
(Option.bind (mkz 16 ([] : List UInt8) (if (IntKind.i64.wrap ((s_.length : Int) + 1)) < n1 then (IntKind.i64.wrap ((s_.length : Int) + 1)) else n1)) fun made =>
(bnd (loopF 60 (fun s => strings_genSplit_l1_q s_ sepSave n1 s.1 s.2.1 s.2.2) ((s_, made, 0) : (List UInt8) × (List (List UInt8)) × Int)) fun j =>
(Option.bind (idx j.2.1 j.2.2) fun x2 =>
(Option.bind (idx j.2.1 j.2.2) fun x3 =>
(Option.bind (slc (List.set j.2.1 j.2.2.toNat j.1) 0 (IntKind.i64.wrap (j.2.2 + 1))) fun y_2 =>
some y_2)))))))
theorem strings_genSplit_le (s_ : List UInt8) (sepSave : Int) (n : Int) : Tw (strings_genSplit_q s_ sepSave n) (strings_genSplit s_ sepSave n) := by
  unfold strings_genSplit strings_genSplit_q
  repeat (first | exact Tw.rfl _ | apply strings_Count_le | apply strings_genSplit_l1_le | refine Tw.cond _ ?_ ?_ | refine Tw.bnd ?_ fun _ => ?_ | refine Tw.bind ?_ fun _ => ?_ | refine Tw.loop _ _ fun _ => ?_ | refine Tw.alt _ (fun _ => ?_) (fun _ => ?_) | refine Tw.dup _ ?_ | refine Tw.fork ?_ ?_ | refine Tw.map _ ?_)
noncomputable def strings_Split_q (s_ : List UInt8) : Option ((List (List UInt8))) :=
(Option.bind (strings_genSplit_q s_ 0 (-1)) fun r =>
some r)
theorem strings_Split_le (s_ : List UInt8) : Tw (strings_Split_q s_) (strings_Split s_) := by
  unfold strings_Split strings_Split_q
  repeat (first | exact Tw.rfl _ | apply strings_genSplit_le | refine Tw.cond _ ?_ ?_ | refine Tw.bnd ?_ fun _ => ?_ | refine Tw.bind ?_ fun _ => ?_ | refine Tw.loop _ _ fun _ => ?_ | refine Tw.alt _ (fun _ => ?_) (fun _ => ?_) | refine Tw.dup _ ?_ | refine Tw.fork ?_ ?_ | refine Tw.map _ ?_)
noncomputable def strings_IndexByte_q (s_ : List UInt8) (c : UInt8) : Option (Int) :=
(Option.bind (internal_stringslite_IndexByte_q s_ c) fun r =>
some r)
theorem strings_IndexByte_le (s_ : List UInt8) (c : UInt8) : Tw (strings_IndexByte_q s_ c) (strings_IndexByte s_ c) := by
  unfold strings_IndexByte strings_IndexByte_q
  repeat (first | exact Tw.rfl _ | apply internal_stringslite_IndexByte_le | refine Tw.cond _ ?_ ?_ | refine Tw.bnd ?_ fun _ => ?_ | refine Tw.bind ?_ fun _ => ?_ | refine Tw.loop _ _ fun _ => ?_ | refine Tw.alt _ (fun _ => ?_) (fun _ => ?_) | refine Tw.dup _ ?_ | refine Tw.fork ?_ ?_ | refine Tw.map _ ?_)
noncomputable def name_Valid_q (s_ : List UInt8) : Option (Bool) :=
(cond (s_ != ([] : List UInt8))
(cond (decide ((s_.length : Int) ≤ 255))
(cond (s_ != ([46] : List UInt8))
(cond (s_ != ([46, 46] : List UInt8))
(Option.bind (strings_IndexByte_q s_ (47 : UInt8)) fun r =>
(cond (decide (r < 0))
(Option.bind (strings_IndexByte_q s_ (0 : UInt8)) fun r1 =>
some (decide (r1 < 0)))
(some false)))
(some false))
(some false))
(some false))
(some false))
theorem name_Valid_le (s_ : List UInt8) : Tw (name_Valid_q s_) (name_Valid s_) := by
  unfold name_Valid name_Valid_q
  repeat (first | exact Tw.rfl _ | apply strings_IndexByte_le | refine Tw.cond _ ?_ ?_ | refine Tw.bnd ?_ fun _ => ?_ | refine Tw.bind ?_ fun _ => ?_ | refine Tw.loop _ _ fun _ => ?_ | refine Tw.alt _ (fun _ => ?_) (fun _ => ?_) | refine Tw.dup _ ?_ | refine Tw.fork ?_ ?_ | refine Tw.map _ ?_)
noncomputable def tree_path_1_q (s_ : List UInt8) : Option (Bool) :=
(Option.bind (name_Valid_q s_) fun r =>
some (!r))
theorem tree_path_1_le (s_ : List UInt8) : Tw (tree_path_1_q s_) (tree_path_1 s_) := by
  unfold tree_path_1 tree_path_1_q
  repeat (first | exact Tw.rfl _ | apply name_Valid_le | refine Tw.cond _ ?_ ?_ | refine Tw.bnd ?_ fun _ => ?_ | refine Tw.bind ?_ fun _ => ?_ | refine Tw.loop _ _ fun _ => ?_ | refine Tw.alt _ (fun _ => ?_) (fun _ => ?_) | refine Tw.dup _ ?_ | refine Tw.fork ?_ ?_ | refine Tw.map _ ?_)
noncomputable def slices_IndexFunc_string_string_l1_q (s_ : List (List UInt8)) (x : Int) : Option (Sum Int (Sum Unit Int)) :=
(cond (decide (x < (s_.length : Int)))
(Option.bind (idx s_ x) fun x1 =>
(Option.bind (tree_path_1_q x1) fun r =>
(cond r
(some (.inr (.inr x)))
(some (.inl (IntKind.i64.wrap (x + 1)))))))
(some (.inr (.inl ()))))
theorem slices_IndexFunc_string_string_l1_le (s_ : List (List UInt8)) (x : Int) : Tw (slices_IndexFunc_string_string_l1_q s_ x) (slices_IndexFunc_string_string_l1 s_ x) := by
  unfold slices_IndexFunc_string_string_l1 slices_IndexFunc_string_string_l1_q
  repeat (first | exact Tw.rfl _ | apply tree_path_1_le | refine Tw.cond _ ?_ ?_ | refine Tw.bnd ?_ fun _ => ?_ | refine Tw.bind ?_ fun _ => ?_ | refine Tw.loop _ _ fun _ => ?_ | refine Tw.alt _ (fun _ => ?_) (fun _ => ?_) | refine Tw.dup _ ?_ | refine Tw.fork ?_ ?_ | refine Tw.map _ ?_)
noncomputable def slices_IndexFunc_string_string_q (s_ : List (List UInt8)) : Option (Int) :=
(bnd (loopF 60 (fun s => slices_IndexFunc_string_string_l1_q s_ s) (0 : Int)) fun _ =>
some (-1))
theorem slices_IndexFunc_string_string_le (s_ : List (List UInt8)) : Tw (slices_IndexFunc_string_string_q s_) (slices_IndexFunc_string_string s_) := by
  unfold slices_IndexFunc_string_string slices_IndexFunc_string_string_q
  repeat (first | exact Tw.rfl _ | apply slices_IndexFunc_string_string_l1_le | refine Tw.cond _ ?_ ?_ | refine Tw.bnd ?_ fun _ => ?_ | refine Tw.bind ?_ fun _ => ?_ | refine Tw.loop _ _ fun _ => ?_ | refine Tw.alt _ (fun _ => ?_) (fun _ => ?_) | refine Tw.dup _ ?_ | refine Tw.fork ?_ ?_ | refine Tw.map _ ?_)
noncomputable def slices_ContainsFunc_string_string_q (s_ : List (List UInt8)) : Option (Bool) :=
(Option.bind (slices_IndexFunc_string_string_q s_) fun r =>
some (decide (r ≥ 0)))
theorem slices_ContainsFunc_string_string_le (s_ : List (List UInt8)) : Tw (slices_ContainsFunc_string_string_q s_) (slices_ContainsFunc_string_string s_) := by
  unfold slices_ContainsFunc_string_string slices_ContainsFunc_string_string_q
  repeat (first | exact Tw.rfl _ | apply slices_IndexFunc_string_string_le | refine Tw.cond _ ?_ ?_ | refine Tw.bnd ?_ fun _ => ?_ | refine Tw.bind ?_ fun _ => ?_ | refine Tw.loop _ _ fun _ => ?_ | refine Tw.alt _ (fun _ => ?_) (fun _ => ?_) | refine Tw.dup _ ?_ | refine Tw.fork ?_ ?_ | refine Tw.map _ ?_)
noncomputable def tree_path_q (x : List UInt8) (x1 : Int) (x2 : Int) (x3 : Int) (x4 : Int) (x5 : Int) (x6 : Int) (x7 : List UInt8) (x8 : List UInt8) (x9 : Int) (x10 : List TApiAttr) : Option (Int) :=
(cond (x == ([] : List UInt8))
(cond (x1 != 2)
(some 6)
(some 0))
(cond (decide ((x.length : Int) > 4096))
(some 6)
(Option.bind (strings_Split_q x) fun r =>
(Option.bind (slices_ContainsFunc_string_string_q r) fun r1 =>
(cond r1
(some 6)
(cond (decide ((r.length : Int) > 128))
(some 6)
(cond (decide ((r.length : Int) > 64))
(some 3)
(some 0))))))))
theorem tree_path_le (x : List UInt8) (x1 : Int) (x2 : Int) (x3 : Int) (x4 : Int) (x5 : Int) (x6 : Int) (x7 : List UInt8) (x8 : List UInt8) (x9 : Int) (x10 : List TApiAttr) : Tw (tree_path_q x x1 x2 x3 x4 x5 x6 x7 x8 x9 x10) (tree_path x x1 x2 x3 x4 x5 x6 x7 x8 x9 x10) := by
  unfold tree_path tree_path_q
  repeat (first | exact Tw.rfl _ | apply strings_Split_le | apply slices_ContainsFunc_string_string_le | refine Tw.cond _ ?_ ?_ | refine Tw.bnd ?_ fun _ => ?_ | refine Tw.bind ?_ fun _ => ?_ | refine Tw.loop _ _ fun _ => ?_ | refine Tw.alt _ (fun _ => ?_) (fun _ => ?_) | refine Tw.dup _ ?_ | refine Tw.fork ?_ ?_ | refine Tw.map _ ?_)
noncomputable def internal_bytealg_LastIndexByteString_l1_q (s_ : List UInt8) (c : UInt8) (i : Int) : Option (Sum Int (Sum Unit Int)) :=
(cond (decide (i ≥ 0))
(Option.bind (idx s_ i) fun c1 =>
(cond ((c1.toNat : Int) == (c.toNat : Int))
(some (.inr (.inr i)))
(some (.inl (IntKind.i64.wrap (i - 1))))))
(some (.inr (.inl ()))))
theorem internal_bytealg_LastIndexByteString_l1_le (s_ : List UInt8) (c : UInt8) (i : Int) : Tw (internal_bytealg_LastIndexByteString_l1_q s_ c i) (internal_bytealg_LastIndexByteString_l1 s_ c i) := by
  unfold internal_bytealg_LastIndexByteString_l1 internal_bytealg_LastIndexByteString_l1_q
  repeat (first | exact Tw.rfl _ | refine Tw.cond _ ?_ ?_ | refine Tw.bnd ?_ fun _ => ?_ | refine Tw.bind ?_ fun _ => ?_ | refine Tw.loop _ _ fun _ => ?_ | refine Tw.alt _ (fun _ => ?_) (fun _ => ?_) | refine Tw.dup _ ?_ | refine Tw.fork ?_ ?_ | refine Tw.map _ ?_)
noncomputable def internal_bytealg_LastIndexByteString_q (s_ : List UInt8) (c : UInt8) : Option (Int) :=
(bnd (loopF 60 (fun s => internal_bytealg_LastIndexByteString_l1_q s_ c s) ((IntKind.i64.wrap ((s_.length : Int) - 1)) : Int)) fun _ =>
some (-1))
theorem internal_bytealg_LastIndexByteString_le (s_ : List UInt8) (c : UInt8) : Tw (internal_bytealg_LastIndexByteString_q s_ c) (internal_bytealg_LastIndexByteString s_ c) := by
  unfold internal_bytealg_LastIndexByteString internal_bytealg_LastIndexByteString_q
  repeat (first | exact Tw.rfl _ | apply internal_bytealg_LastIndexByteString_l1_le | refine Tw.cond _ ?_ ?_ | refine Tw.bnd ?_ fun _ => ?_ | refine Tw.bind ?_ fun _ => ?_ | refine Tw.loop _ _ fun _ => ?_ | refine Tw.alt _ (fun _ => ?_) (fun _ => ?_) | refine Tw.dup _ ?_ | refine Tw.fork ?_ ?_ | refine Tw.map _ ?_)
noncomputable def strings_LastIndexByte_q (s_ : List UInt8) (c : UInt8) : Option (Int) :=
(Option.bind (internal_bytealg_LastIndexByteString_q s_ c) fun r =>
some r)
theorem strings_LastIndexByte_le (s_ : List UInt8) (c : UInt8) : Tw (strings_LastIndexByte_q s_ c) (strings_LastIndexByte s_ c) := by
  unfold strings_LastIndexByte strings_LastIndexByte_q
  repeat (first | exact Tw.rfl _ | apply internal_bytealg_LastIndexByteString_le | refine Tw.cond _ ?_ ?_ | refine Tw.bnd ?_ fun _ => ?_ | refine Tw.bind ?_ fun _ => ?_ | refine Tw.loop _ _ fun _ => ?_ | refine Tw.alt _ (fun _ => ?_) (fun _ => ?_) | refine Tw.dup _ ?_ | refine Tw.fork ?_ ?_ | refine Tw.map _ ?_)
noncomputable def tree_above_q (path : List UInt8) : Option ((List UInt8) × Bool) :=
(Option.bind (strings_LastIndexByte_q path (47 : UInt8)) fun r =>
(Option.bind (slc path 0 (if 0 > r then 0 else r)) fun y_ =>
some (y_, (decide (r ≥ 0)))))
theorem tree_above_le (path : List UInt8) : Tw (tree_above_q path) (tree_above path) := by
  unfold tree_above tree_above_q
  repeat (first | exact Tw.rfl _ | apply strings_LastIndexByte_le | refine Tw.cond _ ?_ ?_ | refine Tw.bnd ?_ fun _ => ?_ | refine Tw.bind ?_ fun _ => ?_ | refine Tw.loop _ _ fun _ => ?_ | refine Tw.alt _ (fun _ => ?_) (fun _ => ?_) | refine Tw.dup _ ?_ | refine Tw.fork ?_ ?_ | refine Tw.map _ ?_)
noncomputable def tree_text_q (s_ : List UInt8) (low : Int) (high : Int) : Option (Bool) :=
(Option.bind (tree_between_q (s_.length : Int) low high) fun r =>
(cond r
(Option.bind (strings_IndexByte_q s_ (0 : UInt8)) fun r1 =>
some (decide (r1 < 0)))
(some false)))
theorem tree_text_le (s_ : List UInt8) (low : Int) (high : Int) : Tw (tree_text_q s_ low high) (tree_text s_ low high) := by
  unfold tree_text tree_text_q
  repeat (first | exact Tw.rfl _ | apply tree_between_le | apply strings_IndexByte_le | refine Tw.cond _ ?_ ?_ | refine Tw.bnd ?_ fun _ => ?_ | refine Tw.bind ?_ fun _ => ?_ | refine Tw.loop _ _ fun _ => ?_ | refine Tw.alt _ (fun _ => ?_) (fun _ => ?_) | refine Tw.dup _ ?_ | refine Tw.fork ?_ ?_ | refine Tw.map _ ?_)
noncomputable def tree_fields_1_q (a : List UInt8) (a1 : List UInt8) : Option (Bool) :=
(Option.bind (tree_text_q a 1 255) fun r =>
(cond (!r)
(some true)
(some (decide ((a1.length : Int) > 4096)))))
theorem tree_fields_1_le (a : List UInt8) (a1 : List UInt8) : Tw (tree_fields_1_q a a1) (tree_fields_1 a a1) := by
  unfold tree_fields_1 tree_fields_1_q
  repeat (first | exact Tw.rfl _ | apply tree_text_le | refine Tw.cond _ ?_ ?_ | refine Tw.bnd ?_ fun _ => ?_ | refine Tw.bind ?_ fun _ => ?_ | refine Tw.loop _ _ fun _ => ?_ | refine Tw.alt _ (fun _ => ?_) (fun _ => ?_) | refine Tw.dup _ ?_ | refine Tw.fork ?_ ?_ | refine Tw.map _ ?_)
noncomputable def slices_IndexFunc_portmanteau_api_Attr_portmanteau_api_Attr_l1_q (s_ : List TApiAttr) (x : Int) : Option (Sum Int (Sum Unit Int)) :=
(cond (decide (x < (s_.length : Int)))
(Option.bind (idx s_ x) fun x1 =>
(Option.bind (tree_fields_1_q x1.Name x1.Value) fun r =>
(cond r
(some (.inr (.inr x)))
(some (.inl (IntKind.i64.wrap (x + 1)))))))
(some (.inr (.inl ()))))
theorem slices_IndexFunc_portmanteau_api_Attr_portmanteau_api_Attr_l1_le (s_ : List TApiAttr) (x : Int) : Tw (slices_IndexFunc_portmanteau_api_Attr_portmanteau_api_Attr_l1_q s_ x) (slices_IndexFunc_portmanteau_api_Attr_portmanteau_api_Attr_l1 s_ x) := by
  unfold slices_IndexFunc_portmanteau_api_Attr_portmanteau_api_Attr_l1 slices_IndexFunc_portmanteau_api_Attr_portmanteau_api_Attr_l1_q
  repeat (first | exact Tw.rfl _ | apply tree_fields_1_le | refine Tw.cond _ ?_ ?_ | refine Tw.bnd ?_ fun _ => ?_ | refine Tw.bind ?_ fun _ => ?_ | refine Tw.loop _ _ fun _ => ?_ | refine Tw.alt _ (fun _ => ?_) (fun _ => ?_) | refine Tw.dup _ ?_ | refine Tw.fork ?_ ?_ | refine Tw.map _ ?_)
noncomputable def slices_IndexFunc_portmanteau_api_Attr_portmanteau_api_Attr_q (s_ : List TApiAttr) : Option (Int) :=
(bnd (loopF 60 (fun s => slices_IndexFunc_portmanteau_api_Attr_portmanteau_api_Attr_l1_q s_ s) (0 : Int)) fun _ =>
some (-1))
theorem slices_IndexFunc_portmanteau_api_Attr_portmanteau_api_Attr_le (s_ : List TApiAttr) : Tw (slices_IndexFunc_portmanteau_api_Attr_portmanteau_api_Attr_q s_) (slices_IndexFunc_portmanteau_api_Attr_portmanteau_api_Attr s_) := by
  unfold slices_IndexFunc_portmanteau_api_Attr_portmanteau_api_Attr slices_IndexFunc_portmanteau_api_Attr_portmanteau_api_Attr_q
  repeat (first | exact Tw.rfl _ | apply slices_IndexFunc_portmanteau_api_Attr_portmanteau_api_Attr_l1_le | refine Tw.cond _ ?_ ?_ | refine Tw.bnd ?_ fun _ => ?_ | refine Tw.bind ?_ fun _ => ?_ | refine Tw.loop _ _ fun _ => ?_ | refine Tw.alt _ (fun _ => ?_) (fun _ => ?_) | refine Tw.dup _ ?_ | refine Tw.fork ?_ ?_ | refine Tw.map _ ?_)
noncomputable def slices_ContainsFunc_portmanteau_api_Attr_portmanteau_api_Attr_q (s_ : List TApiAttr) : Option (Bool) :=
(Option.bind (slices_IndexFunc_portmanteau_api_Attr_portmanteau_api_Attr_q s_) fun r =>
some (decide (r ≥ 0)))
theorem slices_ContainsFunc_portmanteau_api_Attr_portmanteau_api_Attr_le (s_ : List TApiAttr) : Tw (slices_ContainsFunc_portmanteau_api_Attr_portmanteau_api_Attr_q s_) (slices_ContainsFunc_portmanteau_api_Attr_portmanteau_api_Attr s_) := by
  unfold slices_ContainsFunc_portmanteau_api_Attr_portmanteau_api_Attr slices_ContainsFunc_portmanteau_api_Attr_portmanteau_api_Attr_q
  repeat (first | exact Tw.rfl _ | apply slices_IndexFunc_portmanteau_api_Attr_portmanteau_api_Attr_le | refine Tw.cond _ ?_ ?_ | refine Tw.bnd ?_ fun _ => ?_ | refine Tw.bind ?_ fun _ => ?_ | refine Tw.loop _ _ fun _ => ?_ | refine Tw.alt _ (fun _ => ?_) (fun _ => ?_) | refine Tw.dup _ ?_ | refine Tw.fork ?_ ?_ | refine Tw.map _ ?_)
noncomputable def tree_fields_2_q (o : List UInt8) (o1 : List UInt8) (Name : List UInt8) (Value : List UInt8) : Option (Bool × ((List UInt8) × (List UInt8))) :=
some ((o == Name), (Name, Value))
theorem tree_fields_2_le (o : List UInt8) (o1 : List UInt8) (Name : List UInt8) (Value : List UInt8) : Tw (tree_fields_2_q o o1 Name Value) (tree_fields_2 o o1 Name Value) := by
  unfold tree_fields_2 tree_fields_2_q
  repeat (first | exact Tw.rfl _ | refine Tw.cond _ ?_ ?_ | refine Tw.bnd ?_ fun _ => ?_ | refine Tw.bind ?_ fun _ => ?_ | refine Tw.loop _ _ fun _ => ?_ | refine Tw.alt _ (fun _ => ?_) (fun _ => ?_) | refine Tw.dup _ ?_ | refine Tw.fork ?_ ?_ | refine Tw.map _ ?_)
noncomputable def slices_IndexFunc_portmanteau_api_Attr_portmanteau_api_Attr_2_l1_q (s_ : List TApiAttr) (x : Int) (b : List UInt8) (b1 : List UInt8) : Option (Sum (Int × ((List UInt8) × (List UInt8))) (Sum Unit Int)) :=
(cond (decide (x < (s_.length : Int)))
(Option.bind (idx s_ x) fun x1 =>
(Option.bind (tree_fields_2_q x1.Name x1.Value b b1) fun r =>
(cond r.1
(some (.inr (.inr x)))
(some (.inl ((IntKind.i64.wrap (x + 1)), (r.2.1, r.2.2)))))))
(some (.inr (.inl ()))))
theorem slices_IndexFunc_portmanteau_api_Attr_portmanteau_api_Attr_2_l1_le (s_ : List TApiAttr) (x : Int) (b : List UInt8) (b1 : List UInt8) : Tw (slices_IndexFunc_portmanteau_api_Attr_portmanteau_api_Attr_2_l1_q s_ x b b1) (slices_IndexFunc_portmanteau_api_Attr_portmanteau_api_Attr_2_l1 s_ x b b1) := by
  unfold slices_IndexFunc_portmanteau_api_Attr_portmanteau_api_Attr_2_l1 slices_IndexFunc_portmanteau_api_Attr_portmanteau_api_Attr_2_l1_q
  repeat (first | exact Tw.rfl _ | apply tree_fields_2_le | refine Tw.cond _ ?_ ?_ | refine Tw.bnd ?_ fun _ => ?_ | refine Tw.bind ?_ fun _ => ?_ | refine Tw.loop _ _ fun _ => ?_ | refine Tw.alt _ (fun _ => ?_) (fun _ => ?_) | refine Tw.dup _ ?_ | refine Tw.fork ?_ ?_ | refine Tw.map _ ?_)
noncomputable def slices_IndexFunc_portmanteau_api_Attr_portmanteau_api_Attr_2_q (s_ : List TApiAttr) (f : List UInt8) (f1 : List UInt8) : Option (Int) :=
(bnd (loopF 60 (fun s => slices_IndexFunc_portmanteau_api_Attr_portmanteau_api_Attr_2_l1_q s_ s.1 s.2.1 s.2.2) ((0, (f, f1)) : Int × ((List UInt8) × (List UInt8)))) fun _ =>
some (-1))
theorem slices_IndexFunc_portmanteau_api_Attr_portmanteau_api_Attr_2_le (s_ : List TApiAttr) (f : List UInt8) (f1 : List UInt8) : Tw (slices_IndexFunc_portmanteau_api_Attr_portmanteau_api_Attr_2_q s_ f f1) (slices_IndexFunc_portmanteau_api_Attr_portmanteau_api_Attr_2 s_ f f1) := by
  unfold slices_IndexFunc_portmanteau_api_Attr_portmanteau_api_Attr_2 slices_IndexFunc_portmanteau_api_Attr_portmanteau_api_Attr_2_q
  repeat (first | exact Tw.rfl _ | apply slices_IndexFunc_portmanteau_api_Attr_portmanteau_api_Attr_2_l1_le | refine Tw.cond _ ?_ ?_ | refine Tw.bnd ?_ fun _ => ?_ | refine Tw.bind ?_ fun _ => ?_ | refine Tw.loop _ _ fun _ => ?_ | refine Tw.alt _ (fun _ => ?_) (fun _ => ?_) | refine Tw.dup _ ?_ | refine Tw.fork ?_ ?_ | refine Tw.map _ ?_)
noncomputable def slices_ContainsFunc_portmanteau_api_Attr_portmanteau_api_Attr_2_q (s_ : List TApiAttr) (f : List UInt8) (f1 : List UInt8) : Option (Bool) :=
(Option.bind (slices_IndexFunc_portmanteau_api_Attr_portmanteau_api_Attr_2_q s_ f f1) fun r =>
some (decide (r ≥ 0)))
theorem slices_ContainsFunc_portmanteau_api_Attr_portmanteau_api_Attr_2_le (s_ : List TApiAttr) (f : List UInt8) (f1 : List UInt8) : Tw (slices_ContainsFunc_portmanteau_api_Attr_portmanteau_api_Attr_2_q s_ f f1) (slices_ContainsFunc_portmanteau_api_Attr_portmanteau_api_Attr_2 s_ f f1) := by
  unfold slices_ContainsFunc_portmanteau_api_Attr_portmanteau_api_Attr_2 slices_ContainsFunc_portmanteau_api_Attr_portmanteau_api_Attr_2_q
  repeat (first | exact Tw.rfl _ | apply slices_IndexFunc_portmanteau_api_Attr_portmanteau_api_Attr_2_le | refine Tw.cond _ ?_ ?_ | refine Tw.bnd ?_ fun _ => ?_ | refine Tw.bind ?_ fun _ => ?_ | refine Tw.loop _ _ fun _ => ?_ | refine Tw.alt _ (fun _ => ?_) (fun _ => ?_) | refine Tw.dup _ ?_ | refine Tw.fork ?_ ?_ | refine Tw.map _ ?_)
noncomputable def tree_fields_l1_q (x10 : List TApiAttr) (x13 : Int) : Option (Sum Int (Sum Unit Int)) :=
(cond (decide (x13 < (x10.length : Int)))
(Option.bind (idx x10 x13) fun x14 =>
(Option.bind (slc x10 0 x13) fun y_ =>
(Option.bind (slices_ContainsFunc_portmanteau_api_Attr_portmanteau_api_Attr_2_q y_ x14.Name x14.Value) fun r8 =>
(cond r8
(some (.inr (.inr 110)))
(some (.inl (IntKind.i64.wrap (x13 + 1))))))))
(some (.inr (.inl ()))))
theorem tree_fields_l1_le (x10 : List TApiAttr) (x13 : Int) : Tw (tree_fields_l1_q x10 x13) (tree_fields_l1 x10 x13) := by
  unfold tree_fields_l1 tree_fields_l1_q
  repeat (first | exact Tw.rfl _ | apply slices_ContainsFunc_portmanteau_api_Attr_portmanteau_api_Attr_2_le | refine Tw.cond _ ?_ ?_ | refine Tw.bnd ?_ fun _ => ?_ | refine Tw.bind ?_ fun _ => ?_ | refine Tw.loop _ _ fun _ => ?_ | refine Tw.alt _ (fun _ => ?_) (fun _ => ?_) | refine Tw.dup _ ?_ | refine Tw.fork ?_ ?_ | refine Tw.map _ ?_)
noncomputable def tree_fields_q (x : List UInt8) (x1 : Int) (x2 : Int) (x3 : Int) (x4 : Int) (x5 : Int) (x6 : Int) (x7 : List UInt8) (x8 : List UInt8) (x9 : Int) (x10 : List TApiAttr) : Option (Int) :=
(bnd ((Option.bind (tree_between_q x2 0 4095) fun r =>
(cond r
(Option.bind (tree_between_q x3 0 4294967295) fun r1 =>
(cond r1
(Option.bind (tree_between_q x4 0 4294967295) fun r2 =>
(cond r2
(Option.bind (tree_between_q x5 0 4294967295) fun r3 =>
some (.inl r3))
(some (.inl false))))
(some (.inl false))))
(some (.inl false)))) : Option (Sum Bool Int)) fun right =>
(bnd ((cond (x1 == 1)
(bnd ((cond right
(Option.bind (tree_between_q x6 (x7.length : Int) 1099511627775) fun r4 =>
some (.inl r4))
(some (.inl false))) : Option (Sum Bool (Sum Bool Int))) fun right1 =>
some (.inl right1))
(bnd ((cond (x1 == 3)
(bnd ((cond right
(Option.bind (tree_text_q x8 1 4096) fun r5 =>
some (.inl r5))
(some (.inl false))) : Option (Sum Bool (Sum Bool (Sum Bool Int)))) fun right2 =>
some (.inl right2))
(bnd ((cond (x1 == 4)
(some (.inl true))
(some (.inl (x1 == 5)))) : Option (Sum Bool (Sum Bool (Sum Bool Int)))) fun x11 =>
(bnd ((cond x11
(bnd ((cond right
(Option.bind (tree_between_q x9 0 4294967295) fun r6 =>
some (.inl r6))
(some (.inl false))) : Option (Sum Bool (Sum Bool (Sum Bool (Sum Bool Int))))) fun right3 =>
some (.inl right3))
(some (.inl right))) : Option (Sum Bool (Sum Bool (Sum Bool Int)))) fun right4 =>
some (.inl right4)))) : Option (Sum Bool (Sum Bool Int))) fun right5 =>
some (.inl right5))) : Option (Sum Bool Int)) fun right6 =>
(bnd ((cond right6
(some (.inl (decide ((x10.length : Int) ≤ 64))))
(some (.inl false))) : Option (Sum Bool Int)) fun right7 =>
(bnd ((cond (!right7)
(some (.inl true))
(Option.bind (slices_ContainsFunc_portmanteau_api_Attr_portmanteau_api_Attr_q x10) fun r7 =>
some (.inl r7))) : Option (Sum Bool Int)) fun x12 =>
(cond x12
(some 1)
(bnd (loopF 60 (fun s => tree_fields_l1_q x10 s) (0 : Int)) fun _ =>
some 0))))))
theorem tree_fields_le (x : List UInt8) (x1 : Int) (x2 : Int) (x3 : Int) (x4 : Int) (x5 : Int) (x6 : Int) (x7 : List UInt8) (x8 : List UInt8) (x9 : Int) (x10 : List TApiAttr) : Tw (tree_fields_q x x1 x2 x3 x4 x5 x6 x7 x8 x9 x10) (tree_fields x x1 x2 x3 x4 x5 x6 x7 x8 x9 x10) := by
  unfold tree_fields tree_fields_q
  repeat (first | exact Tw.rfl _ | apply tree_between_le | apply tree_text_le | apply slices_ContainsFunc_portmanteau_api_Attr_portmanteau_api_Attr_le | apply tree_fields_l1_le | refine Tw.cond _ ?_ ?_ | refine Tw.bnd ?_ fun _ => ?_ | refine Tw.bind ?_ fun _ => ?_ | refine Tw.loop _ _ fun _ => ?_ | refine Tw.alt _ (fun _ => ?_) (fun _ => ?_) | refine Tw.dup _ ?_ | refine Tw.fork ?_ ?_ | refine Tw.map _ ?_)
noncomputable def tree_checker_entry_q (l : List TApiEntry) (first : List (List UInt8 × Int)) (dirs : List (List UInt8 × Int)) (nodes : List (List UInt8 × Int)) (i : Int) : Option (Int × ((List TApiEntry) × (List (List UInt8 × Int)) × (List (List UInt8 × Int)) × (List (List UInt8 × Int)))) :=
(Option.bind (idx l i) fun x =>
(Option.bind (tree_between_q x.Kind 1 6) fun r =>
(cond (!r)
(some (8, (l, first, dirs, nodes)))
(Option.bind (tree_path_q x.Path x.Kind x.Mode x.Uid x.Gid x.Time x.Size x.Data x.Target x.Dev x.Attrs) fun r1 =>
(cond (r1 != 0)
(some (r1, (l, first, dirs, nodes)))
(cond (decide (((mget first x.Path).getD 0) < i))
(some (110, (l, first, dirs, nodes)))
(Option.bind (tree_above_q x.Path) fun r2 =>
(bnd ((cond r2.2
(some (.inl (((mget dirs r2.1).getD 0) == 0)))
(some (.inl false))) : Option (Sum Bool (Int × ((List TApiEntry) × (List (List UInt8 × Int)) × (List (List UInt8 × Int)) × (List (List UInt8 × Int)))))) fun x1 =>
(cond x1
(some (4, (l, first, dirs, nodes)))
(cond (x.Kind == 6)
(cond (((mget nodes x.Target).getD 0) == 0)
(some (4, (l, first, dirs, nodes)))
(some (0, (l, first, dirs, nodes))))
(Option.bind (tree_fields_q x.Path x.Kind x.Mode x.Uid x.Gid x.Time x.Size x.Data x.Target x.Dev x.Attrs) fun r3 =>
some (r3, (l, first, dirs, nodes)))))))))))))
theorem tree_checker_entry_le (l : List TApiEntry) (first : List (List UInt8 × Int)) (dirs : List (List UInt8 × Int)) (nodes : List (List UInt8 × Int)) (i : Int) : Tw (tree_checker_entry_q l first dirs nodes i) (tree_checker_entry l first dirs nodes i) := by
  unfold tree_checker_entry tree_checker_entry_q
  repeat (first | exact Tw.rfl _ | apply tree_between_le | apply tree_path_le | apply tree_above_le | apply tree_fields_le | refine Tw.cond _ ?_ ?_ | refine Tw.bnd ?_ fun _ => ?_ | refine Tw.bind ?_ fun _ => ?_ | refine Tw.loop _ _ fun _ => ?_ | refine Tw.alt _ (fun _ => ?_) (fun _ => ?_) | refine Tw.dup _ ?_ | refine Tw.fork ?_ ?_ | refine Tw.map _ ?_)
noncomputable def tree_Check_l1_q (l : List TApiEntry) (left : Int) (x : Int) : Option (Sum (Int × Int) (Sum Unit (Int × Int))) :=
(cond (decide (x < (l.length : Int)))
(Option.bind (idx l x) fun x1 =>
(bnd ((cond (x1.Kind == 1)
(some (.inl (decide ((x1.Data.length : Int) > left))))
(some (.inl false))) : Option (Sum Bool (Sum (Int × Int) (Sum Unit (Int × Int))))) fun x2 =>
(cond x2
(some (.inr (.inr (0, 2))))
(cond (x1.Kind == 1)
(some (.inl ((IntKind.i64.wrap (left - (x1.Data.length : Int))), (IntKind.i64.wrap (x + 1)))))
(some (.inl (left, (IntKind.i64.wrap (x + 1)))))))))
(some (.inr (.inl ()))))
theorem tree_Check_l1_le (l : List TApiEntry) (left : Int) (x : Int) : Tw (tree_Check_l1_q l left x) (tree_Check_l1 l left x) := by
  unfold tree_Check_l1 tree_Check_l1_q
  repeat (first | exact Tw.rfl _ | refine Tw.cond _ ?_ ?_ | refine Tw.bnd ?_ fun _ => ?_ | refine Tw.bind ?_ fun _ => ?_ | refine Tw.loop _ _ fun _ => ?_ | refine Tw.alt _ (fun _ => ?_) (fun _ => ?_) | refine Tw.dup _ ?_ | refine Tw.fork ?_ ?_ | refine Tw.map _ ?_)
noncomputable def tree_Check_l2_q (l : List TApiEntry) (x3 : Int) (b : List TApiEntry) (b1 : List (List UInt8 × Int)) (b2 : List (List UInt8 × Int)) (b3 : List (List UInt8 × Int)) : Option (Sum (Int × ((List TApiEntry) × (List (List UInt8 × Int)) × (List (List UInt8 × Int)) × (List (List UInt8 × Int)))) (Sum Unit (Int × Int))) :=
(cond (decide (x3 < (l.length : Int)))
(Option.bind (tree_checker_entry_q b b1 b2 b3 x3) fun r1 =>
(cond (r1.1 != 0)
(some (.inr (.inr (x3, r1.1))))
(some (.inl ((IntKind.i64.wrap (x3 + 1)), (r1.2.1, r1.2.2.1, r1.2.2.2.1, r1.2.2.2.2))))))
(some (.inr (.inl ()))))
theorem tree_Check_l2_le (l : List TApiEntry) (x3 : Int) (b : List TApiEntry) (b1 : List (List UInt8 × Int)) (b2 : List (List UInt8 × Int)) (b3 : List (List UInt8 × Int)) : Tw (tree_Check_l2_q l x3 b b1 b2 b3) (tree_Check_l2 l x3 b b1 b2 b3) := by
  unfold tree_Check_l2 tree_Check_l2_q
  repeat (first | exact Tw.rfl _ | apply tree_checker_entry_le | refine Tw.cond _ ?_ ?_ | refine Tw.bnd ?_ fun _ => ?_ | refine Tw.bind ?_ fun _ => ?_ | refine Tw.loop _ _ fun _ => ?_ | refine Tw.alt _ (fun _ => ?_) (fun _ => ?_) | refine Tw.dup _ ?_ | refine Tw.fork ?_ ?_ | refine Tw.map _ ?_)
noncomputable def tree_Check_q (l : List TApiEntry) : Option (Int × Int) :=
(cond (decide ((l.length : Int) > 16384))
(some (0, 3))
(bnd (loopF 60 (fun s => tree_Check_l1_q l s.1 s.2) ((8388608, 0) : Int × Int)) fun _ =>
(Option.bind (tree_index_q l) fun r =>
(bnd (loopF 60 (fun s => tree_Check_l2_q l s.1 s.2.1 s.2.2.1 s.2.2.2.1 s.2.2.2.2) ((0, (r.1, r.2.1, r.2.2.1, r.2.2.2)) : Int × ((List TApiEntry) × (List (List UInt8 × Int)) × (List (List UInt8 × Int)) × (List (List UInt8 × Int))))) fun _ =>
some (0, 0)))))
theorem tree_Check_le (l : List TApiEntry) : Tw (tree_Check_q l) (tree_Check l) := by
  unfold tree_Check tree_Check_q
  repeat (first | exact Tw.rfl _ | apply tree_index_le | apply tree_Check_l1_le | apply tree_Check_l2_le | refine Tw.cond _ ?_ ?_ | refine Tw.bnd ?_ fun _ => ?_ | refine Tw.bind ?_ fun _ => ?_ | refine Tw.loop _ _ fun _ => ?_ | refine Tw.alt _ (fun _ => ?_) (fun _ => ?_) | refine Tw.dup _ ?_ | refine Tw.fork ?_ ?_ | refine Tw.map _ ?_)
noncomputable def tree_root_1_q (x : List UInt8) (x1 : Int) (x2 : Int) (x3 : Int) (x4 : Int) (x5 : Int) (x6 : Int) (x7 : List UInt8) (x8 : List UInt8) (x9 : Int) (x10 : List TApiAttr) : Option (Bool) :=
some (x == ([] : List UInt8))
theorem tree_root_1_le (x : List UInt8) (x1 : Int) (x2 : Int) (x3 : Int) (x4 : Int) (x5 : Int) (x6 : Int) (x7 : List UInt8) (x8 : List UInt8) (x9 : Int) (x10 : List TApiAttr) : Tw (tree_root_1_q x x1 x2 x3 x4 x5 x6 x7 x8 x9 x10) (tree_root_1 x x1 x2 x3 x4 x5 x6 x7 x8 x9 x10) := by
  unfold tree_root_1 tree_root_1_q
  repeat (first | exact Tw.rfl _ | refine Tw.cond _ ?_ ?_ | refine Tw.bnd ?_ fun _ => ?_ | refine Tw.bind ?_ fun _ => ?_ | refine Tw.loop _ _ fun _ => ?_ | refine Tw.alt _ (fun _ => ?_) (fun _ => ?_) | refine Tw.dup _ ?_ | refine Tw.fork ?_ ?_ | refine Tw.map _ ?_)
noncomputable def slices_IndexFunc_portmanteau_api_Entry_portmanteau_api_Entry_l1_q (s_ : List TApiEntry) (x : Int) : Option (Sum Int (Sum Unit Int)) :=
(cond (decide (x < (s_.length : Int)))
(Option.bind (idx s_ x) fun x1 =>
(Option.bind (tree_root_1_q x1.Path x1.Kind x1.Mode x1.Uid x1.Gid x1.Time x1.Size x1.Data x1.Target x1.Dev x1.Attrs) fun r =>
(cond r
(some (.inr (.inr x)))
(some (.inl (IntKind.i64.wrap (x + 1)))))))
(some (.inr (.inl ()))))
theorem slices_IndexFunc_portmanteau_api_Entry_portmanteau_api_Entry_l1_le (s_ : List TApiEntry) (x : Int) : Tw (slices_IndexFunc_portmanteau_api_Entry_portmanteau_api_Entry_l1_q s_ x) (slices_IndexFunc_portmanteau_api_Entry_portmanteau_api_Entry_l1 s_ x) := by
  unfold slices_IndexFunc_portmanteau_api_Entry_portmanteau_api_Entry_l1 slices_IndexFunc_portmanteau_api_Entry_portmanteau_api_Entry_l1_q
  repeat (first | exact Tw.rfl _ | apply tree_root_1_le | refine Tw.cond _ ?_ ?_ | refine Tw.bnd ?_ fun _ => ?_ | refine Tw.bind ?_ fun _ => ?_ | refine Tw.loop _ _ fun _ => ?_ | refine Tw.alt _ (fun _ => ?_) (fun _ => ?_) | refine Tw.dup _ ?_ | refine Tw.fork ?_ ?_ | refine Tw.map _ ?_)
noncomputable def slices_IndexFunc_portmanteau_api_Entry_portmanteau_api_Entry_q (s_ : List TApiEntry) : Option (Int) :=
(bnd (loopF 60 (fun s => slices_IndexFunc_portmanteau_api_Entry_portmanteau_api_Entry_l1_q s_ s) (0 : Int)) fun _ =>
some (-1))
theorem slices_IndexFunc_portmanteau_api_Entry_portmanteau_api_Entry_le (s_ : List TApiEntry) : Tw (slices_IndexFunc_portmanteau_api_Entry_portmanteau_api_Entry_q s_) (slices_IndexFunc_portmanteau_api_Entry_portmanteau_api_Entry s_) := by
  unfold slices_IndexFunc_portmanteau_api_Entry_portmanteau_api_Entry slices_IndexFunc_portmanteau_api_Entry_portmanteau_api_Entry_q
  repeat (first | exact Tw.rfl _ | apply slices_IndexFunc_portmanteau_api_Entry_portmanteau_api_Entry_l1_le | refine Tw.cond _ ?_ ?_ | refine Tw.bnd ?_ fun _ => ?_ | refine Tw.bind ?_ fun _ => ?_ | refine Tw.loop _ _ fun _ => ?_ | refine Tw.alt _ (fun _ => ?_) (fun _ => ?_) | refine Tw.dup _ ?_ | refine Tw.fork ?_ ?_ | refine Tw.map _ ?_)
noncomputable def tree_root_q (l : List TApiEntry) : Option (((List UInt8) × Int × Int × Int × Int × Int × Int × (List UInt8) × (List UInt8) × Int × (List TApiAttr))) :=
(Option.bind (slices_IndexFunc_portmanteau_api_Entry_portmanteau_api_Entry_q l) fun r =>
(cond (decide (r < 0))
(some (([] : List UInt8), 2, 493, 0, 0, 0, 0, [], ([] : List UInt8), 0, []))
(Option.bind (idx l r) fun x =>
some (x.Path, x.Kind, x.Mode, x.Uid, x.Gid, x.Time, x.Size, x.Data, x.Target, x.Dev, x.Attrs))))
theorem tree_root_le (l : List TApiEntry) : Tw (tree_root_q l) (tree_root l) := by
  unfold tree_root tree_root_q
  repeat (first | exact Tw.rfl _ | apply slices_IndexFunc_portmanteau_api_Entry_portmanteau_api_Entry_le | refine Tw.cond _ ?_ ?_ | refine Tw.bnd ?_ fun _ => ?_ | refine Tw.bind ?_ fun _ => ?_ | refine Tw.loop _ _ fun _ => ?_ | refine Tw.alt _ (fun _ => ?_) (fun _ => ?_) | refine Tw.dup _ ?_ | refine Tw.fork ?_ ?_ | refine Tw.map _ ?_)
noncomputable def bytes_Clone_q (b : List UInt8) : Option (List UInt8) :=
app [] b
theorem bytes_Clone_le (b : List UInt8) : Tw (bytes_Clone_q b) (bytes_Clone b) := by
  unfold bytes_Clone bytes_Clone_q
  repeat (first | exact Tw.rfl _ | refine Tw.cond _ ?_ ?_ | refine Tw.bnd ?_ fun _ => ?_ | refine Tw.bind ?_ fun _ => ?_ | refine Tw.loop _ _ fun _ => ?_ | refine Tw.alt _ (fun _ => ?_) (fun _ => ?_) | refine Tw.dup _ ?_ | refine Tw.fork ?_ ?_ | refine Tw.map _ ?_)
noncomputable def cmp_isNaN_string_q (x : List UInt8) : Option (Bool) :=
some (x != x)
theorem cmp_isNaN_string_le (x : List UInt8) : Tw (cmp_isNaN_string_q x) (cmp_isNaN_string x) := by
  unfold cmp_isNaN_string cmp_isNaN_string_q
  repeat (first | exact Tw.rfl _ | refine Tw.cond _ ?_ ?_ | refine Tw.bnd ?_ fun _ => ?_ | refine Tw.bind ?_ fun _ => ?_ | refine Tw.loop _ _ fun _ => ?_ | refine Tw.alt _ (fun _ => ?_) (fun _ => ?_) | refine Tw.dup _ ?_ | refine Tw.fork ?_ ?_ | refine Tw.map _ ?_)
noncomputable def cmp_Compare_string_q (x : List UInt8) (y_ : List UInt8) : Option (Int) :=
(Option.bind (cmp_isNaN_string_q x) fun r =>
(Option.bind (cmp_isNaN_string_q y_) fun r1 =>
(cond r
(cond r1
(some 0)
(some (-1)))
(cond r1
(some 1)
(cond (ltB x y_)
(some (-1))
(cond (gtB x y_)
(some 1)
(some 0)))))))
theorem cmp_Compare_string_le (x : List UInt8) (y_ : List UInt8) : Tw (cmp_Compare_string_q x y_) (cmp_Compare_string x y_) := by
  unfold cmp_Compare_string cmp_Compare_string_q
  repeat (first | exact Tw.rfl _ | apply cmp_isNaN_string_le | refine Tw.cond _ ?_ ?_ | refine Tw.bnd ?_ fun _ => ?_ | refine Tw.bind ?_ fun _ => ?_ | refine Tw.loop _ _ fun _ => ?_ | refine Tw.alt _ (fun _ => ?_) (fun _ => ?_) | refine Tw.dup _ ?_ | refine Tw.fork ?_ ?_ | refine Tw.map _ ?_)
noncomputable def tree_attrs_1_q (a : List UInt8) (a1 : List UInt8) (b : List UInt8) (b1 : List UInt8) : Option (Int) :=
(Option.bind (cmp_Compare_string_q a b) fun r =>
some r)
theorem tree_attrs_1_le (a : List UInt8) (a1 : List UInt8) (b : List UInt8) (b1 : List UInt8) : Tw (tree_attrs_1_q a a1 b b1) (tree_attrs_1 a a1 b b1) := by
  unfold tree_attrs_1 tree_attrs_1_q
  repeat (first | exact Tw.rfl _ | apply cmp_Compare_string_le | refine Tw.cond _ ?_ ?_ | refine Tw.bnd ?_ fun _ => ?_ | refine Tw.bind ?_ fun _ => ?_ | refine Tw.loop _ _ fun _ => ?_ | refine Tw.alt _ (fun _ => ?_) (fun _ => ?_) | refine Tw.dup _ ?_ | refine Tw.fork ?_ ?_ | refine Tw.map _ ?_)
noncomputable def sort_Attr_q (l : List TApiAttr) : Option (List TApiAttr) :=
sortBy (fun x y => tree_attrs_1_q x.Name x.Value y.Name y.Value) l
theorem sort_Attr_le (l : List TApiAttr) : Tw (sort_Attr_q l) (sort_Attr l) := by
  unfold sort_Attr sort_Attr_q
  repeat (first | exact Tw.rfl _ | apply tree_attrs_1_le | refine Tw.cond _ ?_ ?_ | refine Tw.bnd ?_ fun _ => ?_ | refine Tw.bind ?_ fun _ => ?_ | refine Tw.loop _ _ fun _ => ?_ | refine Tw.alt _ (fun _ => ?_) (fun _ => ?_) | refine Tw.dup _ ?_ | refine Tw.fork ?_ ?_ | refine Tw.map _ ?_ | refine Tw.sort _ fun _ _ => ?_)
noncomputable def tree_attrs_l1_q (l : List TApiAttr) (out : List TApiAttr) (x : Int) : Option (Sum ((List TApiAttr) × Int) (Sum ((List TApiAttr)) ((List TApiAttr)))) :=
(cond (decide (x < (l.length : Int)))
(Option.bind (idx l x) fun x1 =>
(Option.bind (bytes_Clone_q x1.Value) fun r =>
(Option.bind (app out ([({ Name := x1.Name, Value := r } : TApiAttr)])) fun z =>
some (.inl (z, (IntKind.i64.wrap (x + 1)))))))
(some (.inr (.inl out))))
theorem tree_attrs_l1_le (l : List TApiAttr) (out : List TApiAttr) (x : Int) : Tw (tree_attrs_l1_q l out x) (tree_attrs_l1 l out x) := by
  unfold tree_attrs_l1 tree_attrs_l1_q
  repeat (first | exact Tw.rfl _ | apply bytes_Clone_le | refine Tw.cond _ ?_ ?_ | refine Tw.bnd ?_ fun _ => ?_ | refine Tw.bind ?_ fun _ => ?_ | refine Tw.loop _ _ fun _ => ?_ | refine Tw.alt _ (fun _ => ?_) (fun _ => ?_) | refine Tw.dup _ ?_ | refine Tw.fork ?_ ?_ | refine Tw.map _ ?_)
noncomputable def tree_attrs_q (l : List TApiAttr) : Option ((List TApiAttr)) :=
(bnd (loopF 60 (fun s => tree_attrs_l1_q l s.1 s.2) (([], 0) : (List TApiAttr) × Int)) fun out1 =>
(Option.bind (sort_Attr_q out1) fun r1 =>
some r1))
theorem tree_attrs_le (l : List TApiAttr) : Tw (tree_attrs_q l) (tree_attrs l) := by
  unfold tree_attrs tree_attrs_q
  repeat (first | exact Tw.rfl _ | apply sort_Attr_le | apply tree_attrs_l1_le | refine Tw.cond _ ?_ ?_ | refine Tw.bnd ?_ fun _ => ?_ | refine Tw.bind ?_ fun _ => ?_ | refine Tw.loop _ _ fun _ => ?_ | refine Tw.alt _ (fun _ => ?_) (fun _ => ?_) | refine Tw.dup _ ?_ | refine Tw.fork ?_ ?_ | refine Tw.map _ ?_)
noncomputable def bytes_trimRightByte_l1_q (c : UInt8) (s_1 : List UInt8) : Option (Sum ((List UInt8)) (Sum ((List UInt8)) ((List UInt8)))) :=
(cond (decide ((s_1.length : Int) > 0))
(Option.bind (idx s_1 (IntKind.i64.wrap ((s_1.length : Int) - 1))) fun x =>
(cond ((x.toNat : Int) == (c.toNat : Int))
(Option.bind (slc s_1 0 (IntKind.i64.wrap ((s_1.length : Int) - 1))) fun y_ =>
some (.inl y_))
(some (.inr (.inl s_1)))))
(some (.inr (.inl s_1))))
theorem bytes_trimRightByte_l1_le (c : UInt8) (s_1 : List UInt8) : Tw (bytes_trimRightByte_l1_q c s_1) (bytes_trimRightByte_l1 c s_1) := by
  unfold bytes_trimRightByte_l1 bytes_trimRightByte_l1_q
  repeat (first | exact Tw.rfl _ | refine Tw.cond _ ?_ ?_ | refine Tw.bnd ?_ fun _ => ?_ | refine Tw.bind ?_ fun _ => ?_ | refine Tw.loop _ _ fun _ => ?_ | refine Tw.alt _ (fun _ => ?_) (fun _ => ?_) | refine Tw.dup _ ?_ | refine Tw.fork ?_ ?_ | refine Tw.map _ ?_)
noncomputable def bytes_trimRightByte_q (s_ : List UInt8) (c : UInt8) : Option ((List UInt8)) :=
(bnd (loopF 60 (fun s => bytes_trimRightByte_l1_q c s) (s_ : (List UInt8))) fun s_2 =>
some s_2)
theorem bytes_trimRightByte_le (s_ : List UInt8) (c : UInt8) : Tw (bytes_trimRightByte_q s_ c) (bytes_trimRightByte s_ c) := by
  unfold bytes_trimRightByte bytes_trimRightByte_q
  repeat (first | exact Tw.rfl _ | apply bytes_trimRightByte_l1_le | refine Tw.cond _ ?_ ?_ | refine Tw.bnd ?_ fun _ => ?_ | refine Tw.bind ?_ fun _ => ?_ | refine Tw.loop _ _ fun _ => ?_ | refine Tw.alt _ (fun _ => ?_) (fun _ => ?_) | refine Tw.dup _ ?_ | refine Tw.fork ?_ ?_ | refine Tw.map _ ?_)
noncomputable def bytes_TrimRight_q (s_ : List UInt8) : Option ((List UInt8)) :=
(bnd ((cond ((s_.length : Int) == 0)
(some (.inl true))
(some (.inl false))) : Option (Sum Bool ((List UInt8)))) fun x =>
(cond x
(some s_)
(Option.bind (bytes_trimRightByte_q s_ (0 : UInt8)) fun r =>
some r)))
theorem bytes_TrimRight_le (s_ : List UInt8) : Tw (bytes_TrimRight_q s_) (bytes_TrimRight s_) := by
  unfold bytes_TrimRight bytes_TrimRight_q
  repeat (first | exact Tw.rfl _ | apply bytes_trimRightByte_le | refine Tw.cond _ ?_ ?_ | refine Tw.bnd ?_ fun _ => ?_ | refine Tw.bind ?_ fun _ => ?_ | refine Tw.loop _ _ fun _ => ?_ | refine Tw.alt _ (fun _ => ?_) (fun _ => ?_) | refine Tw.dup _ ?_ | refine Tw.fork ?_ ?_ | refine Tw.map _ ?_)
noncomputable def tree_node_q (x : List UInt8) (x1 : Int) (x2 : Int) (x3 : Int) (x4 : Int) (x5 : Int) (x6 : Int) (x7 : List UInt8) (x8 : List UInt8) (x9 : Int) (x10 : List TApiAttr) : Option ((Int × Int × Int × Int × Int × Int × (List UInt8) × (List UInt8) × Int × (List TApiAttr) × (List TApiKid) × Int × Int)) :=
(bnd ((Option.bind (tree_attrs_q x10) fun r =>
some (.inl (x1, x2, x3, x4, x5, 0, [], ([] : List UInt8), 0, r, [], 0, 0))) : Option (Sum ((Int × Int × Int × Int × Int × Int × (List UInt8) × (List UInt8) × Int × (List TApiAttr) × (List TApiKid) × Int × Int)) ((Int × Int × Int × Int × Int × Int × (List UInt8) × (List UInt8) × Int × (List TApiAttr) × (List TApiKid) × Int × Int)))) fun j =>
(cond (x1 == 1)
(Option.bind (bytes_TrimRight_q x7) fun r1 =>
(Option.bind (bytes_Clone_q r1) fun r2 =>
some (j.1, j.2.1, j.2.2.1, j.2.2.2.1, j.2.2.2.2.1, x6, r2, j.2.2.2.2.2.2.2.1, j.2.2.2.2.2.2.2.2.1, j.2.2.2.2.2.2.2.2.2.1, j.2.2.2.2.2.2.2.2.2.2.1, j.2.2.2.2.2.2.2.2.2.2.2.1, j.2.2.2.2.2.2.2.2.2.2.2.2)))
(cond (x1 == 2)
(some (j.1, j.2.1, j.2.2.1, j.2.2.2.1, j.2.2.2.2.1, j.2.2.2.2.2.1, j.2.2.2.2.2.2.1, j.2.2.2.2.2.2.2.1, j.2.2.2.2.2.2.2.2.1, j.2.2.2.2.2.2.2.2.2.1, j.2.2.2.2.2.2.2.2.2.2.1, j.2.2.2.2.2.2.2.2.2.2.2.1, 2))
(cond (x1 == 3)
(some (j.1, j.2.1, j.2.2.1, j.2.2.2.1, j.2.2.2.2.1, j.2.2.2.2.2.1, j.2.2.2.2.2.2.1, x8, j.2.2.2.2.2.2.2.2.1, j.2.2.2.2.2.2.2.2.2.1, j.2.2.2.2.2.2.2.2.2.2.1, j.2.2.2.2.2.2.2.2.2.2.2.1, j.2.2.2.2.2.2.2.2.2.2.2.2))
(some (j.1, j.2.1, j.2.2.1, j.2.2.2.1, j.2.2.2.2.1, j.2.2.2.2.2.1, j.2.2.2.2.2.2.1, j.2.2.2.2.2.2.2.1, x9, j.2.2.2.2.2.2.2.2.2.1, j.2.2.2.2.2.2.2.2.2.2.1, j.2.2.2.2.2.2.2.2.2.2.2.1, j.2.2.2.2.2.2.2.2.2.2.2.2))))))
theorem tree_node_le (x : List UInt8) (x1 : Int) (x2 : Int) (x3 : Int) (x4 : Int) (x5 : Int) (x6 : Int) (x7 : List UInt8) (x8 : List UInt8) (x9 : Int) (x10 : List TApiAttr) : Tw (tree_node_q x x1 x2 x3 x4 x5 x6 x7 x8 x9 x10) (tree_node x x1 x2 x3 x4 x5 x6 x7 x8 x9 x10) := by
  unfold tree_node tree_node_q
  repeat (first | exact Tw.rfl _ | apply bytes_Clone_le | apply tree_attrs_le | apply bytes_TrimRight_le | refine Tw.cond _ ?_ ?_ | refine Tw.bnd ?_ fun _ => ?_ | refine Tw.bind ?_ fun _ => ?_ | refine Tw.loop _ _ fun _ => ?_ | refine Tw.alt _ (fun _ => ?_) (fun _ => ?_) | refine Tw.dup _ ?_ | refine Tw.fork ?_ ?_ | refine Tw.map _ ?_)
noncomputable def slices_Compare_string_string_l1_q (s1 : List (List UInt8)) (s2 : List (List UInt8)) (x : Int) : Option (Sum Int (Sum Unit Int)) :=
(cond (decide (x < (s1.length : Int)))
(Option.bind (idx s1 x) fun x1 =>
(cond (decide (x ≥ (s2.length : Int)))
(some (.inr (.inr 1)))
(Option.bind (idx s2 x) fun x2 =>
(Option.bind (cmp_Compare_string_q x1 x2) fun r =>
(cond (r != 0)
(some (.inr (.inr r)))
(some (.inl (IntKind.i64.wrap (x + 1)))))))))
(some (.inr (.inl ()))))
theorem slices_Compare_string_string_l1_le (s1 : List (List UInt8)) (s2 : List (List UInt8)) (x : Int) : Tw (slices_Compare_string_string_l1_q s1 s2 x) (slices_Compare_string_string_l1 s1 s2 x) := by
  unfold slices_Compare_string_string_l1 slices_Compare_string_string_l1_q
  repeat (first | exact Tw.rfl _ | apply cmp_Compare_string_le | refine Tw.cond _ ?_ ?_ | refine Tw.bnd ?_ fun _ => ?_ | refine Tw.bind ?_ fun _ => ?_ | refine Tw.loop _ _ fun _ => ?_ | refine Tw.alt _ (fun _ => ?_) (fun _ => ?_) | refine Tw.dup _ ?_ | refine Tw.fork ?_ ?_ | refine Tw.map _ ?_)
noncomputable def slices_Compare_string_string_q (s1 : List (List UInt8)) (s2 : List (List UInt8)) : Option (Int) :=
(bnd (loopF 60 (fun s => slices_Compare_string_string_l1_q s1 s2 s) (0 : Int)) fun _ =>
(cond (decide ((s1.length : Int) < (s2.length : Int)))
(some (-1))
(some 0)))
theorem slices_Compare_string_string_le (s1 : List (List UInt8)) (s2 : List (List UInt8)) : Tw (slices_Compare_string_string_q s1 s2) (slices_Compare_string_string s1 s2) := by
  unfold slices_Compare_string_string slices_Compare_string_string_q
  repeat (first | exact Tw.rfl _ | apply slices_Compare_string_string_l1_le | refine Tw.cond _ ?_ ?_ | refine Tw.bnd ?_ fun _ => ?_ | refine Tw.bind ?_ fun _ => ?_ | refine Tw.loop _ _ fun _ => ?_ | refine Tw.alt _ (fun _ => ?_) (fun _ => ?_) | refine Tw.dup _ ?_ | refine Tw.fork ?_ ?_ | refine Tw.map _ ?_)
noncomputable def name_Order_q (a : List (List UInt8)) (b : List (List UInt8)) : Option (Int) :=
(Option.bind (slices_Compare_string_string_q a b) fun r =>
some r)
theorem name_Order_le (a : List (List UInt8)) (b : List (List UInt8)) : Tw (name_Order_q a b) (name_Order a b) := by
  unfold name_Order name_Order_q
  repeat (first | exact Tw.rfl _ | apply slices_Compare_string_string_le | refine Tw.cond _ ?_ ?_ | refine Tw.bnd ?_ fun _ => ?_ | refine Tw.bind ?_ fun _ => ?_ | refine Tw.loop _ _ fun _ => ?_ | refine Tw.alt _ (fun _ => ?_) (fun _ => ?_) | refine Tw.dup _ ?_ | refine Tw.fork ?_ ?_ | refine Tw.map _ ?_)
noncomputable def tree_names_1_q (a : List (List UInt8)) (a1 : List UInt8) (a2 : List UInt8) (b : List (List UInt8)) (b1 : List UInt8) (b2 : List UInt8) : Option (Int) :=
(Option.bind (name_Order_q a b) fun r =>
some r)
theorem tree_names_1_le (a : List (List UInt8)) (a1 : List UInt8) (a2 : List UInt8) (b : List (List UInt8)) (b1 : List UInt8) (b2 : List UInt8) : Tw (tree_names_1_q a a1 a2 b b1 b2) (tree_names_1 a a1 a2 b b1 b2) := by
  unfold tree_names_1 tree_names_1_q
  repeat (first | exact Tw.rfl _ | apply name_Order_le | refine Tw.cond _ ?_ ?_ | refine Tw.bnd ?_ fun _ => ?_ | refine Tw.bind ?_ fun _ => ?_ | refine Tw.loop _ _ fun _ => ?_ | refine Tw.alt _ (fun _ => ?_) (fun _ => ?_) | refine Tw.dup _ ?_ | refine Tw.fork ?_ ?_ | refine Tw.map _ ?_)
noncomputable def sort_Named_q (l : List TTreeNamed) : Option (List TTreeNamed) :=
sortBy (fun x y => tree_names_1_q x.f_parts x.f_path x.f_of y.f_parts y.f_path y.f_of) l
theorem sort_Named_le (l : List TTreeNamed) : Tw (sort_Named_q l) (sort_Named l) := by
  unfold sort_Named sort_Named_q
  repeat (first | exact Tw.rfl _ | apply tree_names_1_le | refine Tw.cond _ ?_ ?_ | refine Tw.bnd ?_ fun _ => ?_ | refine Tw.bind ?_ fun _ => ?_ | refine Tw.loop _ _ fun _ => ?_ | refine Tw.alt _ (fun _ => ?_) (fun _ => ?_) | refine Tw.dup _ ?_ | refine Tw.fork ?_ ?_ | refine Tw.map _ ?_ | refine Tw.sort _ fun _ _ => ?_)
noncomputable def tree_names_l1_q (l : List TApiEntry) (out : List TTreeNamed) (x : Int) : Option (Sum ((List TTreeNamed) × Int) (Sum ((List TTreeNamed)) ((List TTreeNamed)))) :=
(cond (decide (x < (l.length : Int)))
(Option.bind (idx l x) fun x1 =>
(cond (x1.Path == ([] : List UInt8))
(some (.inl (out, (IntKind.i64.wrap (x + 1)))))
(bnd ((Option.bind (strings_Split_q x1.Path) fun r =>
some (.inl (r, x1.Path, x1.Path))) : Option (Sum (((List (List UInt8)) × (List UInt8) × (List UInt8))) (Sum ((List TTreeNamed) × Int) (Sum ((List TTreeNamed)) ((List TTreeNamed)))))) fun j =>
(cond (x1.Kind == 6)
(Option.bind (app out ([({ f_parts := j.1, f_path := j.2.1, f_of := x1.Target } : TTreeNamed)])) fun z =>
some (.inl (z, (IntKind.i64.wrap (x + 1)))))
(Option.bind (app out ([({ f_parts := j.1, f_path := j.2.1, f_of := j.2.2 } : TTreeNamed)])) fun z1 =>
some (.inl (z1, (IntKind.i64.wrap (x + 1)))))))))
(some (.inr (.inl out))))
theorem tree_names_l1_le (l : List TApiEntry) (out : List TTreeNamed) (x : Int) : Tw (tree_names_l1_q l out x) (tree_names_l1 l out x) := by
  unfold tree_names_l1 tree_names_l1_q
  repeat (first | exact Tw.rfl _ | apply strings_Split_le | refine Tw.cond _ ?_ ?_ | refine Tw.bnd ?_ fun _ => ?_ | refine Tw.bind ?_ fun _ => ?_ | refine Tw.loop _ _ fun _ => ?_ | refine Tw.alt _ (fun _ => ?_) (fun _ => ?_) | refine Tw.dup _ ?_ | refine Tw.fork ?_ ?_ | refine Tw.map _ ?_)
noncomputable def tree_names_q (l : List TApiEntry) : Option ((List TTreeNamed)) :=
(bnd (loopF 60 (fun s => tree_names_l1_q l s.1 s.2) (([], 0) : (List TTreeNamed) × Int)) fun out1 =>
(Option.bind (sort_Named_q out1) fun r1 =>
some r1))
theorem tree_names_le (l : List TApiEntry) : Tw (tree_names_q l) (tree_names l) := by
  unfold tree_names tree_names_q
  repeat (first | exact Tw.rfl _ | apply sort_Named_le | apply tree_names_l1_le | refine Tw.cond _ ?_ ?_ | refine Tw.bnd ?_ fun _ => ?_ | refine Tw.bind ?_ fun _ => ?_ | refine Tw.loop _ _ fun _ => ?_ | refine Tw.alt _ (fun _ => ?_) (fun _ => ?_) | refine Tw.dup _ ?_ | refine Tw.fork ?_ ?_ | refine Tw.map _ ?_)
noncomputable def tree_Canon_l1_q (l : List TApiEntry) (r1 : ((List TApiEntry) × (List (List UInt8 × Int)) × (List (List UInt8 × Int)) × (List (List UInt8 × Int)))) (r4 : (List TTreeNamed)) (inos : List (List UInt8 × Int)) (x : Int) (b : List TApiNode) : Option (Sum ((List (List UInt8 × Int)) × Int × ((List TApiNode))) (Sum (((List TApiNode))) (((List TApiNode)) × Int))) :=
(cond (decide (x < (r4.length : Int)))
(Option.bind (idx r4 x) fun x1 =>
(Option.bind (idx r4 x) fun x2 =>
(bnd ((cond (!(mget inos x2.f_of).isSome)
(bnd ((Option.bind (idx l ((mget r1.2.1 x2.f_of).getD 0)) fun x3 =>
(Option.bind (tree_node_q x3.Path x3.Kind x3.Mode x3.Uid x3.Gid x3.Time x3.Size x3.Data x3.Target x3.Dev x3.Attrs) fun r5 =>
(Option.bind (app b [{ ({ Kind := r5.1, Mode := r5.2.1, Uid := r5.2.2.1, Gid := r5.2.2.2.1, Time := r5.2.2.2.2.1, Size := r5.2.2.2.2.2.1, Data := r5.2.2.2.2.2.2.1, Target := r5.2.2.2.2.2.2.2.1, Dev := r5.2.2.2.2.2.2.2.2.1, Attrs := r5.2.2.2.2.2.2.2.2.2.1, Kids := [], Parent := r5.2.2.2.2.2.2.2.2.2.2.2.1, Links := r5.2.2.2.2.2.2.2.2.2.2.2.2 } : TApiNode) with Kids := r5.2.2.2.2.2.2.2.2.2.2.1 }]) fun z =>
some (.inl z)))) : Option (Sum (((List TApiNode))) (Sum ((List (List UInt8 × Int)) × Int × ((List TApiNode))) (Sum ((List (List UInt8 × Int)) × Int × ((List TApiNode))) (Sum (((List TApiNode))) (((List TApiNode)) × Int)))))) fun j =>
some (.inl ((mput inos x2.f_of (b.length : Int)), (b.length : Int), j)))
(some (.inl (inos, ((mget inos x2.f_of).getD 0), b)))) : Option (Sum ((List (List UInt8 × Int)) × Int × ((List TApiNode))) (Sum ((List (List UInt8 × Int)) × Int × ((List TApiNode))) (Sum (((List TApiNode))) (((List TApiNode)) × Int))))) fun j1 =>
(Option.bind (tree_above_q x2.f_path) fun r6 =>
(bnd ((Option.bind (idx x2.f_parts (IntKind.i64.wrap ((x2.f_parts.length : Int) - 1))) fun x4 =>
(Option.bind (idx j1.2.2 ((mget j1.1 r6.1).getD 0)) fun x5 =>
(Option.bind (idx j1.2.2 ((mget j1.1 r6.1).getD 0)) fun x6 =>
(Option.bind (app x6.Kids ([({ Name := x4, Ino := j1.2.1 } : TApiKid)])) fun z1 =>
(Option.bind (idx j1.2.2 ((mget j1.1 r6.1).getD 0)) fun x7 =>
(Option.bind (chk (decide (((mget j1.1 r6.1).getD 0) = ((mget j1.1 r6.1).getD 0)))) fun _ =>
some (.inl (List.set j1.2.2 (((mget j1.1 r6.1).getD 0).toNat) { x6 with Kids := z1 })))))))) : Option (Sum (((List TApiNode))) (Sum ((List (List UInt8 × Int)) × Int × ((List TApiNode))) (Sum (((List TApiNode))) (((List TApiNode)) × Int))))) fun j2 =>
(Option.bind (idx j2 j1.2.1) fun x8 =>
(Option.bind (idx j2 j1.2.1) fun x9 =>
(cond (x9.Kind == 2)
(Option.bind (idx j2 j1.2.1) fun x10 =>
(Option.bind (idx j2 j1.2.1) fun x11 =>
(Option.bind (idx (List.set j2 j1.2.1.toNat ({ Kind := x11.Kind, Mode := x11.Mode, Uid := x11.Uid, Gid := x11.Gid, Time := x11.Time, Size := x11.Size, Data := x11.Data, Target := x11.Target, Dev := x11.Dev, Attrs := x11.Attrs, Kids := x11.Kids, Parent := ((mget j1.1 r6.1).getD 0), Links := x11.Links } : TApiNode)) ((mget j1.1 r6.1).getD 0)) fun x12 =>
(Option.bind (idx (List.set j2 j1.2.1.toNat ({ Kind := x11.Kind, Mode := x11.Mode, Uid := x11.Uid, Gid := x11.Gid, Time := x11.Time, Size := x11.Size, Data := x11.Data, Target := x11.Target, Dev := x11.Dev, Attrs := x11.Attrs, Kids := x11.Kids, Parent := ((mget j1.1 r6.1).getD 0), Links := x11.Links } : TApiNode)) ((mget j1.1 r6.1).getD 0)) fun x13 =>
(Option.bind (idx (List.set j2 j1.2.1.toNat ({ Kind := x11.Kind, Mode := x11.Mode, Uid := x11.Uid, Gid := x11.Gid, Time := x11.Time, Size := x11.Size, Data := x11.Data, Target := x11.Target, Dev := x11.Dev, Attrs := x11.Attrs, Kids := x11.Kids, Parent := ((mget j1.1 r6.1).getD 0), Links := x11.Links } : TApiNode)) ((mget j1.1 r6.1).getD 0)) fun x14 =>
(Option.bind (idx (List.set j2 j1.2.1.toNat ({ Kind := x11.Kind, Mode := x11.Mode, Uid := x11.Uid, Gid := x11.Gid, Time := x11.Time, Size := x11.Size, Data := x11.Data, Target := x11.Target, Dev := x11.Dev, Attrs := x11.Attrs, Kids := x11.Kids, Parent := ((mget j1.1 r6.1).getD 0), Links := x11.Links } : TApiNode)) ((mget j1.1 r6.1).getD 0)) fun x15 =>
some (.inl (j1.1, (IntKind.i64.wrap (x + 1)), (List.set (List.set j2 j1.2.1.toNat ({ Kind := x11.Kind, Mode := x11.Mode, Uid := x11.Uid, Gid := x11.Gid, Time := x11.Time, Size := x11.Size, Data := x11.Data, Target := x11.Target, Dev := x11.Dev, Attrs := x11.Attrs, Kids := x11.Kids, Parent := ((mget j1.1 r6.1).getD 0), Links := x11.Links } : TApiNode)) (((mget j1.1 r6.1).getD 0).toNat) ({ Kind := x15.Kind, Mode := x15.Mode, Uid := x15.Uid, Gid := x15.Gid, Time := x15.Time, Size := x15.Size, Data := x15.Data, Target := x15.Target, Dev := x15.Dev, Attrs := x15.Attrs, Kids := x15.Kids, Parent := x15.Parent, Links := (IntKind.i64.wrap (x13.Links + 1)) } : TApiNode))))))))))
(Option.bind (idx j2 j1.2.1) fun x16 =>
(Option.bind (idx j2 j1.2.1) fun x17 =>
(Option.bind (idx j2 j1.2.1) fun x18 =>
(Option.bind (idx j2 j1.2.1) fun x19 =>
some (.inl (j1.1, (IntKind.i64.wrap (x + 1)), (List.set j2 j1.2.1.toNat ({ Kind := x19.Kind, Mode := x19.Mode, Uid := x19.Uid, Gid := x19.Gid, Time := x19.Time, Size := x19.Size, Data := x19.Data, Target := x19.Target, Dev := x19.Dev, Attrs := x19.Attrs, Kids := x19.Kids, Parent := x19.Parent, Links := (IntKind.i64.wrap (x17.Links + 1)) } : TApiNode))))))))))))))))
(some (.inr (.inl b))))
theorem tree_Canon_l1_le (l : List TApiEntry) (r1 : ((List TApiEntry) × (List (List UInt8 × Int)) × (List (List UInt8 × Int)) × (List (List UInt8 × Int)))) (r4 : (List TTreeNamed)) (inos : List (List UInt8 × Int)) (x : Int) (b : List TApiNode) : Tw (tree_Canon_l1_q l r1 r4 inos x b) (tree_Canon_l1 l r1 r4 inos x b) := by
  unfold tree_Canon_l1 tree_Canon_l1_q
  repeat (first | exact Tw.rfl _ | apply tree_above_le | apply tree_node_le | refine Tw.cond _ ?_ ?_ | refine Tw.bnd ?_ fun _ => ?_ | refine Tw.bind ?_ fun _ => ?_ | refine Tw.loop _ _ fun _ => ?_ | refine Tw.alt _ (fun _ => ?_) (fun _ => ?_) | refine Tw.dup _ ?_ | refine Tw.fork ?_ ?_ | refine Tw.map _ ?_)
noncomputable def tree_Canon_q (l : List TApiEntry) : Option (((List TApiNode)) × Int) :=
(Option.bind (tree_Check_q l) fun r =>
(cond (r.2 != 0)
(some ([], r.2))
(Option.bind (tree_index_q l) fun r1 =>
(Option.bind (tree_root_q l) fun r2 =>
(Option.bind (tree_node_q r2.1 r2.2.1 r2.2.2.1 r2.2.2.2.1 r2.2.2.2.2.1 r2.2.2.2.2.2.1 r2.2.2.2.2.2.2.1 r2.2.2.2.2.2.2.2.1 r2.2.2.2.2.2.2.2.2.1 r2.2.2.2.2.2.2.2.2.2.1 r2.2.2.2.2.2.2.2.2.2.2) fun r3 =>
(Option.bind (tree_names_q l) fun r4 =>
(bnd (loopF 60 (fun s => tree_Canon_l1_q l r1 r4 s.1 s.2.1 s.2.2) (((mput ([] : List (List UInt8 × Int)) ([] : List UInt8) 0), 0, [{ ({ Kind := r3.1, Mode := r3.2.1, Uid := r3.2.2.1, Gid := r3.2.2.2.1, Time := r3.2.2.2.2.1, Size := r3.2.2.2.2.2.1, Data := r3.2.2.2.2.2.2.1, Target := r3.2.2.2.2.2.2.2.1, Dev := r3.2.2.2.2.2.2.2.2.1, Attrs := r3.2.2.2.2.2.2.2.2.2.1, Kids := [], Parent := r3.2.2.2.2.2.2.2.2.2.2.2.1, Links := r3.2.2.2.2.2.2.2.2.2.2.2.2 } : TApiNode) with Kids := r3.2.2.2.2.2.2.2.2.2.2.1 }]) : (List (List UInt8 × Int)) × Int × ((List TApiNode)))) fun j3 =>
some (j3, 0))))))))
theorem tree_Canon_le (l : List TApiEntry) : Tw (tree_Canon_q l) (tree_Canon l) := by
  unfold tree_Canon tree_Canon_q
  repeat (first | exact Tw.rfl _ | apply tree_index_le | apply tree_Check_le | apply tree_root_le | apply tree_node_le | apply tree_names_le | apply tree_Canon_l1_le | refine Tw.cond _ ?_ ?_ | refine Tw.bnd ?_ fun _ => ?_ | refine Tw.bind ?_ fun _ => ?_ | refine Tw.loop _ _ fun _ => ?_ | refine Tw.alt _ (fun _ => ?_) (fun _ => ?_) | refine Tw.dup _ ?_ | refine Tw.fork ?_ ?_ | refine Tw.map _ ?_)
noncomputable def law11_num_q (e : Int) : Option (Int) :=
some e
theorem law11_num_le (e : Int) : Tw (law11_num_q e) (law11_num e) := by
  unfold law11_num law11_num_q
  repeat (first | exact Tw.rfl _ | refine Tw.cond _ ?_ ?_ | refine Tw.bnd ?_ fun _ => ?_ | refine Tw.bind ?_ fun _ => ?_ | refine Tw.loop _ _ fun _ => ?_ | refine Tw.alt _ (fun _ => ?_) (fun _ => ?_) | refine Tw.dup _ ?_ | refine Tw.fork ?_ ?_ | refine Tw.map _ ?_)
noncomputable def ref11_SameKids_l1_q (a : List TApiKid) (b : List TApiKid) (i : Int) : Option (Sum Int (Sum Unit Bool)) :=
(cond (decide (i < (a.length : Int)))
(Option.bind (idx a i) fun x =>
(Option.bind (idx b i) fun x1 =>
(cond (x.Name != x1.Name)
(some (.inr (.inr false)))
(Option.bind (idx a i) fun x2 =>
(Option.bind (idx b i) fun x3 =>
(cond (x2.Ino != x3.Ino)
(some (.inr (.inr false)))
(some (.inl (IntKind.i64.wrap (i + 1))))))))))
(some (.inr (.inl ()))))
theorem ref11_SameKids_l1_le (a : List TApiKid) (b : List TApiKid) (i : Int) : Tw (ref11_SameKids_l1_q a b i) (ref11_SameKids_l1 a b i) := by
  unfold ref11_SameKids_l1 ref11_SameKids_l1_q
  repeat (first | exact Tw.rfl _ | refine Tw.cond _ ?_ ?_ | refine Tw.bnd ?_ fun _ => ?_ | refine Tw.bind ?_ fun _ => ?_ | refine Tw.loop _ _ fun _ => ?_ | refine Tw.alt _ (fun _ => ?_) (fun _ => ?_) | refine Tw.dup _ ?_ | refine Tw.fork ?_ ?_ | refine Tw.map _ ?_)
noncomputable def ref11_SameKids_q (a : List TApiKid) (b : List TApiKid) : Option (Bool) :=
(cond ((a.length : Int) != (b.length : Int))
(some false)
(bnd (loopF 60 (fun s => ref11_SameKids_l1_q a b s) (0 : Int)) fun _ =>
some true))
theorem ref11_SameKids_le (a : List TApiKid) (b : List TApiKid) : Tw (ref11_SameKids_q a b) (ref11_SameKids a b) := by
  unfold ref11_SameKids ref11_SameKids_q
  repeat (first | exact Tw.rfl _ | apply ref11_SameKids_l1_le | refine Tw.cond _ ?_ ?_ | refine Tw.bnd ?_ fun _ => ?_ | refine Tw.bind ?_ fun _ => ?_ | refine Tw.loop _ _ fun _ => ?_ | refine Tw.alt _ (fun _ => ?_) (fun _ => ?_) | refine Tw.dup _ ?_ | refine Tw.fork ?_ ?_ | refine Tw.map _ ?_)
noncomputable def law11_live_q : Option (Bool) :=
(Option.bind (tree_Canon_q ([({ Path := ([98] : List UInt8), Kind := 1, Mode := 0, Uid := 0, Gid := 0, Time := 0, Size := 0, Data := [], Target := ([] : List UInt8), Dev := 0, Attrs := [] } : TApiEntry), ({ Path := ([97] : List UInt8), Kind := 2, Mode := 0, Uid := 0, Gid := 0, Time := 0, Size := 0, Data := [], Target := ([] : List UInt8), Dev := 0, Attrs := [] } : TApiEntry), ({ Path := ([97, 47, 99] : List UInt8), Kind := 1, Mode := 0, Uid := 0, Gid := 0, Time := 0, Size := 0, Data := [], Target := ([] : List UInt8), Dev := 0, Attrs := [] } : TApiEntry), ({ Path := ([97, 47, 100] : List UInt8), Kind := 6, Mode := 0, Uid := 0, Gid := 0, Time := 0, Size := 0, Data := [], Target := ([98] : List UInt8), Dev := 0, Attrs := [] } : TApiEntry)] : List TApiEntry)) fun r =>
(bnd ((Option.bind (law11_num_q r.2) fun r1 =>
(cond (r1 != 0)
(some (.inl true))
(some (.inl ((r.1.length : Int) != 4))))) : Option (Sum Bool Bool)) fun x =>
(cond x
(some false)
(Option.bind (idx r.1 0) fun x1 =>
(Option.bind (ref11_SameKids_q x1.Kids ([({ Name := ([97] : List UInt8), Ino := 1 } : TApiKid), ({ Name := ([98] : List UInt8), Ino := 3 } : TApiKid)] : List TApiKid)) fun r2 =>
(cond r2
(Option.bind (idx r.1 1) fun x2 =>
(Option.bind (ref11_SameKids_q x2.Kids ([({ Name := ([99] : List UInt8), Ino := 2 } : TApiKid), ({ Name := ([100] : List UInt8), Ino := 3 } : TApiKid)] : List TApiKid)) fun r3 =>
(cond r3
(Option.bind (idx r.1 3) fun x3 =>
some (x3.Links == 2))
(some false))))
(some false)))))))
theorem law11_live_le : Tw (law11_live_q) (law11_live) := by
  unfold law11_live law11_live_q
  repeat (first | exact Tw.rfl _ | apply tree_Canon_le | apply law11_num_le | apply ref11_SameKids_le | refine Tw.cond _ ?_ ?_ | refine Tw.bnd ?_ fun _ => ?_ | refine Tw.bind ?_ fun _ => ?_ | refine Tw.loop _ _ fun _ => ?_ | refine Tw.alt _ (fun _ => ?_) (fun _ => ?_) | refine Tw.dup _ ?_ | refine Tw.fork ?_ ?_ | refine Tw.map _ ?_)
end Go.Proofs.YtbldeodchhfjfaaGreatDoor.F
