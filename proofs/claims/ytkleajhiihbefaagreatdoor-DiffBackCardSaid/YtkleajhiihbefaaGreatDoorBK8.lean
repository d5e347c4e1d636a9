/- Texts in one: Lays20 DBC W E22. -/
import Derived.Test.YtkleajhiihbefaaGreatDoorProg
import Derived.Test.YtkleajhiihbefaaGreatDoorBK6
import Derived.Test.YtkleajhiihbefaaGreatDoorBK7
import Derived.Test.YtkleajhiihbefaaGreatDoorBK5
import Derived.Test.YtkleajhiihbefaaGreatDoorBK1
import Derived.Maps.RangeRun
namespace Go.Proofs.YtkleajhiihbefaaGreatDoor.F
open Go Go.Proofs
def renAttr : Go.Shelf.Ren := ⟨fun | 6 => 200 | 15 => 174 | 14 => 233 | 28 => 219 | 29 => 220 | 20 => 259 | 21 => 260 | 22 => 261 | 23 => 262 | 24 => 263 | 25 => 264 | 26 => 265 | 27 => 266 | 46 => 283 | 47 => 250 | 48 => 251 | 49 => 284 | 50 => 285 | 57 => 294 | n => n, fun | 22 => 38 | 24 => 109 | 25 => 251 | 3 => 3 | 39 => 232 | 0 => 0 | 53 => 269 | 55 => 199 | 4 => 4 | 46 => 263 | 45 => 262 | 50 => 173 | 5 => 5 | 9 => 9 | 66 => 287 | 70 => 291 | 76 => 305 | 77 => 59 | n => n, fun n => n⟩
theorem laysAttr : Go.Proofs.SlLaysF0.n6 Tryz.prog renAttr where
 mixed := by kernel_rfl
 f6 := ⟨ "slices.SortFunc[[]portmanteau/api.Attr,portmanteau/api.Attr]", by decide, Tryz.func200.trans (congrArg some (by kernel_rfl))⟩
 f14 := ⟨ "slices.pdqsortCmpFunc[portmanteau/api.Attr]", by decide, Tryz.func233.trans (congrArg some (by kernel_rfl))⟩
 f15 := Tryz.func174.trans (congrArg some (by kernel_rfl))
 f20 := ⟨ "slices.insertionSortCmpFunc[portmanteau/api.Attr]", by decide, Tryz.func259.trans (congrArg some (by kernel_rfl))⟩
 f21 := ⟨ "slices.heapSortCmpFunc[portmanteau/api.Attr]", by decide, Tryz.func260.trans (congrArg some (by kernel_rfl))⟩
 f22 := ⟨ "slices.breakPatternsCmpFunc[portmanteau/api.Attr]", by decide, Tryz.func261.trans (congrArg some (by kernel_rfl))⟩
 f23 := ⟨ "slices.choosePivotCmpFunc[portmanteau/api.Attr]", by decide, Tryz.func262.trans (congrArg some (by kernel_rfl))⟩
 f24 := ⟨ "slices.reverseRangeCmpFunc[portmanteau/api.Attr]", by decide, Tryz.func263.trans (congrArg some (by kernel_rfl))⟩
 f25 := ⟨ "slices.partialInsertionSortCmpFunc[portmanteau/api.Attr]", by decide, Tryz.func264.trans (congrArg some (by kernel_rfl))⟩
 f26 := ⟨ "slices.partitionEqualCmpFunc[portmanteau/api.Attr]", by decide, Tryz.func265.trans (congrArg some (by kernel_rfl))⟩
 f27 := ⟨ "slices.partitionCmpFunc[portmanteau/api.Attr]", by decide, Tryz.func266.trans (congrArg some (by kernel_rfl))⟩
 f28 := Tryz.func219.trans (congrArg some (by kernel_rfl))
 f29 := Tryz.func220.trans (congrArg some (by kernel_rfl))
 f46 := ⟨ "slices.siftDownCmpFunc[portmanteau/api.Attr]", by decide, Tryz.func283.trans (congrArg some (by kernel_rfl))⟩
 f47 := Tryz.func250.trans (congrArg some (by kernel_rfl))
 f48 := Tryz.func251.trans (congrArg some (by kernel_rfl))
 f49 := ⟨ "slices.medianAdjacentCmpFunc[portmanteau/api.Attr]", by decide, Tryz.func284.trans (congrArg some (by kernel_rfl))⟩
 f50 := ⟨ "slices.medianCmpFunc[portmanteau/api.Attr]", by decide, Tryz.func285.trans (congrArg some (by kernel_rfl))⟩
 f57 := ⟨ "slices.order2CmpFunc[portmanteau/api.Attr]", by decide, Tryz.func294.trans (congrArg some (by kernel_rfl))⟩
 t0 := Tryz.underlying0
 a0 := Tryz.isAgg0
 z0 := Tryz.sizeOf0
 v0 := Tryz.zeroValue0
 t3 := Tryz.underlying3
 a3 := Tryz.isAgg3
 z3 := Tryz.sizeOf3
 v3 := Tryz.zeroValue3
 t4 := Tryz.underlying4
 a4 := Tryz.isAgg4
 z4 := Tryz.sizeOf4
 v4 := Tryz.zeroValue4
 t5 := Tryz.underlying5
 a5 := Tryz.isAgg5
 z5 := Tryz.sizeOf5
 v5 := Tryz.zeroValue5
 t9 := Tryz.underlying9
 a9 := Tryz.isAgg9
 z9 := Tryz.sizeOf9
 v9 := Tryz.zeroValue9
 t22 := Tryz.underlying38
 a22 := Tryz.isAgg38
 z22 := Tryz.sizeOf38
 v22 := Tryz.zeroValue38
 t25 := Tryz.underlying251
 a25 := Tryz.isAgg251
 z25 := Tryz.sizeOf251
 v25 := Tryz.zeroValue251
 t39 := Tryz.underlying232
 a39 := Tryz.isAgg232
 z39 := Tryz.sizeOf232
 v39 := Tryz.zeroValue232
 t45 := Tryz.underlying262
 a45 := Tryz.isAgg262
 z45 := Tryz.sizeOf262
 v45 := Tryz.zeroValue262
 t46 := Tryz.underlying263
 a46 := Tryz.isAgg263
 z46 := Tryz.sizeOf263
 v46 := Tryz.zeroValue263
 t50 := Tryz.underlying173
 a50 := Tryz.isAgg173
 z50 := Tryz.sizeOf173
 v50 := Tryz.zeroValue173
 t53 := Tryz.underlying269
 a53 := Tryz.isAgg269
 z53 := Tryz.sizeOf269
 v53 := Tryz.zeroValue269
 t55 := Tryz.underlying199
 a55 := Tryz.isAgg199
 z55 := Tryz.sizeOf199
 v55 := Tryz.zeroValue199
 t66 := Tryz.underlying287
 a66 := Tryz.isAgg287
 z66 := Tryz.sizeOf287
 v66 := Tryz.zeroValue287
 t70 := Tryz.underlying291
 a70 := Tryz.isAgg291
 z70 := Tryz.sizeOf291
 v70 := Tryz.zeroValue291
 t76 := Tryz.underlying305
 a76 := Tryz.isAgg305
 z76 := Tryz.sizeOf305
 v76 := Tryz.zeroValue305
 t77 := Tryz.underlying59
 a77 := Tryz.isAgg59
 z77 := Tryz.sizeOf59
 v77 := Tryz.zeroValue59

def renNamed : Go.Shelf.Ren := ⟨fun | 6 => 165 | 15 => 174 | 14 => 208 | 28 => 219 | 29 => 220 | 20 => 241 | 21 => 242 | 22 => 243 | 23 => 244 | 24 => 245 | 25 => 246 | 26 => 247 | 27 => 248 | 46 => 272 | 47 => 250 | 48 => 251 | 49 => 273 | 50 => 274 | 57 => 288 | n => n, fun | 22 => 169 | 24 => 172 | 25 => 226 | 3 => 3 | 39 => 232 | 0 => 0 | 53 => 269 | 55 => 199 | 4 => 4 | 46 => 263 | 45 => 262 | 50 => 173 | 5 => 5 | 9 => 9 | 66 => 287 | 70 => 291 | 76 => 305 | 77 => 59 | n => n, fun n => n⟩
theorem laysNamed : Go.Proofs.SlLaysF0.n6 Tryz.prog renNamed where
 mixed := by kernel_rfl
 f6 := ⟨ "slices.SortFunc[[]portmanteau/tree.named,portmanteau/tree.named]", by decide, Tryz.func165.trans (congrArg some (by kernel_rfl))⟩
 f14 := ⟨ "slices.pdqsortCmpFunc[portmanteau/tree.named]", by decide, Tryz.func208.trans (congrArg some (by kernel_rfl))⟩
 f15 := Tryz.func174.trans (congrArg some (by kernel_rfl))
 f20 := ⟨ "slices.insertionSortCmpFunc[portmanteau/tree.named]", by decide, Tryz.func241.trans (congrArg some (by kernel_rfl))⟩
 f21 := ⟨ "slices.heapSortCmpFunc[portmanteau/tree.named]", by decide, Tryz.func242.trans (congrArg some (by kernel_rfl))⟩
 f22 := ⟨ "slices.breakPatternsCmpFunc[portmanteau/tree.named]", by decide, Tryz.func243.trans (congrArg some (by kernel_rfl))⟩
 f23 := ⟨ "slices.choosePivotCmpFunc[portmanteau/tree.named]", by decide, Tryz.func244.trans (congrArg some (by kernel_rfl))⟩
 f24 := ⟨ "slices.reverseRangeCmpFunc[portmanteau/tree.named]", by decide, Tryz.func245.trans (congrArg some (by kernel_rfl))⟩
 f25 := ⟨ "slices.partialInsertionSortCmpFunc[portmanteau/tree.named]", by decide, Tryz.func246.trans (congrArg some (by kernel_rfl))⟩
 f26 := ⟨ "slices.partitionEqualCmpFunc[portmanteau/tree.named]", by decide, Tryz.func247.trans (congrArg some (by kernel_rfl))⟩
 f27 := ⟨ "slices.partitionCmpFunc[portmanteau/tree.named]", by decide, Tryz.func248.trans (congrArg some (by kernel_rfl))⟩
 f28 := Tryz.func219.trans (congrArg some (by kernel_rfl))
 f29 := Tryz.func220.trans (congrArg some (by kernel_rfl))
 f46 := ⟨ "slices.siftDownCmpFunc[portmanteau/tree.named]", by decide, Tryz.func272.trans (congrArg some (by kernel_rfl))⟩
 f47 := Tryz.func250.trans (congrArg some (by kernel_rfl))
 f48 := Tryz.func251.trans (congrArg some (by kernel_rfl))
 f49 := ⟨ "slices.medianAdjacentCmpFunc[portmanteau/tree.named]", by decide, Tryz.func273.trans (congrArg some (by kernel_rfl))⟩
 f50 := ⟨ "slices.medianCmpFunc[portmanteau/tree.named]", by decide, Tryz.func274.trans (congrArg some (by kernel_rfl))⟩
 f57 := ⟨ "slices.order2CmpFunc[portmanteau/tree.named]", by decide, Tryz.func288.trans (congrArg some (by kernel_rfl))⟩
 t0 := Tryz.underlying0
 a0 := Tryz.isAgg0
 z0 := Tryz.sizeOf0
 v0 := Tryz.zeroValue0
 t3 := Tryz.underlying3
 a3 := Tryz.isAgg3
 z3 := Tryz.sizeOf3
 v3 := Tryz.zeroValue3
 t4 := Tryz.underlying4
 a4 := Tryz.isAgg4
 z4 := Tryz.sizeOf4
 v4 := Tryz.zeroValue4
 t5 := Tryz.underlying5
 a5 := Tryz.isAgg5
 z5 := Tryz.sizeOf5
 v5 := Tryz.zeroValue5
 t9 := Tryz.underlying9
 a9 := Tryz.isAgg9
 z9 := Tryz.sizeOf9
 v9 := Tryz.zeroValue9
 t22 := Tryz.underlying169
 a22 := Tryz.isAgg169
 z22 := Tryz.sizeOf169
 v22 := Tryz.zeroValue169
 t25 := Tryz.underlying226
 a25 := Tryz.isAgg226
 z25 := Tryz.sizeOf226
 v25 := Tryz.zeroValue226
 t39 := Tryz.underlying232
 a39 := Tryz.isAgg232
 z39 := Tryz.sizeOf232
 v39 := Tryz.zeroValue232
 t45 := Tryz.underlying262
 a45 := Tryz.isAgg262
 z45 := Tryz.sizeOf262
 v45 := Tryz.zeroValue262
 t46 := Tryz.underlying263
 a46 := Tryz.isAgg263
 z46 := Tryz.sizeOf263
 v46 := Tryz.zeroValue263
 t50 := Tryz.underlying173
 a50 := Tryz.isAgg173
 z50 := Tryz.sizeOf173
 v50 := Tryz.zeroValue173
 t53 := Tryz.underlying269
 a53 := Tryz.isAgg269
 z53 := Tryz.sizeOf269
 v53 := Tryz.zeroValue269
 t55 := Tryz.underlying199
 a55 := Tryz.isAgg199
 z55 := Tryz.sizeOf199
 v55 := Tryz.zeroValue199
 t66 := Tryz.underlying287
 a66 := Tryz.isAgg287
 z66 := Tryz.sizeOf287
 v66 := Tryz.zeroValue287
 t70 := Tryz.underlying291
 a70 := Tryz.isAgg291
 z70 := Tryz.sizeOf291
 v70 := Tryz.zeroValue291
 t76 := Tryz.underlying305
 a76 := Tryz.isAgg305
 z76 := Tryz.sizeOf305
 v76 := Tryz.zeroValue305
 t77 := Tryz.underlying59
 a77 := Tryz.isAgg59
 z77 := Tryz.sizeOf59
 v77 := Tryz.zeroValue59

def renString : Go.Shelf.Ren := ⟨fun | 6 => 112 | 15 => 174 | 14 => 173 | 28 => 219 | 29 => 220 | 20 => 211 | 21 => 212 | 22 => 213 | 23 => 214 | 24 => 215 | 25 => 216 | 26 => 217 | 27 => 218 | 46 => 249 | 47 => 250 | 48 => 251 | 49 => 252 | 50 => 253 | 57 => 275 | n => n, fun | 22 => 43 | 24 => 9 | 25 => 192 | 3 => 3 | 39 => 232 | 0 => 0 | 53 => 269 | 55 => 199 | 4 => 4 | 46 => 263 | 45 => 262 | 50 => 173 | 5 => 5 | 9 => 9 | 66 => 287 | 70 => 291 | 76 => 305 | 77 => 59 | n => n, fun n => n⟩
theorem laysString : Go.Proofs.SlLaysF.n6 Tryz.prog renString where
 mixed := by kernel_rfl
 f6 := ⟨ "slices.SortFunc[[]string,string]", by decide, Tryz.func112.trans (congrArg some (by kernel_rfl))⟩
 f14 := ⟨ "slices.pdqsortCmpFunc[string]", by decide, Tryz.func173.trans (congrArg some (by kernel_rfl))⟩
 f15 := Tryz.func174.trans (congrArg some (by kernel_rfl))
 f20 := ⟨ "slices.insertionSortCmpFunc[string]", by decide, Tryz.func211.trans (congrArg some (by kernel_rfl))⟩
 f21 := ⟨ "slices.heapSortCmpFunc[string]", by decide, Tryz.func212.trans (congrArg some (by kernel_rfl))⟩
 f22 := ⟨ "slices.breakPatternsCmpFunc[string]", by decide, Tryz.func213.trans (congrArg some (by kernel_rfl))⟩
 f23 := ⟨ "slices.choosePivotCmpFunc[string]", by decide, Tryz.func214.trans (congrArg some (by kernel_rfl))⟩
 f24 := ⟨ "slices.reverseRangeCmpFunc[string]", by decide, Tryz.func215.trans (congrArg some (by kernel_rfl))⟩
 f25 := ⟨ "slices.partialInsertionSortCmpFunc[string]", by decide, Tryz.func216.trans (congrArg some (by kernel_rfl))⟩
 f26 := ⟨ "slices.partitionEqualCmpFunc[string]", by decide, Tryz.func217.trans (congrArg some (by kernel_rfl))⟩
 f27 := ⟨ "slices.partitionCmpFunc[string]", by decide, Tryz.func218.trans (congrArg some (by kernel_rfl))⟩
 f28 := Tryz.func219.trans (congrArg some (by kernel_rfl))
 f29 := Tryz.func220.trans (congrArg some (by kernel_rfl))
 f46 := ⟨ "slices.siftDownCmpFunc[string]", by decide, Tryz.func249.trans (congrArg some (by kernel_rfl))⟩
 f47 := Tryz.func250.trans (congrArg some (by kernel_rfl))
 f48 := Tryz.func251.trans (congrArg some (by kernel_rfl))
 f49 := ⟨ "slices.medianAdjacentCmpFunc[string]", by decide, Tryz.func252.trans (congrArg some (by kernel_rfl))⟩
 f50 := ⟨ "slices.medianCmpFunc[string]", by decide, Tryz.func253.trans (congrArg some (by kernel_rfl))⟩
 f57 := ⟨ "slices.order2CmpFunc[string]", by decide, Tryz.func275.trans (congrArg some (by kernel_rfl))⟩
 t0 := Tryz.underlying0
 a0 := Tryz.isAgg0
 z0 := Tryz.sizeOf0
 v0 := Tryz.zeroValue0
 t3 := Tryz.underlying3
 a3 := Tryz.isAgg3
 z3 := Tryz.sizeOf3
 v3 := Tryz.zeroValue3
 t4 := Tryz.underlying4
 a4 := Tryz.isAgg4
 z4 := Tryz.sizeOf4
 v4 := Tryz.zeroValue4
 t5 := Tryz.underlying5
 a5 := Tryz.isAgg5
 z5 := Tryz.sizeOf5
 v5 := Tryz.zeroValue5
 t9 := Tryz.underlying9
 a9 := Tryz.isAgg9
 z9 := Tryz.sizeOf9
 v9 := Tryz.zeroValue9
 t22 := Tryz.underlying43
 a22 := Tryz.isAgg43
 z22 := Tryz.sizeOf43
 v22 := Tryz.zeroValue43
 a24 := Tryz.isAgg9
 z24 := Tryz.sizeOf9
 t25 := Tryz.underlying192
 a25 := Tryz.isAgg192
 z25 := Tryz.sizeOf192
 v25 := Tryz.zeroValue192
 t39 := Tryz.underlying232
 a39 := Tryz.isAgg232
 z39 := Tryz.sizeOf232
 v39 := Tryz.zeroValue232
 t45 := Tryz.underlying262
 a45 := Tryz.isAgg262
 z45 := Tryz.sizeOf262
 v45 := Tryz.zeroValue262
 t46 := Tryz.underlying263
 a46 := Tryz.isAgg263
 z46 := Tryz.sizeOf263
 v46 := Tryz.zeroValue263
 t50 := Tryz.underlying173
 a50 := Tryz.isAgg173
 z50 := Tryz.sizeOf173
 v50 := Tryz.zeroValue173
 t53 := Tryz.underlying269
 a53 := Tryz.isAgg269
 z53 := Tryz.sizeOf269
 v53 := Tryz.zeroValue269
 t55 := Tryz.underlying199
 a55 := Tryz.isAgg199
 z55 := Tryz.sizeOf199
 v55 := Tryz.zeroValue199
 t66 := Tryz.underlying287
 a66 := Tryz.isAgg287
 z66 := Tryz.sizeOf287
 v66 := Tryz.zeroValue287
 t70 := Tryz.underlying291
 a70 := Tryz.isAgg291
 z70 := Tryz.sizeOf291
 v70 := Tryz.zeroValue291
 t76 := Tryz.underlying305
 a76 := Tryz.isAgg305
 z76 := Tryz.sizeOf305
 v76 := Tryz.zeroValue305
 t77 := Tryz.underlying59
 a77 := Tryz.isAgg59
 z77 := Tryz.sizeOf59
 v77 := Tryz.zeroValue59

end Go.Proofs.YtkleajhiihbefaaGreatDoor.F
set_option linter.unusedVariables false
set_option linter.unusedSimpArgs false
namespace Go.Proofs.YtkleajhiihbefaaGreatDoor.F
open Go Go.RowKit Go.Proofs.YtkleajhiihbefaaGreatDoor Go.Proofs.YtkleajhiihbefaaGreatDoor.K Go.Proofs.YtkleajhiihbefaaGreatDoor.K.E
set_option maxRecDepth 100000
def Tt : Nat → Type
 | 1 => UInt8
 | 2 => TApiEntry
 | 3 => TApiAttr
 | 4 => (List UInt8)
 | 5 => TApiKid
 | 6 => TApiNode
 | 7 => List TApiNode
 | 8 => List TApiNode × Int × TApiNode
 | 9 => Bool
 | 10 => Int
 | 11 => List (Int × (List UInt8))
 | 12 => List (List UInt8 × Int)
 | 13 => TTreeNamed
 | 14 => List (List UInt8 × TApiEntry)
 | 15 => List (List UInt8 × TApiEntry)
 | 16 => TApiEdit
 | _ => Unit
def ex_1 (x : UInt8) : List (AV Tt) := [.u8 x]
def im_1 (l : List (AV Tt)) : Option UInt8 := match l with
 | [a0] => (gU8 a0).bind fun x0 => some x0
 | _ => none
def ex_2 (x : TApiEntry) : List (AV Tt) := [.str x.Path, .i64 x.Kind, .i64 x.Mode, .i64 x.Uid, .i64 x.Gid, .i64 x.Time, .i64 x.Size, .sl 1 x.Data, .str x.Target, .i64 x.Dev, .sl 3 x.Attrs]
def im_2 (l : List (AV Tt)) : Option TApiEntry := match l with
 | [a0, a1, a2, a3, a4, a5, a6, a7, a8, a9, a10] => (gStr a0).bind fun x0 => (gI64 a1).bind fun x1 => (gI64 a2).bind fun x2 => (gI64 a3).bind fun x3 => (gI64 a4).bind fun x4 => (gI64 a5).bind fun x5 => (gI64 a6).bind fun x6 => (gSl 1 a7).bind fun x7 => (gStr a8).bind fun x8 => (gI64 a9).bind fun x9 => (gSl 3 a10).bind fun x10 => some ⟨x0, x1, x2, x3, x4, x5, x6, x7, x8, x9, x10⟩
 | _ => none
def ex_3 (x : TApiAttr) : List (AV Tt) := [.str x.Name, .sl 1 x.Value]
def im_3 (l : List (AV Tt)) : Option TApiAttr := match l with
 | [a0, a1] => (gStr a0).bind fun x0 => (gSl 1 a1).bind fun x1 => some ⟨x0, x1⟩
 | _ => none
def ex_4 (x : (List UInt8)) : List (AV Tt) := [.str x]
def im_4 (l : List (AV Tt)) : Option (List UInt8) := match l with
 | [a0] => (gStr a0).bind fun x0 => some x0
 | _ => none
def ex_5 (x : TApiKid) : List (AV Tt) := [.str x.Name, .i64 x.Ino]
def im_5 (l : List (AV Tt)) : Option TApiKid := match l with
 | [a0, a1] => (gStr a0).bind fun x0 => (gI64 a1).bind fun x1 => some ⟨x0, x1⟩
 | _ => none
def ex_6 (x : TApiNode) : List (AV Tt) := [.i64 x.Kind, .i64 x.Mode, .i64 x.Uid, .i64 x.Gid, .i64 x.Time, .i64 x.Size, .sl 1 x.Data, .str x.Target, .i64 x.Dev, .sl 3 x.Attrs, .sl 5 x.Kids, .i64 x.Parent, .i64 x.Links]
def im_6 (l : List (AV Tt)) : Option TApiNode := match l with
 | [a0, a1, a2, a3, a4, a5, a6, a7, a8, a9, a10, a11, a12] => (gI64 a0).bind fun x0 => (gI64 a1).bind fun x1 => (gI64 a2).bind fun x2 => (gI64 a3).bind fun x3 => (gI64 a4).bind fun x4 => (gI64 a5).bind fun x5 => (gSl 1 a6).bind fun x6 => (gStr a7).bind fun x7 => (gI64 a8).bind fun x8 => (gSl 3 a9).bind fun x9 => (gSl 5 a10).bind fun x10 => (gI64 a11).bind fun x11 => (gI64 a12).bind fun x12 => some ⟨x0, x1, x2, x3, x4, x5, x6, x7, x8, x9, x10, x11, x12⟩
 | _ => none
def ex_9 (x : Bool) : List (AV Tt) := [.bool x]
def im_9 (l : List (AV Tt)) : Option Bool := match l with
 | [a0] => (gBool a0).bind fun x0 => some x0
 | _ => none
def ex_10 (x : Int) : List (AV Tt) := [.i64 x]
def im_10 (l : List (AV Tt)) : Option Int := match l with
 | [a0] => (gI64 a0).bind fun x0 => some x0
 | _ => none
def ex_13 (x : TTreeNamed) : List (AV Tt) := [.sl 4 x.f_parts, .str x.f_path, .str x.f_of]
def im_13 (l : List (AV Tt)) : Option TTreeNamed := match l with
 | [a0, a1, a2] => (gSl 4 a0).bind fun x0 => (gStr a1).bind fun x1 => (gStr a2).bind fun x2 => some ⟨x0, x1, x2⟩
 | _ => none
def ex_15 (x : List (List UInt8 × TApiEntry)) : List (AV Tt) := [.cells 0 ([.one 14 x])]
def im_15 (l : List (AV Tt)) : Option (List (List UInt8 × TApiEntry)) := imPt (imOne 14) l
def ex_16 (x : TApiEdit) : List (AV Tt) := [.i64 x.Do, .str x.Entry.Path, .i64 x.Entry.Kind, .i64 x.Entry.Mode, .i64 x.Entry.Uid, .i64 x.Entry.Gid, .i64 x.Entry.Time, .i64 x.Entry.Size, .sl 1 x.Entry.Data, .str x.Entry.Target, .i64 x.Entry.Dev, .sl 3 x.Entry.Attrs]
def im_16 (l : List (AV Tt)) : Option TApiEdit := match l with
 | [a0, a1, a2, a3, a4, a5, a6, a7, a8, a9, a10, a11] => (gI64 a0).bind fun x0 => (gStr a1).bind fun x1 => (gI64 a2).bind fun x2 => (gI64 a3).bind fun x3 => (gI64 a4).bind fun x4 => (gI64 a5).bind fun x5 => (gI64 a6).bind fun x6 => (gI64 a7).bind fun x7 => (gSl 1 a8).bind fun x8 => (gStr a9).bind fun x9 => (gI64 a10).bind fun x10 => (gSl 3 a11).bind fun x11 => some ⟨x0, ⟨x1, x2, x3, x4, x5, x6, x7, x8, x9, x10, x11⟩⟩
 | _ => none
def repT : ∀ n, Rep (Tt n)
 | 1 => rU8
 | 2 => rApiEntry
 | 3 => rApiAttr
 | 4 => rStr
 | 5 => rApiKid
 | 6 => rApiNode
 | 7 => rNone _
 | 8 => rNone _
 | 9 => rBool
 | 10 => rI64
 | 11 => rMap kI64 wfI rStr false
 | 12 => rMap kStr wfS rI64 false
 | 13 => rTreeNamed
 | 14 => rMap kStr wfS rApiEntry true
 | 15 => (rPt (rMap kStr wfS rApiEntry true))
 | 16 => rApiEdit
 | 0 => rNo
 | _ + 17 => rNo
def exT : ∀ n, Tt n → List (AV Tt)
 | 1 => ex_1
 | 2 => ex_2
 | 3 => ex_3
 | 4 => ex_4
 | 5 => ex_5
 | 6 => ex_6
 | 7 => fun _ => []
 | 8 => fun _ => []
 | 9 => ex_9
 | 10 => ex_10
 | 11 => fun x => [.one 11 x]
 | 12 => fun x => [.one 12 x]
 | 13 => ex_13
 | 14 => fun x => [.one 14 x]
 | 15 => ex_15
 | 16 => ex_16
 | 0 => fun _ => [.bool true]
 | _ + 17 => fun _ => [.bool true]
def imT : ∀ n, List (AV Tt) → Option (Tt n)
 | 1 => im_1
 | 2 => im_2
 | 3 => im_3
 | 4 => im_4
 | 5 => im_5
 | 6 => im_6
 | 7 => fun _ => none
 | 8 => fun _ => none
 | 9 => im_9
 | 10 => im_10
 | 11 => imOne 11
 | 12 => imOne 12
 | 13 => im_13
 | 14 => imOne 14
 | 15 => im_15
 | 16 => im_16
 | 0 => fun _ => none
 | _ + 17 => fun _ => none
def deep_7 : Deep TApiNode TApiKid rApiNode rApiKid 10 where
 getk x := x.Kids
 setk x l := { x with Kids := l }
 gs _ _ := rfl
 ss _ _ _ := rfl
 sg _ := rfl
 lt := by decide
 fill := by
  intro m cs x A c h0 h1 h2
  obtain ⟨A6, c6, A9, c9, A10, c10, h, s6, s7, s9, s10⟩ := h0
  have e := set_back (u := .slice none 0 0) h1
  rw [h] at e
  exact ⟨A6, c6, A9, c9, A, c, e, s6, s7, s9, h2⟩
 empt := by
  intro m cs x h0
  obtain ⟨A6, c6, A9, c9, A10, c10, h, s6, s7, s9, s10⟩ := h0
  rw [h]
  exact ⟨A6, c6, A9, c9, none, 0, rfl, s6, s7, s9, SlI.nil _ _⟩
def giT : ∀ n, Tt n → Value → Value → K.Item
 | 1 => fun _ _ _ => emp
 | 2 => fun _ _ _ => emp
 | 3 => fun _ _ _ => emp
 | 4 => fun _ _ _ => emp
 | 5 => fun _ _ _ => emp
 | 6 => fun _ _ _ => emp
 | 7 => fun x v _ => deepI deep_7 138 77 x v
 | 8 => fun x v u => holeI deep_7 138 77 x v u
 | 9 => fun _ _ _ => emp
 | 10 => fun _ _ _ => emp
 | 11 => fun x v _ => mapG kI64 wfI (repT 4) false x v
 | 12 => fun x v _ => mapG kStr wfS (repT 10) false x v
 | 13 => fun _ _ _ => emp
 | 14 => fun x v _ => mapG kStr wfS (repT 2) true x v
 | 15 => fun _ _ _ => emp
 | 16 => fun _ _ _ => emp
 | 0 => fun _ _ _ => emp
 | _ + 17 => fun _ _ _ => emp
def dpT : ∀ k, Option (DP Tt repT k)
 | 1 => none
 | 2 => none
 | 3 => none
 | 4 => none
 | 5 => none
 | 6 => none
 | 7 => some { n := 6, nk := 5, t := 77, tk := 138, off := 10, hk := 8, D := deep_7, to := fun x => x, of := fun x => x, toh := fun x => x, ofh := fun x => x }
 | 8 => none
 | 9 => none
 | 10 => none
 | 11 => none
 | 12 => none
 | 13 => none
 | 14 => none
 | 15 => none
 | 16 => none
 | 0 => none
 | _ + 17 => none
def mpT : ∀ k, Option (MP Tt repT k)
 | 1 => none
 | 2 => none
 | 3 => none
 | 4 => none
 | 5 => none
 | 6 => none
 | 7 => none
 | 8 => none
 | 9 => none
 | 10 => none
 | 11 => some (mpInt 11 4 false (fun x => x) (fun x => x))
 | 12 => some (mpStr 12 10 false (fun x => x) (fun x => x))
 | 13 => none
 | 14 => some (mpStr 14 2 true (fun x => x) (fun x => x))
 | 15 => none
 | 16 => none
 | 0 => none
 | _ + 17 => none
def glT : Nat → Option ((n : Nat) × List (Tt n))
 | _ => none
def tbl : Tab where
 T := Tt
 rep := repT
 ex := exT
 im := imT
 code t := (([(3, 10), (4, 9), (5, 1), (9, 4), (40, 2), (77, 6), (97, 16), (98, 15), (105, 14), (109, 3), (138, 5), (172, 13)] : List (Nat × Nat)).find? (fun p => Nat.beq p.1 t)).map (·.2)
 gl := glT
 u8c := 1
 tou8 n := match n with | 1 => fun l => some l | 0 => fun _ => none | _ + 2 => fun _ => none
 ofu8 l := l
 gi := giT
 dp := dpT
 hd h := (([(8, 7)] : List (Nat × Nat)).find? (fun p => Nat.beq p.1 h)).map (·.2)
 mp := mpT
 gcode t := (([(77, 7), (103, 14), (168, 12), (182, 11)] : List (Nat × Nat)).find? (fun p => Nat.beq p.1 t)).map (·.2)
theorem imok_1 {av : List (AV Tt)} {x : UInt8} {η : List Value} {m : Mem} {vs : List Value} (h : im_1 av = some x) (hr : RL tbl η m av vs) : rU8.im m vs x := by
 unfold im_1 at h
 split at h
 ·obtain ⟨v0, r, rfl, h0, hr⟩ := hr
  cases hr
  obtain ⟨x0, e0, h⟩ := bindE h
  have q0 := gU8_ok (tb := tbl) e0 h0
  subst q0
  cases h
  exact rfl
 ·cases h
theorem exok_1 {x : UInt8} {η : List Value} {m : Mem} {vs : List Value} (h : rU8.im m vs x) : RL tbl η m (ex_1 x) vs := by
 have h : vs = _ := h
 subst h
 exact ⟨_, _, rfl, rfl, rfl⟩
theorem imok_2 {av : List (AV Tt)} {x : TApiEntry} {η : List Value} {m : Mem} {vs : List Value} (h : im_2 av = some x) (hr : RL tbl η m av vs) : rApiEntry.im m vs x := by
 unfold im_2 at h
 split at h
 ·obtain ⟨v0, r, rfl, h0, hr⟩ := hr
  obtain ⟨v1, r, rfl, h1, hr⟩ := hr
  obtain ⟨v2, r, rfl, h2, hr⟩ := hr
  obtain ⟨v3, r, rfl, h3, hr⟩ := hr
  obtain ⟨v4, r, rfl, h4, hr⟩ := hr
  obtain ⟨v5, r, rfl, h5, hr⟩ := hr
  obtain ⟨v6, r, rfl, h6, hr⟩ := hr
  obtain ⟨v7, r, rfl, h7, hr⟩ := hr
  obtain ⟨v8, r, rfl, h8, hr⟩ := hr
  obtain ⟨v9, r, rfl, h9, hr⟩ := hr
  obtain ⟨v10, r, rfl, h10, hr⟩ := hr
  cases hr
  obtain ⟨x0, e0, h⟩ := bindE h
  obtain ⟨rfl, s0⟩ := gStr_ok (tb := tbl) e0 h0
  obtain ⟨x1, e1, h⟩ := bindE h
  have q1 := gI64_ok (tb := tbl) e1 h1
  subst q1
  obtain ⟨x2, e2, h⟩ := bindE h
  have q2 := gI64_ok (tb := tbl) e2 h2
  subst q2
  obtain ⟨x3, e3, h⟩ := bindE h
  have q3 := gI64_ok (tb := tbl) e3 h3
  subst q3
  obtain ⟨x4, e4, h⟩ := bindE h
  have q4 := gI64_ok (tb := tbl) e4 h4
  subst q4
  obtain ⟨x5, e5, h⟩ := bindE h
  have q5 := gI64_ok (tb := tbl) e5 h5
  subst q5
  obtain ⟨x6, e6, h⟩ := bindE h
  have q6 := gI64_ok (tb := tbl) e6 h6
  subst q6
  obtain ⟨x7, e7, h⟩ := bindE h
  obtain ⟨A7, c7, rfl, s7⟩ := gSl_ok (tb := tbl) (n := 1) e7 h7
  obtain ⟨x8, e8, h⟩ := bindE h
  obtain ⟨rfl, s8⟩ := gStr_ok (tb := tbl) e8 h8
  obtain ⟨x9, e9, h⟩ := bindE h
  have q9 := gI64_ok (tb := tbl) e9 h9
  subst q9
  obtain ⟨x10, e10, h⟩ := bindE h
  obtain ⟨A10, c10, rfl, s10⟩ := gSl_ok (tb := tbl) (n := 3) e10 h10
  cases h
  exact ⟨A7, c7, A10, c10, rfl, s0, s7, s8, s10⟩
 ·cases h
theorem exok_2 {x : TApiEntry} {η : List Value} {m : Mem} {vs : List Value} (h : rApiEntry.im m vs x) : RL tbl η m (ex_2 x) vs := by
 obtain ⟨A7, c7, A10, c10, rfl, s0, s7, s8, s10⟩ := h
 exact ⟨_, _, rfl, ⟨rfl, s0⟩, ⟨_, _, rfl, rfl, ⟨_, _, rfl, rfl, ⟨_, _, rfl, rfl, ⟨_, _, rfl, rfl, ⟨_, _, rfl, rfl, ⟨_, _, rfl, rfl, ⟨_, _, rfl, ⟨A7, c7, rfl, s7⟩, ⟨_, _, rfl, ⟨rfl, s8⟩, ⟨_, _, rfl, rfl, ⟨_, _, rfl, ⟨A10, c10, rfl, s10⟩, rfl⟩⟩⟩⟩⟩⟩⟩⟩⟩⟩⟩
theorem imok_3 {av : List (AV Tt)} {x : TApiAttr} {η : List Value} {m : Mem} {vs : List Value} (h : im_3 av = some x) (hr : RL tbl η m av vs) : rApiAttr.im m vs x := by
 unfold im_3 at h
 split at h
 ·obtain ⟨v0, r, rfl, h0, hr⟩ := hr
  obtain ⟨v1, r, rfl, h1, hr⟩ := hr
  cases hr
  obtain ⟨x0, e0, h⟩ := bindE h
  obtain ⟨rfl, s0⟩ := gStr_ok (tb := tbl) e0 h0
  obtain ⟨x1, e1, h⟩ := bindE h
  obtain ⟨A1, c1, rfl, s1⟩ := gSl_ok (tb := tbl) (n := 1) e1 h1
  cases h
  exact ⟨A1, c1, rfl, s0, s1⟩
 ·cases h
theorem exok_3 {x : TApiAttr} {η : List Value} {m : Mem} {vs : List Value} (h : rApiAttr.im m vs x) : RL tbl η m (ex_3 x) vs := by
 obtain ⟨A1, c1, rfl, s0, s1⟩ := h
 exact ⟨_, _, rfl, ⟨rfl, s0⟩, ⟨_, _, rfl, ⟨A1, c1, rfl, s1⟩, rfl⟩⟩
theorem imok_4 {av : List (AV Tt)} {x : (List UInt8)} {η : List Value} {m : Mem} {vs : List Value} (h : im_4 av = some x) (hr : RL tbl η m av vs) : rStr.im m vs x := by
 unfold im_4 at h
 split at h
 ·obtain ⟨v0, r, rfl, h0, hr⟩ := hr
  cases hr
  obtain ⟨x0, e0, h⟩ := bindE h
  obtain ⟨rfl, s0⟩ := gStr_ok (tb := tbl) e0 h0
  cases h
  exact ⟨rfl, s0⟩
 ·cases h
theorem exok_4 {x : (List UInt8)} {η : List Value} {m : Mem} {vs : List Value} (h : rStr.im m vs x) : RL tbl η m (ex_4 x) vs := by
 obtain ⟨rfl, s0⟩ := h
 exact ⟨_, _, rfl, ⟨rfl, s0⟩, rfl⟩
theorem imok_5 {av : List (AV Tt)} {x : TApiKid} {η : List Value} {m : Mem} {vs : List Value} (h : im_5 av = some x) (hr : RL tbl η m av vs) : rApiKid.im m vs x := by
 unfold im_5 at h
 split at h
 ·obtain ⟨v0, r, rfl, h0, hr⟩ := hr
  obtain ⟨v1, r, rfl, h1, hr⟩ := hr
  cases hr
  obtain ⟨x0, e0, h⟩ := bindE h
  obtain ⟨rfl, s0⟩ := gStr_ok (tb := tbl) e0 h0
  obtain ⟨x1, e1, h⟩ := bindE h
  have q1 := gI64_ok (tb := tbl) e1 h1
  subst q1
  cases h
  exact ⟨rfl, s0⟩
 ·cases h
theorem exok_5 {x : TApiKid} {η : List Value} {m : Mem} {vs : List Value} (h : rApiKid.im m vs x) : RL tbl η m (ex_5 x) vs := by
 obtain ⟨rfl, s0⟩ := h
 exact ⟨_, _, rfl, ⟨rfl, s0⟩, ⟨_, _, rfl, rfl, rfl⟩⟩
theorem imok_6 {av : List (AV Tt)} {x : TApiNode} {η : List Value} {m : Mem} {vs : List Value} (h : im_6 av = some x) (hr : RL tbl η m av vs) : rApiNode.im m vs x := by
 unfold im_6 at h
 split at h
 ·obtain ⟨v0, r, rfl, h0, hr⟩ := hr
  obtain ⟨v1, r, rfl, h1, hr⟩ := hr
  obtain ⟨v2, r, rfl, h2, hr⟩ := hr
  obtain ⟨v3, r, rfl, h3, hr⟩ := hr
  obtain ⟨v4, r, rfl, h4, hr⟩ := hr
  obtain ⟨v5, r, rfl, h5, hr⟩ := hr
  obtain ⟨v6, r, rfl, h6, hr⟩ := hr
  obtain ⟨v7, r, rfl, h7, hr⟩ := hr
  obtain ⟨v8, r, rfl, h8, hr⟩ := hr
  obtain ⟨v9, r, rfl, h9, hr⟩ := hr
  obtain ⟨v10, r, rfl, h10, hr⟩ := hr
  obtain ⟨v11, r, rfl, h11, hr⟩ := hr
  obtain ⟨v12, r, rfl, h12, hr⟩ := hr
  cases hr
  obtain ⟨x0, e0, h⟩ := bindE h
  have q0 := gI64_ok (tb := tbl) e0 h0
  subst q0
  obtain ⟨x1, e1, h⟩ := bindE h
  have q1 := gI64_ok (tb := tbl) e1 h1
  subst q1
  obtain ⟨x2, e2, h⟩ := bindE h
  have q2 := gI64_ok (tb := tbl) e2 h2
  subst q2
  obtain ⟨x3, e3, h⟩ := bindE h
  have q3 := gI64_ok (tb := tbl) e3 h3
  subst q3
  obtain ⟨x4, e4, h⟩ := bindE h
  have q4 := gI64_ok (tb := tbl) e4 h4
  subst q4
  obtain ⟨x5, e5, h⟩ := bindE h
  have q5 := gI64_ok (tb := tbl) e5 h5
  subst q5
  obtain ⟨x6, e6, h⟩ := bindE h
  obtain ⟨A6, c6, rfl, s6⟩ := gSl_ok (tb := tbl) (n := 1) e6 h6
  obtain ⟨x7, e7, h⟩ := bindE h
  obtain ⟨rfl, s7⟩ := gStr_ok (tb := tbl) e7 h7
  obtain ⟨x8, e8, h⟩ := bindE h
  have q8 := gI64_ok (tb := tbl) e8 h8
  subst q8
  obtain ⟨x9, e9, h⟩ := bindE h
  obtain ⟨A9, c9, rfl, s9⟩ := gSl_ok (tb := tbl) (n := 3) e9 h9
  obtain ⟨x10, e10, h⟩ := bindE h
  obtain ⟨A10, c10, rfl, s10⟩ := gSl_ok (tb := tbl) (n := 5) e10 h10
  obtain ⟨x11, e11, h⟩ := bindE h
  have q11 := gI64_ok (tb := tbl) e11 h11
  subst q11
  obtain ⟨x12, e12, h⟩ := bindE h
  have q12 := gI64_ok (tb := tbl) e12 h12
  subst q12
  cases h
  exact ⟨A6, c6, A9, c9, A10, c10, rfl, s6, s7, s9, s10⟩
 ·cases h
theorem exok_6 {x : TApiNode} {η : List Value} {m : Mem} {vs : List Value} (h : rApiNode.im m vs x) : RL tbl η m (ex_6 x) vs := by
 obtain ⟨A6, c6, A9, c9, A10, c10, rfl, s6, s7, s9, s10⟩ := h
 exact ⟨_, _, rfl, rfl, ⟨_, _, rfl, rfl, ⟨_, _, rfl, rfl, ⟨_, _, rfl, rfl, ⟨_, _, rfl, rfl, ⟨_, _, rfl, rfl, ⟨_, _, rfl, ⟨A6, c6, rfl, s6⟩, ⟨_, _, rfl, ⟨rfl, s7⟩, ⟨_, _, rfl, rfl, ⟨_, _, rfl, ⟨A9, c9, rfl, s9⟩, ⟨_, _, rfl, ⟨A10, c10, rfl, s10⟩, ⟨_, _, rfl, rfl, ⟨_, _, rfl, rfl, rfl⟩⟩⟩⟩⟩⟩⟩⟩⟩⟩⟩⟩⟩
theorem imok_9 {av : List (AV Tt)} {x : Bool} {η : List Value} {m : Mem} {vs : List Value} (h : im_9 av = some x) (hr : RL tbl η m av vs) : rBool.im m vs x := by
 unfold im_9 at h
 split at h
 ·obtain ⟨v0, r, rfl, h0, hr⟩ := hr
  cases hr
  obtain ⟨x0, e0, h⟩ := bindE h
  have q0 := gBool_ok (tb := tbl) e0 h0
  subst q0
  cases h
  exact rfl
 ·cases h
theorem exok_9 {x : Bool} {η : List Value} {m : Mem} {vs : List Value} (h : rBool.im m vs x) : RL tbl η m (ex_9 x) vs := by
 have h : vs = _ := h
 subst h
 exact ⟨_, _, rfl, rfl, rfl⟩
theorem imok_10 {av : List (AV Tt)} {x : Int} {η : List Value} {m : Mem} {vs : List Value} (h : im_10 av = some x) (hr : RL tbl η m av vs) : rI64.im m vs x := by
 unfold im_10 at h
 split at h
 ·obtain ⟨v0, r, rfl, h0, hr⟩ := hr
  cases hr
  obtain ⟨x0, e0, h⟩ := bindE h
  have q0 := gI64_ok (tb := tbl) e0 h0
  subst q0
  cases h
  exact rfl
 ·cases h
theorem exok_10 {x : Int} {η : List Value} {m : Mem} {vs : List Value} (h : rI64.im m vs x) : RL tbl η m (ex_10 x) vs := by
 have h : vs = _ := h
 subst h
 exact ⟨_, _, rfl, rfl, rfl⟩
theorem imok_13 {av : List (AV Tt)} {x : TTreeNamed} {η : List Value} {m : Mem} {vs : List Value} (h : im_13 av = some x) (hr : RL tbl η m av vs) : rTreeNamed.im m vs x := by
 unfold im_13 at h
 split at h
 ·obtain ⟨v0, r, rfl, h0, hr⟩ := hr
  obtain ⟨v1, r, rfl, h1, hr⟩ := hr
  obtain ⟨v2, r, rfl, h2, hr⟩ := hr
  cases hr
  obtain ⟨x0, e0, h⟩ := bindE h
  obtain ⟨A0, c0, rfl, s0⟩ := gSl_ok (tb := tbl) (n := 4) e0 h0
  obtain ⟨x1, e1, h⟩ := bindE h
  obtain ⟨rfl, s1⟩ := gStr_ok (tb := tbl) e1 h1
  obtain ⟨x2, e2, h⟩ := bindE h
  obtain ⟨rfl, s2⟩ := gStr_ok (tb := tbl) e2 h2
  cases h
  exact ⟨A0, c0, rfl, s0, s1, s2⟩
 ·cases h
theorem exok_13 {x : TTreeNamed} {η : List Value} {m : Mem} {vs : List Value} (h : rTreeNamed.im m vs x) : RL tbl η m (ex_13 x) vs := by
 obtain ⟨A0, c0, rfl, s0, s1, s2⟩ := h
 exact ⟨_, _, rfl, ⟨A0, c0, rfl, s0⟩, ⟨_, _, rfl, ⟨rfl, s1⟩, ⟨_, _, rfl, ⟨rfl, s2⟩, rfl⟩⟩⟩
theorem imok_15 {av : List (AV Tt)} {x : List (List UInt8 × TApiEntry)} {η : List Value} {m : Mem} {vs : List Value} (h : im_15 av = some x) (hr : RL tbl η m av vs) : (rPt (rMap kStr wfS rApiEntry true)).im m vs x := ptIm (tb := tbl) (fun h hr => imOne_ok (tb := tbl) 14 h hr) h hr
theorem exok_15 {x : List (List UInt8 × TApiEntry)} {η : List Value} {m : Mem} {vs : List Value} (h : (rPt (rMap kStr wfS rApiEntry true)).im m vs x) : RL tbl η m (ex_15 x) vs := ptEx (tb := tbl) (fun h => exOne_ok (tb := tbl) 14 rfl h) h
theorem imok_16 {av : List (AV Tt)} {x : TApiEdit} {η : List Value} {m : Mem} {vs : List Value} (h : im_16 av = some x) (hr : RL tbl η m av vs) : rApiEdit.im m vs x := by
 unfold im_16 at h
 split at h
 ·obtain ⟨v0, r, rfl, h0, hr⟩ := hr
  obtain ⟨v1, r, rfl, h1, hr⟩ := hr
  obtain ⟨v2, r, rfl, h2, hr⟩ := hr
  obtain ⟨v3, r, rfl, h3, hr⟩ := hr
  obtain ⟨v4, r, rfl, h4, hr⟩ := hr
  obtain ⟨v5, r, rfl, h5, hr⟩ := hr
  obtain ⟨v6, r, rfl, h6, hr⟩ := hr
  obtain ⟨v7, r, rfl, h7, hr⟩ := hr
  obtain ⟨v8, r, rfl, h8, hr⟩ := hr
  obtain ⟨v9, r, rfl, h9, hr⟩ := hr
  obtain ⟨v10, r, rfl, h10, hr⟩ := hr
  obtain ⟨v11, r, rfl, h11, hr⟩ := hr
  cases hr
  obtain ⟨x0, e0, h⟩ := bindE h
  have q0 := gI64_ok (tb := tbl) e0 h0
  subst q0
  obtain ⟨x1, e1, h⟩ := bindE h
  obtain ⟨rfl, s1⟩ := gStr_ok (tb := tbl) e1 h1
  obtain ⟨x2, e2, h⟩ := bindE h
  have q2 := gI64_ok (tb := tbl) e2 h2
  subst q2
  obtain ⟨x3, e3, h⟩ := bindE h
  have q3 := gI64_ok (tb := tbl) e3 h3
  subst q3
  obtain ⟨x4, e4, h⟩ := bindE h
  have q4 := gI64_ok (tb := tbl) e4 h4
  subst q4
  obtain ⟨x5, e5, h⟩ := bindE h
  have q5 := gI64_ok (tb := tbl) e5 h5
  subst q5
  obtain ⟨x6, e6, h⟩ := bindE h
  have q6 := gI64_ok (tb := tbl) e6 h6
  subst q6
  obtain ⟨x7, e7, h⟩ := bindE h
  have q7 := gI64_ok (tb := tbl) e7 h7
  subst q7
  obtain ⟨x8, e8, h⟩ := bindE h
  obtain ⟨A8, c8, rfl, s8⟩ := gSl_ok (tb := tbl) (n := 1) e8 h8
  obtain ⟨x9, e9, h⟩ := bindE h
  obtain ⟨rfl, s9⟩ := gStr_ok (tb := tbl) e9 h9
  obtain ⟨x10, e10, h⟩ := bindE h
  have q10 := gI64_ok (tb := tbl) e10 h10
  subst q10
  obtain ⟨x11, e11, h⟩ := bindE h
  obtain ⟨A11, c11, rfl, s11⟩ := gSl_ok (tb := tbl) (n := 3) e11 h11
  cases h
  exact ⟨A8, c8, A11, c11, rfl, s1, s8, s9, s11⟩
 ·cases h
theorem exok_16 {x : TApiEdit} {η : List Value} {m : Mem} {vs : List Value} (h : rApiEdit.im m vs x) : RL tbl η m (ex_16 x) vs := by
 obtain ⟨A8, c8, A11, c11, rfl, s1, s8, s9, s11⟩ := h
 exact ⟨_, _, rfl, rfl, ⟨_, _, rfl, ⟨rfl, s1⟩, ⟨_, _, rfl, rfl, ⟨_, _, rfl, rfl, ⟨_, _, rfl, rfl, ⟨_, _, rfl, rfl, ⟨_, _, rfl, rfl, ⟨_, _, rfl, rfl, ⟨_, _, rfl, ⟨A8, c8, rfl, s8⟩, ⟨_, _, rfl, ⟨rfl, s9⟩, ⟨_, _, rfl, rfl, ⟨_, _, rfl, ⟨A11, c11, rfl, s11⟩, rfl⟩⟩⟩⟩⟩⟩⟩⟩⟩⟩⟩⟩
theorem kOk : KindOk tbl where
 dgi := by
  intro k d h
  match k, d, h with
  | 0, d, h => cases h
  | 1, d, h => cases h
  | 2, d, h => cases h
  | 3, d, h => cases h
  | 4, d, h => cases h
  | 5, d, h => cases h
  | 6, d, h => cases h
  | 7, d, h => cases h; exact ⟨fun _ _ _ => rfl, fun _ _ _ => rfl, fun _ => rfl, fun _ => rfl⟩
  | 8, d, h => cases h
  | 9, d, h => cases h
  | 10, d, h => cases h
  | 11, d, h => cases h
  | 12, d, h => cases h
  | 13, d, h => cases h
  | 14, d, h => cases h
  | 15, d, h => cases h
  | 16, d, h => cases h
  | k + 17, d, h => cases h
 mgi := by
  intro k d h
  match k, d, h with
  | 0, d, h => cases h
  | 1, d, h => cases h
  | 2, d, h => cases h
  | 3, d, h => cases h
  | 4, d, h => cases h
  | 5, d, h => cases h
  | 6, d, h => cases h
  | 7, d, h => cases h
  | 8, d, h => cases h
  | 9, d, h => cases h
  | 10, d, h => cases h
  | 11, d, h => exact mpInt_ok (tb := tbl) (fun _ _ _ => rfl) (fun _ => rfl) d (Option.some.inj h).symm
  | 12, d, h => exact mpStr_ok (tb := tbl) (fun _ _ _ => rfl) (fun _ => rfl) d (Option.some.inj h).symm
  | 13, d, h => cases h
  | 14, d, h => exact mpStr_ok (tb := tbl) (fun _ _ _ => rfl) (fun _ => rfl) d (Option.some.inj h).symm
  | 15, d, h => cases h
  | 16, d, h => cases h
  | k + 17, d, h => cases h
 mre := by
  intro k d h
  match k, d, h with
  | 0, d, h => cases h
  | 1, d, h => cases h
  | 2, d, h => cases h
  | 3, d, h => cases h
  | 4, d, h => cases h
  | 5, d, h => cases h
  | 6, d, h => cases h
  | 7, d, h => cases h
  | 8, d, h => cases h
  | 9, d, h => cases h
  | 10, d, h => cases h
  | 11, d, h => cases h; exact fun m v x => ⟨fun ⟨_, e, h'⟩ => by cases e; exact h', fun h' => ⟨v, rfl, h'⟩⟩
  | 12, d, h => cases h; exact fun m v x => ⟨fun ⟨_, e, h'⟩ => by cases e; exact h', fun h' => ⟨v, rfl, h'⟩⟩
  | 13, d, h => cases h
  | 14, d, h => cases h; exact fun m v x => ⟨fun ⟨_, e, h'⟩ => by cases e; exact h', fun h' => ⟨v, rfl, h'⟩⟩
  | 15, d, h => cases h
  | 16, d, h => cases h
  | k + 17, d, h => cases h
theorem tOk : TabOk tbl where
 im := by
  intro n av x η m vs h hr
  match n, x, h with
  | 0, x, h => cases h
  | 1, x, h => exact imok_1 h hr
  | 2, x, h => exact imok_2 h hr
  | 3, x, h => exact imok_3 h hr
  | 4, x, h => exact imok_4 h hr
  | 5, x, h => exact imok_5 h hr
  | 6, x, h => exact imok_6 h hr
  | 7, x, h => cases h
  | 8, x, h => cases h
  | 9, x, h => exact imok_9 h hr
  | 10, x, h => exact imok_10 h hr
  | 11, x, h => exact imOne_ok (tb := tbl) 11 h hr
  | 12, x, h => exact imOne_ok (tb := tbl) 12 h hr
  | 13, x, h => exact imok_13 h hr
  | 14, x, h => exact imOne_ok (tb := tbl) 14 h hr
  | 15, x, h => exact imok_15 h hr
  | 16, x, h => exact imok_16 h hr
  | k + 17, x, h => cases h
 ex := by
  intro n x η m vs h
  match n, x, h with
  | 0, x, h => exact ⟨_, _, h, rfl, rfl⟩
  | 1, x, h => exact exok_1 h
  | 2, x, h => exact exok_2 h
  | 3, x, h => exact exok_3 h
  | 4, x, h => exact exok_4 h
  | 5, x, h => exact exok_5 h
  | 6, x, h => exact exok_6 h
  | 7, x, h => exact h.elim
  | 8, x, h => exact h.elim
  | 9, x, h => exact exok_9 h
  | 10, x, h => exact exok_10 h
  | 11, x, h => exact exOne_ok (tb := tbl) 11 rfl h
  | 12, x, h => exact exOne_ok (tb := tbl) 12 rfl h
  | 13, x, h => exact exok_13 h
  | 14, x, h => exact exOne_ok (tb := tbl) 14 rfl h
  | 15, x, h => exact exok_15 h
  | 16, x, h => exact exok_16 h
  | k + 17, x, h => exact ⟨_, _, h, rfl, rfl⟩
 fl := by
  intro n x η ζ m vs h
  match n, x, h with
  | 0, x, h => exact h
  | 1, x, h => exact h
  | 2, x, h => exact h
  | 3, x, h => exact h
  | 4, x, h => exact h
  | 5, x, h => exact h
  | 6, x, h => exact h
  | 7, x, h => exact h
  | 8, x, h => exact h
  | 9, x, h => exact h
  | 10, x, h => exact h
  | 11, x, h => exact h
  | 12, x, h => exact h
  | 13, x, h => exact h
  | 14, x, h => exact h
  | 15, x, h => exact h
  | 16, x, h => exact h
  | k + 17, x, h => exact h
 tou8 := by
  intro n l x h M hm
  match n, l, h, hm with
  | 1, l, h, hm => cases h; exact hm
  | 0, l, h, hm => cases h
  | k + 2, l, h, hm => cases h
 ofu8 := fun M hm => hm
 kd := kOk
theorem glob_of {m : Mem} : Glob tbl m := fun h => by cases h
noncomputable def c_ref11_Much : Con Tt := ⟨21, (sh [(.sl 2)]), (sh [.bool]), 1, [], [], fun x => ref11_Much x⟩
theorem ref11_Much_ok : ConOk Tryz.prog tbl c_ref11_Much := fn_ok (cs := []) (an := [([1, 1, 1, 0, 1, 0], .loop 0 ⟨[3, 4], [], (sh [.i64, .i64]), [0], []⟩ ⟨[], [], (sh []), [], []⟩), ([1, 1, 1, 0, 1, 0, 0, 1, 0, 0, 0, 0], .join ⟨[48], [], (sh [.bool]), [0, 3, 4], []⟩), ([1, 1, 1, 0, 1, 0, 0, 1, 0, 0, 1, 1, 0], .loop 2 ⟨[3, 5], [], (sh [.i64, .i64]), [0, 4], []⟩ ⟨[3], [], (sh [.i64]), [0, 4], []⟩)]) (fn := Tryz.f21) tOk conNil (by rfl) Tryz.func21 (by kernel_rfl) (fun _ _ => by rfl) (fun _ => by kernel_rfl) (by kernel_rfl) (fun x => by kernel_rfl)
noncomputable def c_ref11_in : Con Tt := ⟨129, (sh [.i64, .i64, .i64]), (sh [.bool]), 1, [], [], fun x => ref11_in x.1 x.2.1 x.2.2⟩
theorem ref11_in_ok : ConOk Tryz.prog tbl c_ref11_in := fn_ok (cs := []) (an := []) (fn := Tryz.f129) tOk conNil (by rfl) Tryz.func129 (by kernel_rfl) (fun _ _ => by rfl) (fun _ => by kernel_rfl) (by kernel_rfl) (fun x => by kernel_rfl)
noncomputable def c_ref10_Split : Con Tt := ⟨138, (sh [.str]), (sh [(.row 4 9), .i64]), 2, [], [], fun x => ref10_Split x⟩
theorem ref10_Split_ok : ConOk Tryz.prog tbl c_ref10_Split := fn_ok (cs := []) (an := [([1, 1, 0, 1, 0], .loop 0 ⟨[4], [], (sh [.i64]), [0], []⟩ ⟨[], [], (sh []), [0], []⟩), ([1, 1, 1, 1, 1, 0, 1, 0], .loop 2 ⟨[5, 6, 7], [], (sh [(.row 4 9), .i64, .i64]), [0], []⟩ ⟨[5], [], (sh [(.row 4 9)]), [], []⟩), ([1, 1, 1, 1, 1, 0, 1, 0, 0, 1, 0, 0, 0, 0], .join ⟨[37], [], (sh [.bool]), [0, 5, 6, 7], [0]⟩)]) (fn := Tryz.f138) tOk conNil (by rfl) Tryz.func138 (by kernel_rfl) (fun _ _ => by rfl) (fun _ => by kernel_rfl) (by kernel_rfl) (fun x => by kernel_rfl)
noncomputable def c_ref10_Valid : Con Tt := ⟨177, (sh [.str]), (sh [.bool]), 1, [], [], fun x => ref10_Valid x⟩
theorem ref10_Valid_ok : ConOk Tryz.prog tbl c_ref10_Valid := fn_ok (cs := []) (an := [([1, 0, 0], .join ⟨[19], [], (sh [.bool]), [0], []⟩), ([1, 1, 0, 1, 0], .loop 0 ⟨[3], [], (sh [.i64]), [0], []⟩ ⟨[], [], (sh []), [], []⟩)]) (fn := Tryz.f177) tOk conNil (by rfl) Tryz.func177 (by kernel_rfl) (fun _ _ => by rfl) (fun _ => by kernel_rfl) (by kernel_rfl) (fun x => by kernel_rfl)
noncomputable def c_ref10_Join : Con Tt := ⟨178, (sh [(.sl 4)]), (sh [.str, .i64]), 2, [], [], fun x => ref10_Join x⟩
theorem ref10_Join_ok : ConOk Tryz.prog tbl c_ref10_Join := fn_ok (cs := [c_ref10_Valid]) (an := [([1, 1, 1, 0, 1, 0], .loop 0 ⟨[4, 5], [], (sh [.str, .i64]), [0], []⟩ ⟨[4], [], (sh [.str]), [], []⟩), ([1, 1, 1, 0, 1, 0, 0, 1, 0, 0, 0, 0], .join ⟨[27], [], (sh [.bool]), [0, 4, 5], []⟩)]) (fn := Tryz.f178) tOk (conCons ref10_Valid_ok conNil) (by rfl) Tryz.func178 (by kernel_rfl) (fun _ _ => by rfl) (fun _ => by kernel_rfl) (by kernel_rfl) (fun x => by kernel_rfl)
noncomputable def c_ref11_path : Con Tt := ⟨130, (sh [(.agg (sh [.str, .i64, .i64, .i64, .i64, .i64, .i64, (.sl 1), .str, .i64, (.sl 3)]))]), (sh [.i64]), 1, [], [], fun x => ref11_path x.1 x.2.1 x.2.2.1 x.2.2.2.1 x.2.2.2.2.1 x.2.2.2.2.2.1 x.2.2.2.2.2.2.1 x.2.2.2.2.2.2.2.1 x.2.2.2.2.2.2.2.2.1 x.2.2.2.2.2.2.2.2.2.1 x.2.2.2.2.2.2.2.2.2.2⟩
theorem ref11_path_ok : ConOk Tryz.prog tbl c_ref11_path := fn_ok (cs := [c_ref10_Split, c_ref10_Valid, c_ref10_Join]) (an := [([1, 1, 1, 1, 0, 1, 0], .loop 0 ⟨[5], [], (sh [.i64]), [1, 3], [0, 1]⟩ ⟨[], [], (sh []), [1, 3], [0, 1]⟩)]) (fn := Tryz.f130) tOk (conCons ref10_Split_ok (conCons ref10_Valid_ok (conCons ref10_Join_ok conNil))) (by rfl) Tryz.func130 (by kernel_rfl) (fun _ _ => by rfl) (fun _ => by kernel_rfl) (by kernel_rfl) (fun x => by kernel_rfl)
noncomputable def c_ref11_Up : Con Tt := ⟨80, (sh [.str]), (sh [.str]), 1, [], [], fun x => ref11_Up x⟩
theorem ref11_Up_ok : ConOk Tryz.prog tbl c_ref11_Up := fn_ok (cs := []) (an := [([1, 0, 1, 0], .loop 0 ⟨[3], [], (sh [.i64]), [0], []⟩ ⟨[], [], (sh []), [], []⟩)]) (fn := Tryz.f80) tOk conNil (by rfl) Tryz.func80 (by kernel_rfl) (fun _ _ => by rfl) (fun _ => by kernel_rfl) (by kernel_rfl) (fun x => by kernel_rfl)
noncomputable def c_ref11_text : Con Tt := ⟨179, (sh [.str, .i64, .i64]), (sh [.bool]), 1, [], [], fun x => ref11_text x.1 x.2.1 x.2.2⟩
theorem ref11_text_ok : ConOk Tryz.prog tbl c_ref11_text := fn_ok (cs := [c_ref11_in]) (an := [([1, 1, 0, 1, 0], .loop 0 ⟨[7], [], (sh [.i64]), [0], []⟩ ⟨[], [], (sh []), [], []⟩)]) (fn := Tryz.f179) tOk (conCons ref11_in_ok conNil) (by rfl) Tryz.func179 (by kernel_rfl) (fun _ _ => by rfl) (fun _ => by kernel_rfl) (by kernel_rfl) (fun x => by kernel_rfl)
noncomputable def c_ref11_fields : Con Tt := ⟨131, (sh [(.agg (sh [.str, .i64, .i64, .i64, .i64, .i64, .i64, (.sl 1), .str, .i64, (.sl 3)]))]), (sh [.i64]), 1, [], [], fun x => ref11_fields x.1 x.2.1 x.2.2.1 x.2.2.2.1 x.2.2.2.2.1 x.2.2.2.2.2.1 x.2.2.2.2.2.2.1 x.2.2.2.2.2.2.2.1 x.2.2.2.2.2.2.2.2.1 x.2.2.2.2.2.2.2.2.2.1 x.2.2.2.2.2.2.2.2.2.2⟩
theorem ref11_fields_ok : ConOk Tryz.prog tbl c_ref11_fields := fn_ok (cs := [c_ref11_in, c_ref11_text]) (an := [([1, 0, 0], .join ⟨[27], [], (sh [.bool]), [1], [0]⟩), ([1, 1, 0, 0], .join ⟨[67], [], (sh [.bool]), [1], [0]⟩), ([1, 1, 1, 0, 1, 0], .loop 0 ⟨[3], [], (sh [.i64]), [1], [0]⟩ ⟨[], [], (sh []), [1], [0]⟩), ([1, 1, 1, 1, 0, 1, 0], .loop 2 ⟨[4], [], (sh [.i64]), [1], [0]⟩ ⟨[], [], (sh []), [], [0]⟩), ([1, 1, 1, 1, 0, 1, 0, 0, 1, 0, 0, 1, 0], .loop 4 ⟨[5], [], (sh [.i64]), [1, 4], [0]⟩ ⟨[], [], (sh []), [1, 4], [0]⟩), ([1, 1, 1, 1, 0, 1, 0, 0, 1, 0, 0, 1, 0, 0, 1, 0, 0, 0], .lock [0])]) (fn := Tryz.f131) tOk (conCons ref11_in_ok (conCons ref11_text_ok conNil)) (by rfl) Tryz.func131 (by kernel_rfl) (fun _ _ => by rfl) (fun _ => by kernel_rfl) (by kernel_rfl) (fun x => by kernel_rfl)
noncomputable def c_ref11_entry : Con Tt := ⟨74, (sh [(.sl 2), .i64]), (sh [.i64]), 1, [], [], fun x => ref11_entry x.1 x.2⟩
theorem ref11_entry_ok : ConOk Tryz.prog tbl c_ref11_entry := fn_ok (cs := [c_ref11_in, c_ref11_path, c_ref11_Up, c_ref11_fields]) (an := [([1, 1, 1, 1, 1, 0, 1, 0], .loop 0 ⟨[7], [], (sh [.i64]), [0, 1, 5], [0]⟩ ⟨[], [], (sh []), [0, 5], [0]⟩), ([1, 1, 1, 1, 1, 0, 1, 0, 0, 1, 0, 0, 0], .lock [0]), ([1, 1, 1, 1, 1, 1, 1, 0, 1, 0], .loop 2 ⟨[8, 9, 10], [], (sh [.bool, .bool, .i64]), [0, 5], [0]⟩ ⟨[8, 9], [], (sh [.bool, .bool]), [5], [0]⟩), ([1, 1, 1, 1, 1, 1, 1, 0, 1, 0, 0, 1, 0, 0, 0], .lockJ [0] ⟨[8], [], (sh [.bool]), [0, 5, 9, 10], [0]⟩), ([1, 1, 1, 1, 1, 1, 1, 0, 1, 0, 0, 1, 0, 0, 1], .lock [0]), ([1, 1, 1, 1, 1, 1, 1, 1, 0, 0], .join ⟨[104], [], (sh [.bool]), [5], [0]⟩)]) (fn := Tryz.f74) tOk (conCons ref11_in_ok (conCons ref11_path_ok (conCons ref11_Up_ok (conCons ref11_fields_ok conNil)))) (by rfl) Tryz.func74 (by kernel_rfl) (fun _ _ => by rfl) (fun _ => by kernel_rfl) (by kernel_rfl) (fun x => by kernel_rfl)
noncomputable def c_ref11_Check : Con Tt := ⟨33, (sh [(.sl 2)]), (sh [.i64, .i64]), 2, [], [], fun x => ref11_Check x⟩
theorem ref11_Check_ok : ConOk Tryz.prog tbl c_ref11_Check := fn_ok (cs := [c_ref11_entry]) (an := [([1, 1, 1, 0, 1, 0], .loop 0 ⟨[4, 5], [], (sh [.i64, .i64]), [0], []⟩ ⟨[], [], (sh []), [0], []⟩), ([1, 1, 1, 1, 0, 1, 0], .loop 2 ⟨[6], [], (sh [.i64]), [0], []⟩ ⟨[], [], (sh []), [], []⟩)]) (fn := Tryz.f33) tOk (conCons ref11_entry_ok conNil) (by rfl) Tryz.func33 (by kernel_rfl) (fun _ _ => by rfl) (fun _ => by kernel_rfl) (by kernel_rfl) (fun x => by kernel_rfl)
noncomputable def c_ref11_Attrs : Con Tt := ⟨137, (sh [(.sl 3)]), (sh [(.row 3 109)]), 1, [], [], fun x => ref11_Attrs x⟩
theorem ref11_Attrs_ok : ConOk Tryz.prog tbl c_ref11_Attrs := fn_ok (cs := []) (an := [([1, 1, 0, 0], .loop 0 ⟨[3], [], (sh [(.row 3 109)]), [0], []⟩ ⟨[3], [], (sh [(.row 3 109)]), [], []⟩), ([1, 1, 0, 0, 0, 1, 0, 1, 0, 1, 0], .loop 2 ⟨[4, 5], [], (sh [.i64, .i64]), [0, 3], [0]⟩ ⟨[4], [], (sh [.i64]), [0, 3], [0]⟩), ([1, 1, 0, 0, 0, 1, 0, 1, 0, 1, 0, 0, 1, 0, 0, 1, 0, 1, 0], .loop 4 ⟨[6, 7], [], (sh [.bool, .i64]), [0, 3, 4, 5], [0]⟩ ⟨[6], [], (sh [.bool]), [0, 3, 4, 5], [0]⟩)]) (fn := Tryz.f137) tOk conNil (by rfl) Tryz.func137 (by kernel_rfl) (fun _ _ => by rfl) (fun _ => by kernel_rfl) (by kernel_rfl) (fun x => by kernel_rfl)
noncomputable def c_ref11_Node : Con Tt := ⟨77, (sh [(.agg (sh [.str, .i64, .i64, .i64, .i64, .i64, .i64, (.sl 1), .str, .i64, (.sl 3)]))]), (sh [(.agg (sh [.i64, .i64, .i64, .i64, .i64, .i64, (.sl 1), .str, .i64, (.sl 3), (.row 5 138), .i64, .i64]))]), 1, [], [], fun x => ref11_Node x.1 x.2.1 x.2.2.1 x.2.2.2.1 x.2.2.2.2.1 x.2.2.2.2.2.1 x.2.2.2.2.2.2.1 x.2.2.2.2.2.2.2.1 x.2.2.2.2.2.2.2.2.1 x.2.2.2.2.2.2.2.2.2.1 x.2.2.2.2.2.2.2.2.2.2⟩
theorem ref11_Node_ok : ConOk Tryz.prog tbl c_ref11_Node := fn_ok (cs := [c_ref11_Attrs]) (an := [([1, 0], .lockJ [0] ⟨[3], [], (sh [(.own 77 (sh [.i64, .i64, .i64, .i64, .i64, .i64, (.row 1 5), .str, .i64, (.row 3 109), (.row 5 138), .i64, .i64]))]), [1, 2], [0, 1]⟩), ([1, 1, 0, 1], .join ⟨[], [(2, 77)], (sh [(.agg (sh [.i64, .i64, .i64, .i64, .i64, .i64, (.sl 1), .str, .i64, (.row 3 109), (.row 5 138), .i64, .i64]))]), [1, 2, 3], [0, 1]⟩), ([1, 1, 0, 1, 0, 0], .lock [0]), ([1, 1, 0, 1, 0, 1, 0], .loop 0 ⟨[], [(2, 77)], (sh [(.agg (sh [.i64, .i64, .i64, .i64, .i64, .i64, (.sl 1), .str, .i64, (.row 3 109), (.row 5 138), .i64, .i64]))]), [1, 2, 3], [0, 1, 3]⟩ ⟨[], [(2, 77)], (sh [(.agg (sh [.i64, .i64, .i64, .i64, .i64, .i64, (.sl 1), .str, .i64, (.row 3 109), (.row 5 138), .i64, .i64]))]), [1, 2, 3], [0, 1, 3]⟩), ([1, 1, 1, 0, 1], .join ⟨[], [(2, 77)], (sh [(.agg (sh [.i64, .i64, .i64, .i64, .i64, .i64, (.sl 1), .str, .i64, (.row 3 109), (.row 5 138), .i64, .i64]))]), [1, 2, 3], [0, 1]⟩)]) (fn := Tryz.f77) tOk (conCons ref11_Attrs_ok conNil) (by rfl) Tryz.func77 (by kernel_rfl) (fun _ _ => by rfl) (fun _ => by kernel_rfl) (by kernel_rfl) (fun x => by kernel_rfl)
noncomputable def c_ref10_length : Con Tt := ⟨184, (sh [.i64, .i64]), (sh [.i64]), 1, [], [], fun x => ref10_length x.1 x.2⟩
theorem ref10_length_ok : ConOk Tryz.prog tbl c_ref10_length := fn_ok (cs := []) (an := []) (fn := Tryz.f184) tOk conNil (by rfl) Tryz.func184 (by kernel_rfl) (fun _ _ => by rfl) (fun _ => by kernel_rfl) (by kernel_rfl) (fun x => by kernel_rfl)
noncomputable def c_ref10_text : Con Tt := ⟨183, (sh [.str, .str]), (sh [.i64]), 1, [], [], fun x => ref10_text x.1 x.2⟩
theorem ref10_text_ok : ConOk Tryz.prog tbl c_ref10_text := fn_ok (cs := [c_ref10_length]) (an := [([1, 0, 1, 0], .loop 0 ⟨[5], [], (sh [.i64]), [0, 1], []⟩ ⟨[], [], (sh []), [0, 1], []⟩), ([1, 0, 1, 0, 0, 0, 0], .join ⟨[15], [], (sh [.bool]), [0, 1, 5], []⟩)]) (fn := Tryz.f183) tOk (conCons ref10_length_ok conNil) (by rfl) Tryz.func183 (by kernel_rfl) (fun _ _ => by rfl) (fun _ => by kernel_rfl) (by kernel_rfl) (fun x => by kernel_rfl)
noncomputable def c_ref10_Order : Con Tt := ⟨139, (sh [(.sl 4), (.sl 4)]), (sh [.i64]), 1, [], [], fun x => ref10_Order x.1 x.2⟩
theorem ref10_Order_ok : ConOk Tryz.prog tbl c_ref10_Order := fn_ok (cs := [c_ref10_text, c_ref10_length]) (an := [([1, 0, 1, 0], .loop 0 ⟨[5], [], (sh [.i64]), [0, 1], []⟩ ⟨[], [], (sh []), [0, 1], []⟩), ([1, 0, 1, 0, 0, 0, 0], .join ⟨[16], [], (sh [.bool]), [0, 1, 5], []⟩)]) (fn := Tryz.f139) tOk (conCons ref10_text_ok (conCons ref10_length_ok conNil)) (by rfl) Tryz.func139 (by kernel_rfl) (fun _ _ => by rfl) (fun _ => by kernel_rfl) (by kernel_rfl) (fun x => by kernel_rfl)
noncomputable def c_ref11_Order : Con Tt := ⟨78, (sh [(.sl 2)]), (sh [(.row 10 3)]), 1, [], [], fun x => ref11_Order x⟩
theorem ref11_Order_ok : ConOk Tryz.prog tbl c_ref11_Order := fn_ok (cs := [c_ref10_Split, c_ref10_Order]) (an := [([1, 1, 1, 0], .loop 0 ⟨[3, 4], [], (sh [(.row 10 3), (.row 9 4)]), [0], []⟩ ⟨[], [], (sh []), [], []⟩), ([1, 1, 1, 0, 0, 0, 1, 1, 0, 1, 0], .loop 2 ⟨[5, 6, 7], [], (sh [.i64, (.sl 4), .i64]), [0, 3, 4], [1, 2]⟩ ⟨[5], [], (sh [.i64]), [0, 3, 4], [1, 2]⟩), ([1, 1, 1, 0, 0, 0, 1, 1, 0, 1, 0, 0, 1, 0, 0, 0, 0], .join ⟨[30], [], (sh [.bool]), [0, 3, 4, 5, 6, 7], [1, 2]⟩)]) (fn := Tryz.f78) tOk (conCons ref10_Split_ok (conCons ref10_Order_ok conNil)) (by rfl) Tryz.func78 (by kernel_rfl) (fun _ _ => by rfl) (fun _ => by kernel_rfl) (by kernel_rfl) (fun x => by kernel_rfl)
noncomputable def c_ref11_owner : Con Tt := ⟨79, (sh [(.sl 2), .i64]), (sh [.i64]), 1, [], [], fun x => ref11_owner x.1 x.2⟩
theorem ref11_owner_ok : ConOk Tryz.prog tbl c_ref11_owner := fn_ok (cs := []) (an := [([1, 1, 0, 1, 0], .loop 0 ⟨[5], [], (sh [.i64]), [0, 1], []⟩ ⟨[], [], (sh []), [1], []⟩)]) (fn := Tryz.f79) tOk conNil (by rfl) Tryz.func79 (by kernel_rfl) (fun _ _ => by rfl) (fun _ => by kernel_rfl) (by kernel_rfl) (fun x => by kernel_rfl)
noncomputable def c_ref11_Last : Con Tt := ⟨81, (sh [.str]), (sh [.str]), 1, [], [], fun x => ref11_Last x⟩
theorem ref11_Last_ok : ConOk Tryz.prog tbl c_ref11_Last := fn_ok (cs := []) (an := [([1, 0, 1, 0], .loop 0 ⟨[3], [], (sh [.i64]), [0], []⟩ ⟨[], [], (sh []), [0], []⟩)]) (fn := Tryz.f81) tOk conNil (by rfl) Tryz.func81 (by kernel_rfl) (fun _ _ => by rfl) (fun _ => by kernel_rfl) (by kernel_rfl) (fun x => by kernel_rfl)
noncomputable def c_ref11_Canon : Con Tt := ⟨36, (sh [(.sl 2)]), (sh [(.agg (sh [(.sl 6)]))]), 1, [], [], fun x => ref11_Canon x⟩
theorem ref11_Canon_ok : ConOk Tryz.prog tbl c_ref11_Canon := fn_ok (cs := [c_ref11_Node, c_ref11_Order, c_ref11_owner, c_ref11_Up, c_ref11_Last]) (an := [([1, 1, 0, 1, 0], .loop 0 ⟨[4], [(1, 40)], (sh [.i64, (.agg (sh [.str, .i64, .i64, .i64, .i64, .i64, .i64, (.sl 1), .str, .i64, (.sl 3)]))]), [0, 2, 3], [0]⟩ ⟨[], [(1, 40)], (sh [(.agg (sh [.str, .i64, .i64, .i64, .i64, .i64, .i64, (.sl 1), .str, .i64, (.sl 3)]))]), [0, 2, 3], [0]⟩), ([1, 1, 1, 1, 1, 1, 1, 0, 1, 0], .loop 2 ⟨[6, 8], [(4, 25)], (sh [(.row 10 3), .i64, (.agg (sh [(.gen 7)]))]), [0, 2, 5, 7], [0, 1, 5]⟩ ⟨[], [(4, 25)], (sh [(.agg (sh [(.gen 7)]))]), [2, 5], [0, 1, 5]⟩), ([1, 1, 1, 1, 1, 1, 1, 0, 1, 0, 0, 1, 0, 0, 1, 1, 1, 0, 1, 0], .loop 4 ⟨[11, 12], [], (sh [.i64, .i64]), [0, 2, 5, 6, 7, 8, 9, 10], [0, 1, 4, 5, 6, 7]⟩ ⟨[11], [], (sh [.i64]), [0, 2, 5, 6, 7, 8, 9, 10], [0, 1, 4, 5, 6, 7]⟩), ([1, 1, 1, 1, 1, 1, 1, 0, 1, 0, 0, 1, 0, 0, 1, 1, 1, 1, 0, 1], .join ⟨[6, 11], [(4, 25)], (sh [(.row 10 3), .i64, (.agg (sh [(.gen 7)]))]), [0, 2, 5, 7, 8, 9, 10], [0, 1, 5]⟩), ([1, 1, 1, 1, 1, 1, 1, 0, 1, 0, 0, 1, 0, 0, 1, 1, 1, 1, 0, 1, 0, 1, 1, 0], .join ⟨[], [(4, 25)], (sh [(.agg (sh [(.gen 7)]))]), [0, 2, 5, 6, 7, 8, 9, 10, 11], [0, 1, 5, 9]⟩), ([1, 1, 1, 1, 1, 1, 1, 0, 1, 0, 0, 1, 0, 0, 1, 1, 1, 1, 0, 1, 0, 1, 1, 1, 1], .join ⟨[], [(4, 25)], (sh [(.agg (sh [(.gen 7)]))]), [0, 2, 5, 6, 7, 8, 9, 10, 11], [0, 1, 5, 9]⟩), ([1, 1, 1, 1, 1, 1, 1, 0, 1, 0, 0, 1, 0, 0, 1, 1, 1, 1, 1, 1, 0, 1, 0], .loop 6 ⟨[13, 14], [], (sh [.i64, .i64]), [0, 2, 5, 6, 7, 8, 9, 10, 11], [0, 1, 4, 5, 8, 9]⟩ ⟨[13], [], (sh [.i64]), [0, 2, 5, 6, 7, 8, 9, 10, 11], [0, 1, 4, 5, 8, 9]⟩), ([1, 1, 1, 1, 1, 1, 1, 0, 1, 0, 0, 1, 0, 0, 1, 1, 1, 1, 1, 1, 0, 1, 0, 0, 1, 0, 0, 0], .join ⟨[129], [], (sh [.bool]), [0, 2, 5, 6, 7, 8, 9, 10, 11, 13, 14], [0, 1, 4, 5, 8, 9]⟩), ([1, 1, 1, 1, 1, 1, 1, 0, 1, 0, 0, 1, 0, 0, 1, 1, 1, 1, 1, 1, 1, 0], .lockJ [4] ⟨[], [(4, 25)], (sh [(.agg (sh [(.gen 7)]))]), [0, 2, 5, 6, 7, 8, 10, 11, 13], [0, 1, 5, 8]⟩)]) (fn := Tryz.f36) tOk (conCons ref11_Node_ok (conCons ref11_Order_ok (conCons ref11_owner_ok (conCons ref11_Up_ok (conCons ref11_Last_ok conNil))))) (by rfl) Tryz.func36 (by kernel_rfl) (fun _ _ => by rfl) (fun _ => by kernel_rfl) (by kernel_rfl) (fun x => by kernel_rfl)
noncomputable def c_law29_of : Con Tt := ⟨15, (sh [(.sl 2)]), (sh [(.agg (sh [(.sl 6)])), .bool]), 2, [], [], fun x => law29_of x⟩
theorem law29_of_ok : ConOk Tryz.prog tbl c_law29_of := fn_ok (cs := [c_ref11_Much, c_ref11_Check, c_ref11_Canon]) (an := []) (fn := Tryz.f15) tOk (conCons ref11_Much_ok (conCons ref11_Check_ok (conCons ref11_Canon_ok conNil))) (by rfl) Tryz.func15 (by kernel_rfl) (fun _ _ => by rfl) (fun _ => by kernel_rfl) (by kernel_rfl) (fun x => by kernel_rfl)
noncomputable def cat_List : Cat := ⟨106, 2, 0, fun _ => [(0, .nil), (1, .num 1)]⟩
theorem cat_List_idle (p q : Value) (w : World) : CallsDIn (Fr none) 0 Tryz.prog 106 #[p, q] .returning w fun e u' w' => e = .returned (.tuple #[]) ∧ u' = .returning ∧ w' = w := by
 refine callsDIn_of_wpSIn Tryz.func106 rfl (by simp [Fr]) fun c₀ cs hu => ?_
 apply wpSIn_seq
 apply wpSIn_region
 simp [wpOpsSIn, go_sem, recoverD, hu, Tryz.ntmps106, Exit.thenS]
 apply wpSIn_seq
 apply wpSIn_region
 simp [wpOpsSIn, go_sem, recoverD, hu, Tryz.ntmps106, Exit.thenS]
 refine wpSIn_cond (t := false) (by simp [Act.eval, Array.replicate]) ?_
 simp only [Bool.false_eq_true, if_false]
 refine wpSIn_of_wpIn rfl (wpIn_skip ?_)
 cases c₀
 simp_all [bodyPostS, results, Tryz.results106]
theorem cat_List_as (w : World) : (Instr.typeAssert (.iface 179 (.agg #[])) 20 179 true).run Tryz.prog w = .ok (.tuple #[.agg #[], .bool true]) w := by kernel_rfl
theorem cat_List_al (w : World) : (Instr.alloc 179 true (.tuple #[])).run Tryz.prog w = .ok (.pointer (some ⟨w.heap.size, 0, none⟩)) (w.alloc (.cells #[] 179)) := by kernel_rfl
set_option maxRecDepth 8000 in
theorem cat_List_catch (p q : Addr) (x y : Value) (w : World) (hp : w.cell? p = some x) (hq : w.cell? q = some y) (hpz : w.frozen? p = false) (hqz : w.frozen? q = false) (hpb : p.block < w.heap.size) (hqb : q.block < w.heap.size) (hpq : p.block ≠ q.block) :
  CallsDIn (Fr none) 0 Tryz.prog 106 #[.pointer (some p), .pointer (some q)] (.panicking (pnV 179 [])) w fun e u' w' => e = .returned (.tuple #[]) ∧ u' = .panicking [{ v := .iface 179 (.agg #[]), recovered := true }] ∧
   w' = ((w.alloc (.cells #[] 179)).setCell p (.slice none 0 0)).setCell q (.int .i64 1) := by
 refine callsDIn_of_wpSIn Tryz.func106 rfl (by simp [Fr]) fun c₀ cs hu => ?_
 have hu : c₀.mode = .panicking [{ v := .iface 179 (.agg #[]), recovered := false }] := hu
 apply wpSIn_seq
 apply wpSIn_region
 simp [wpOpsSIn, go_sem, recoverD, hu, Tryz.ntmps106, Exit.thenS]
 apply wpSIn_seq
 apply wpSIn_region
 simp [wpOpsSIn, go_sem, recoverD, hu, Tryz.ntmps106, Exit.thenS]
 refine wpSIn_cond (t := true) (by simp [Act.eval, Array.replicate]) ?_
 simp only [if_true]
 apply wpSIn_seq
 apply wpSIn_seq
 apply wpSIn_region
 simp [wpOpsSIn, go_sem, recoverD, hu, Tryz.ntmps106, Exit.thenS, cat_List_as, cat_List_al]
 apply wpSIn_seq
 apply wpSIn_region
 simp [wpOpsSIn, go_sem, Tryz.ntmps106, Exit.thenS]
 refine wpSIn_cond (t := false) (by simp [Act.eval, Array.replicate]) ?_
 simp only [Bool.false_eq_true, if_false]
 refine wpSIn_of_wpIn rfl (wpIn_skip ?_)
 simp only [Exit.thenS]
 apply wpSIn_region
 have ha : ∀ k, k < w.heap.size → (w.alloc (.cells #[] 179)).heap[k]? = w.heap[k]? := fun k hk => heap_alloc_old w _ hk
 have hp1 : (w.alloc (.cells #[] 179)).cell? p = some x := by unfold World.cell? at hp ⊢; rw [ha _ hpb]; exact hp
 have hp2 : (w.alloc (.cells #[] 179)).frozen? p = false := by unfold World.frozen? at hpz ⊢; rw [ha _ hpb]; exact hpz
 have hne : p ≠ q := fun e => hpq (by rw [e])
 have hq0 : (w.alloc (.cells #[] 179)).cell? q = some y := by unfold World.cell? at hq ⊢; rw [ha _ hqb]; exact hq
 have hq0' : (w.alloc (.cells #[] 179)).frozen? q = false := by unfold World.frozen? at hqz ⊢; rw [ha _ hqb]; exact hqz
 have hq1 : ((w.alloc (.cells #[] 179)).setCell p (.slice none 0 0)).cell? q = some y := by rw [World.cell?_setCell_other (h := by first | exact hne | exact fun e => hne e.symm)]; exact hq0
 have hq2 : ((w.alloc (.cells #[] 179)).setCell p (.slice none 0 0)).frozen? q = false := by rw [World.frozen?_setCell]; exact hq0'
 simp [wpOpsSIn, go_sem, hp1, hp2, hq1, hq2, bodyPostS, results, Tryz.results106]
theorem cat_List_ok : CatOk Tryz.prog 179 cat_List where
 call := fun _ _ => by rfl
 idle vals w h := by
  match vals, h with
  | [p, q], _ => exact cat_List_idle p q w
 catch_ l vals w h hl hc := by
  match l, vals, h, hl, hc with
  | [], [p, q], _, _, ⟨⟨a, x, h1, h2, h3, h4, h5⟩, ⟨b, y, k1, k2, k3, k4, _⟩, _⟩ =>
   have e1 : p = .pointer (some a) := Option.some.inj h1
   have e2 : q = .pointer (some b) := Option.some.inj k1
   clear h1 k1
   subst e1
   subst e2
   have hab : b.block ≠ a.block := h5 (1, .num 1) (List.mem_cons_self ..) b rfl
   exact (cat_List_catch a b x y w h2 k2 h3 k3 h4 k4 (Ne.symm hab)).mono fun e u' w' ⟨e1, e2, e3⟩ => ⟨e1, by rw [e2]; rfl, _, ex_allocO _ _, e3⟩
noncomputable def c_bytes_Clone_w : Con Tt := ⟨114, (sh [(.sl 1)]), (sh [(.row 1 5)]), 1, [], [], fun x => bytes_Clone_w x⟩
theorem bytes_Clone_w_ok : ConOk Tryz.prog tbl c_bytes_Clone_w := fn_ok (cs := []) (an := []) (fn := Tryz.f114) tOk conNil (by rfl) Tryz.func114 (by kernel_rfl) (fun _ _ => by rfl) (fun _ => by kernel_rfl) (by kernel_rfl) (fun x => by kernel_rfl)
noncomputable def c_bytes_Clone : Con Tt := ⟨114, (sh [(.sl 1)]), (sh [(.row 1 5)]), 1, [], [], fun x => bytes_Clone x⟩
theorem bytes_Clone_ok : ConOk Tryz.prog tbl c_bytes_Clone := ConOk.congr bytes_Clone_w_ok (fun x => clone_eq x)
noncomputable def c_cmp_isNaN_string : Con Tt := ⟨234, (sh [.str]), (sh [.bool]), 1, [], [], fun x => cmp_isNaN_string x⟩
theorem cmp_isNaN_string_ok : ConOk Tryz.prog tbl c_cmp_isNaN_string := fn_ok (cs := []) (an := []) (fn := Tryz.f234) tOk conNil (by rfl) Tryz.func234 (by kernel_rfl) (fun _ _ => by rfl) (fun _ => by kernel_rfl) (by kernel_rfl) (fun x => by kernel_rfl)
noncomputable def c_cmp_Compare_string : Con Tt := ⟨202, (sh [.str, .str]), (sh [.i64]), 1, [], [], fun x => cmp_Compare_string x.1 x.2⟩
theorem cmp_Compare_string_ok : ConOk Tryz.prog tbl c_cmp_Compare_string := fn_ok (cs := [c_cmp_isNaN_string]) (an := []) (fn := Tryz.f202) tOk (conCons cmp_isNaN_string_ok conNil) (by rfl) Tryz.func202 (by kernel_rfl) (fun _ _ => by rfl) (fun _ => by kernel_rfl) (by kernel_rfl) (fun x => by kernel_rfl)
noncomputable def c_tree_attrs_1 : Con Tt := ⟨201, (sh [(.agg (sh [.str, (.sl 1)])), (.agg (sh [.str, (.sl 1)]))]), (sh [.i64]), 1, [], [], fun x => tree_attrs_1 x.1.1 x.1.2 x.2.1 x.2.2⟩
theorem tree_attrs_1_ok : ConOk Tryz.prog tbl c_tree_attrs_1 := fn_ok (cs := [c_cmp_Compare_string]) (an := []) (fn := Tryz.f201) tOk (conCons cmp_Compare_string_ok conNil) (by rfl) Tryz.func201 (by kernel_rfl) (fun _ _ => by rfl) (fun _ => by kernel_rfl) (by kernel_rfl) (fun x => by kernel_rfl)
noncomputable def c_sort_Attr : Con Tt := ⟨200, (sh [(.row 3 109), (.fn 201 0 (sh []))]), (sh [(.row 3 109)]), 0, [], [0], fun x => sort_Attr x.1⟩
theorem sort_Attr_cmp : CmpOk Tryz.prog tbl 201 3 (fun x y => tree_attrs_1 x.Name x.Value y.Name y.Value) := fun x y v h m w cs ds hm hg hx hy => by
 refine (ConOk.plain tree_attrs_1_ok Tryz.call201 hm hg ((x.Name, x.Value), (y.Name, y.Value)) [.agg cs.toArray, .agg ds.toArray] ⟨_, _, rfl, ⟨cs, rfl, tOk.ex hx⟩, _, _, rfl, ⟨ds, rfl, tOk.ex hy⟩, rfl⟩ rfl rfl h [.int .i64 v] rfl (fun η m vs hr => ?_)).mono ?_
 ·obtain ⟨u, rfl, e⟩ := RL.one (show RL tbl η m [.i64 v] vs from hr)
  rw [show u = _ from e]
 ·rintro e w' ⟨u, rfl, rfl, hex⟩
  exact ⟨rfl, hex⟩
theorem sort_Attr_ok : ConOk Tryz.prog tbl c_sort_Attr := sort_ok (n := 3) tOk laysAttr (by rfl) Tryz.isAgg109 Tryz.sizeOf109 (by decide) (fun _ _ => by rfl) (fun _ _ => by rfl) (fun l l' h => sortBy_spec (α := TApiAttr) h) sort_Attr_cmp
noncomputable def c_tree_attrs : Con Tt := ⟨161, (sh [(.sl 3)]), (sh [(.row 3 109)]), 1, [], [], fun x => tree_attrs x⟩
theorem tree_attrs_ok : ConOk Tryz.prog tbl c_tree_attrs := fn_ok (cs := [c_bytes_Clone, c_sort_Attr]) (an := [([1, 1, 0, 1, 0], .loop 0 ⟨[3, 8], [], (sh [(.row 3 109), .i64]), [6, 7], []⟩ ⟨[3], [], (sh [(.row 3 109)]), [], []⟩), ([1, 1, 0, 1, 0, 0, 1, 1, 0, 0, 1], .lock [1])]) (fn := Tryz.f161) tOk (conCons bytes_Clone_ok (conCons sort_Attr_ok conNil)) (by rfl) Tryz.func161 (by kernel_rfl) (fun _ _ => by rfl) (fun _ => by kernel_rfl) (by kernel_rfl) (fun x => by kernel_rfl)
noncomputable def c_tree_lister_add (n : Nat) : ConP 0 Tt := ⟨107, (sh [(.own 184 (sh [(.sl 6), (.gen 11), (.row 2 40)])), .i64, .str, .i64]), (sh [(.agg (sh [(.sl 6), (.gen 11), (.row 2 40)]))]), 0, [(0, 184)], [], fun x => tree_lister_add n x.1.1 x.1.2.1 x.1.2.2 x.2.1 x.2.2.1 x.2.2.2⟩
theorem tree_lister_add_ok : ∀ n, ConPOk Tryz.prog tbl 179 (c_tree_lister_add n)
 | 0 => conP0 fun _ => rfl
 | n + 1 => fnP_ok (cs := [c_bytes_Clone, c_tree_attrs]) (an := [([0, 0], .join ⟨[36], [], (sh [.bool]), [0, 1, 2, 3], [0, 1, 2]⟩), ([1, 1, 1, 1, 0], .lockJ [3] ⟨[], [(0, 184)], (sh [(.agg (sh [(.sl 6), (.gen 11), (.row 2 40)]))]), [0, 2, 3, 8], [3]⟩), ([1, 1, 1, 1, 1, 1, 0], .loop 0 ⟨[116], [(0, 184)], (sh [.i64, (.agg (sh [(.sl 6), (.gen 11), (.row 2 40)]))]), [0, 2, 3, 114, 115], [3]⟩ ⟨[], [(0, 184)], (sh [(.agg (sh [(.sl 6), (.gen 11), (.row 2 40)]))]), [], [3]⟩)]) (ps := [c_tree_lister_add n]) (pt := 179) (fn := Tryz.f107) tOk (conCons bytes_Clone_ok (conCons tree_attrs_ok conNil)) (by rfl) (conPCons (tree_lister_add_ok n) conPNil) Tryz.func107 (by kernel_rfl) (fun _ _ => by rfl) (fun _ => by kernel_rfl) (by kernel_rfl) (fun x => by kernel_rfl)
noncomputable def c_tree_index : Con Tt := ⟨101, (sh [(.sl 2)]), (sh [(.own 175 (sh [(.sl 2), (.gen 12), (.gen 12), (.gen 12)]))]), 1, [], [], fun x => tree_index x⟩
theorem tree_index_ok : ConOk Tryz.prog tbl c_tree_index := fn_ok (cs := []) (an := [([1, 1, 0, 1, 0], .loop 0 ⟨[16], [(3, 175)], (sh [.i64, (.agg (sh [(.sl 2), (.gen 12), (.gen 12), (.gen 12)]))]), [3, 14, 15], []⟩ ⟨[], [(3, 175)], (sh [(.agg (sh [(.sl 2), (.gen 12), (.gen 12), (.gen 12)]))]), [3], []⟩), ([1, 1, 0, 1, 0, 0, 1, 1, 0, 0, 1, 0, 0], .lock [3, 7]), ([1, 1, 0, 1, 0, 0, 1, 1, 0, 0, 1, 0, 1, 1], .join ⟨[], [(3, 175)], (sh [(.agg (sh [(.sl 2), (.gen 12), (.gen 12), (.gen 12)]))]), [3, 5, 14, 15, 16], [7]⟩), ([1, 1, 0, 1, 0, 0, 1, 1, 0, 0, 1, 0, 1, 1, 0], .lock [3, 7]), ([1, 1, 0, 1, 0, 0, 1, 1, 0, 0, 1, 1, 0, 1, 0], .lock [3, 7]), ([1, 1, 0, 1, 0, 0, 1, 1, 0, 0, 1, 1, 0, 1, 1, 1, 0], .lock [3, 7])]) (fn := Tryz.f101) tOk conNil (by rfl) Tryz.func101 (by kernel_rfl) (fun _ _ => by rfl) (fun _ => by kernel_rfl) (by kernel_rfl) (fun x => by kernel_rfl)
noncomputable def c_tree_between : Con Tt := ⟨197, (sh [.i64, .i64, .i64]), (sh [.bool]), 1, [], [], fun x => tree_between x.1 x.2.1 x.2.2⟩
theorem tree_between_ok : ConOk Tryz.prog tbl c_tree_between := fn_ok (cs := []) (an := []) (fn := Tryz.f197) tOk conNil (by rfl) Tryz.func197 (by kernel_rfl) (fun _ _ => by rfl) (fun _ => by kernel_rfl) (by kernel_rfl) (fun x => by kernel_rfl)
noncomputable def c_ctb : Con Tt := ⟨271, (sh [.str, .u8]), (sh [.i64]), 1, [], [], fun x => ctb x.1 x.2⟩
theorem ctbC_ok : ConOk Tryz.prog tbl c_ctb := E.ctb_ok Tryz.func271 (by kernel_rfl) (by kernel_rfl) (by kernel_rfl) (by kernel_rfl)
noncomputable def c_strings_Count : Con Tt := ⟨239, (sh [.str, (.lit [47])]), (sh [.i64]), 1, [], [], fun x => strings_Count x.1⟩
theorem strings_Count_ok : ConOk Tryz.prog tbl c_strings_Count := fn_ok (cs := [c_ctb]) (an := []) (fn := Tryz.f239) tOk (conCons ctbC_ok conNil) (by rfl) Tryz.func239 (by kernel_rfl) (fun _ _ => by rfl) (fun _ => by kernel_rfl) (by kernel_rfl) (fun x => by kernel_rfl)
noncomputable def c_ixb : Con Tt := ⟨221, (sh [.str, .u8]), (sh [.i64]), 1, [], [], fun x => ixb x.1 x.2⟩
theorem ixbC_ok : ConOk Tryz.prog tbl c_ixb := E.ixb_ok Tryz.func221 (by kernel_rfl) (by kernel_rfl) (by kernel_rfl) (by kernel_rfl)
noncomputable def c_internal_stringslite_IndexByte : Con Tt := ⟨185, (sh [.str, .u8]), (sh [.i64]), 1, [], [], fun x => internal_stringslite_IndexByte x.1 x.2⟩
theorem internal_stringslite_IndexByte_ok : ConOk Tryz.prog tbl c_internal_stringslite_IndexByte := fn_ok (cs := [c_ixb]) (an := []) (fn := Tryz.f185) tOk (conCons ixbC_ok conNil) (by rfl) Tryz.func185 (by kernel_rfl) (fun _ _ => by rfl) (fun _ => by kernel_rfl) (by kernel_rfl) (fun x => by kernel_rfl)
noncomputable def c_internal_stringslite_Index : Con Tt := ⟨254, (sh [.str, (.lit [47])]), (sh [.i64]), 1, [], [], fun x => internal_stringslite_Index x.1⟩
theorem internal_stringslite_Index_ok : ConOk Tryz.prog tbl c_internal_stringslite_Index := fn_ok (cs := [c_internal_stringslite_IndexByte]) (an := []) (fn := Tryz.f254) tOk (conCons internal_stringslite_IndexByte_ok conNil) (by rfl) Tryz.func254 (by kernel_rfl) (fun _ _ => by rfl) (fun _ => by kernel_rfl) (by kernel_rfl) (fun x => by kernel_rfl)
noncomputable def c_strings_Index : Con Tt := ⟨240, (sh [.str, (.lit [47])]), (sh [.i64]), 1, [], [], fun x => strings_Index x.1⟩
theorem strings_Index_ok : ConOk Tryz.prog tbl c_strings_Index := fn_ok (cs := [c_internal_stringslite_Index]) (an := []) (fn := Tryz.f240) tOk (conCons internal_stringslite_Index_ok conNil) (by rfl) Tryz.func240 (by kernel_rfl) (fun _ _ => by rfl) (fun _ => by kernel_rfl) (by kernel_rfl) (fun x => by kernel_rfl)
noncomputable def c_strings_genSplit : Con Tt := ⟨207, (sh [.str, (.lit [47]), .i64, .i64]), (sh [(.sl 4)]), 1, [], [], fun x => strings_genSplit x.1 x.2.2.1 x.2.2.2⟩
theorem strings_genSplit_ok : ConOk Tryz.prog tbl c_strings_genSplit := fn_ok (cs := [c_strings_Count, c_strings_Index]) (an := [([1, 1, 1, 0, 1], .join ⟨[3], [], (sh [.i64]), [0, 1, 2], []⟩), ([1, 1, 1, 1, 1, 1, 1, 1, 0, 0], .loop 0 ⟨[0, 9, 10], [], (sh [.str, (.row 4 9), .i64]), [1, 2, 3], []⟩ ⟨[0, 9, 10], [], (sh [.str, (.row 4 9), .i64]), [], []⟩)]) (fn := Tryz.f207) tOk (conCons strings_Count_ok (conCons strings_Index_ok conNil)) (by rfl) Tryz.func207 (by kernel_rfl) (fun _ _ => by rfl) (fun _ => by kernel_rfl) (by kernel_rfl) (fun x => by kernel_rfl)
noncomputable def c_strings_Split : Con Tt := ⟨164, (sh [.str, (.lit [47])]), (sh [(.sl 4)]), 1, [], [], fun x => strings_Split x.1⟩
theorem strings_Split_ok : ConOk Tryz.prog tbl c_strings_Split := fn_ok (cs := [c_strings_genSplit]) (an := []) (fn := Tryz.f164) tOk (conCons strings_genSplit_ok conNil) (by rfl) Tryz.func164 (by kernel_rfl) (fun _ _ => by rfl) (fun _ => by kernel_rfl) (by kernel_rfl) (fun x => by kernel_rfl)
noncomputable def c_strings_IndexByte : Con Tt := ⟨141, (sh [.str, .u8]), (sh [.i64]), 1, [], [], fun x => strings_IndexByte x.1 x.2⟩
theorem strings_IndexByte_ok : ConOk Tryz.prog tbl c_strings_IndexByte := fn_ok (cs := [c_internal_stringslite_IndexByte]) (an := []) (fn := Tryz.f141) tOk (conCons internal_stringslite_IndexByte_ok conNil) (by rfl) Tryz.func141 (by kernel_rfl) (fun _ _ => by rfl) (fun _ => by kernel_rfl) (by kernel_rfl) (fun x => by kernel_rfl)
noncomputable def c_name_Valid : Con Tt := ⟨228, (sh [.str]), (sh [.bool]), 1, [], [], fun x => name_Valid x⟩
theorem name_Valid_ok : ConOk Tryz.prog tbl c_name_Valid := fn_ok (cs := [c_strings_IndexByte]) (an := []) (fn := Tryz.f228) tOk (conCons strings_IndexByte_ok conNil) (by rfl) Tryz.func228 (by kernel_rfl) (fun _ _ => by rfl) (fun _ => by kernel_rfl) (by kernel_rfl) (fun x => by kernel_rfl)
noncomputable def c_tree_path_1 : Con Tt := ⟨227, (sh [.str]), (sh [.bool]), 1, [], [], fun x => tree_path_1 x⟩
theorem tree_path_1_ok : ConOk Tryz.prog tbl c_tree_path_1 := fn_ok (cs := [c_name_Valid]) (an := []) (fn := Tryz.f227) tOk (conCons name_Valid_ok conNil) (by rfl) Tryz.func227 (by kernel_rfl) (fun _ _ => by rfl) (fun _ => by kernel_rfl) (by kernel_rfl) (fun x => by kernel_rfl)
noncomputable def c_slices_IndexFunc_string : Con Tt := ⟨257, (sh [(.sl 4), (.fn 227 0 (sh []))]), (sh [.i64]), 1, [], [], fun x => slices_IndexFunc_string x.1⟩
theorem slices_IndexFunc_string_ok : ConOk Tryz.prog tbl c_slices_IndexFunc_string := fn_ok (cs := [c_tree_path_1]) (an := [([1, 0, 1, 0], .loop 0 ⟨[8], [], (sh [.i64]), [0, 1, 7], []⟩ ⟨[], [], (sh []), [], []⟩)]) (fn := Tryz.f257) tOk (conCons tree_path_1_ok conNil) (by rfl) Tryz.func257 (by kernel_rfl) (fun _ _ => by rfl) (fun _ => by kernel_rfl) (by kernel_rfl) (fun x => by kernel_rfl)
noncomputable def c_slices_ContainsFunc_string : Con Tt := ⟨226, (sh [(.sl 4), (.fn 227 0 (sh []))]), (sh [.bool]), 1, [], [], fun x => slices_ContainsFunc_string x.1⟩
theorem slices_ContainsFunc_string_ok : ConOk Tryz.prog tbl c_slices_ContainsFunc_string := fn_ok (cs := [c_slices_IndexFunc_string]) (an := []) (fn := Tryz.f226) tOk (conCons slices_IndexFunc_string_ok conNil) (by rfl) Tryz.func226 (by kernel_rfl) (fun _ _ => by rfl) (fun _ => by kernel_rfl) (by kernel_rfl) (fun x => by kernel_rfl)
noncomputable def c_tree_path : Con Tt := ⟨198, (sh [(.agg (sh [.str, .i64, .i64, .i64, .i64, .i64, .i64, (.sl 1), .str, .i64, (.sl 3)]))]), (sh [.i64]), 1, [], [], fun x => tree_path x.1 x.2.1 x.2.2.1 x.2.2.2.1 x.2.2.2.2.1 x.2.2.2.2.2.1 x.2.2.2.2.2.2.1 x.2.2.2.2.2.2.2.1 x.2.2.2.2.2.2.2.2.1 x.2.2.2.2.2.2.2.2.2.1 x.2.2.2.2.2.2.2.2.2.2⟩
theorem tree_path_ok : ConOk Tryz.prog tbl c_tree_path := fn_ok (cs := [c_strings_Split, c_slices_ContainsFunc_string]) (an := []) (fn := Tryz.f198) tOk (conCons strings_Split_ok (conCons slices_ContainsFunc_string_ok conNil)) (by rfl) Tryz.func198 (by kernel_rfl) (fun _ _ => by rfl) (fun _ => by kernel_rfl) (by kernel_rfl) (fun x => by kernel_rfl)
noncomputable def c_internal_bytealg_LastIndexByteString : Con Tt := ⟨210, (sh [.str, .u8]), (sh [.i64]), 1, [], [], fun x => internal_bytealg_LastIndexByteString x.1 x.2⟩
theorem internal_bytealg_LastIndexByteString_ok : ConOk Tryz.prog tbl c_internal_bytealg_LastIndexByteString := fn_ok (cs := []) (an := [([1, 0, 1, 0], .loop 0 ⟨[5], [], (sh [.i64]), [0, 1], []⟩ ⟨[], [], (sh []), [], []⟩)]) (fn := Tryz.f210) tOk conNil (by rfl) Tryz.func210 (by kernel_rfl) (fun _ _ => by rfl) (fun _ => by kernel_rfl) (by kernel_rfl) (fun x => by kernel_rfl)
noncomputable def c_strings_LastIndexByte : Con Tt := ⟨168, (sh [.str, .u8]), (sh [.i64]), 1, [], [], fun x => strings_LastIndexByte x.1 x.2⟩
theorem strings_LastIndexByte_ok : ConOk Tryz.prog tbl c_strings_LastIndexByte := fn_ok (cs := [c_internal_bytealg_LastIndexByteString]) (an := []) (fn := Tryz.f168) tOk (conCons internal_bytealg_LastIndexByteString_ok conNil) (by rfl) Tryz.func168 (by kernel_rfl) (fun _ _ => by rfl) (fun _ => by kernel_rfl) (by kernel_rfl) (fun x => by kernel_rfl)
noncomputable def c_tree_above : Con Tt := ⟨105, (sh [.str]), (sh [.str, .bool]), 2, [], [], fun x => tree_above x⟩
theorem tree_above_ok : ConOk Tryz.prog tbl c_tree_above := fn_ok (cs := [c_strings_LastIndexByte]) (an := []) (fn := Tryz.f105) tOk (conCons strings_LastIndexByte_ok conNil) (by rfl) Tryz.func105 (by kernel_rfl) (fun _ _ => by rfl) (fun _ => by kernel_rfl) (by kernel_rfl) (fun x => by kernel_rfl)
noncomputable def c_tree_text : Con Tt := ⟨229, (sh [.str, .i64, .i64]), (sh [.bool]), 1, [], [], fun x => tree_text x.1 x.2.1 x.2.2⟩
theorem tree_text_ok : ConOk Tryz.prog tbl c_tree_text := fn_ok (cs := [c_tree_between, c_strings_IndexByte]) (an := []) (fn := Tryz.f229) tOk (conCons tree_between_ok (conCons strings_IndexByte_ok conNil)) (by rfl) Tryz.func229 (by kernel_rfl) (fun _ _ => by rfl) (fun _ => by kernel_rfl) (by kernel_rfl) (fun x => by kernel_rfl)
noncomputable def c_tree_fields_1 : Con Tt := ⟨231, (sh [(.agg (sh [.str, (.sl 1)]))]), (sh [.bool]), 1, [], [], fun x => tree_fields_1 x.1 x.2⟩
theorem tree_fields_1_ok : ConOk Tryz.prog tbl c_tree_fields_1 := fn_ok (cs := [c_tree_text]) (an := []) (fn := Tryz.f231) tOk (conCons tree_text_ok conNil) (by rfl) Tryz.func231 (by kernel_rfl) (fun _ _ => by rfl) (fun _ => by kernel_rfl) (by kernel_rfl) (fun x => by kernel_rfl)
noncomputable def c_slices_IndexFunc_Attr : Con Tt := ⟨258, (sh [(.sl 3), (.fn 231 0 (sh []))]), (sh [.i64]), 1, [], [], fun x => slices_IndexFunc_Attr x.1⟩
theorem slices_IndexFunc_Attr_ok : ConOk Tryz.prog tbl c_slices_IndexFunc_Attr := fn_ok (cs := [c_tree_fields_1]) (an := [([1, 0, 1, 0], .loop 0 ⟨[8], [], (sh [.i64]), [0, 1, 7], []⟩ ⟨[], [], (sh []), [], []⟩)]) (fn := Tryz.f258) tOk (conCons tree_fields_1_ok conNil) (by rfl) Tryz.func258 (by kernel_rfl) (fun _ _ => by rfl) (fun _ => by kernel_rfl) (by kernel_rfl) (fun x => by kernel_rfl)
noncomputable def c_slices_ContainsFunc_Attr : Con Tt := ⟨230, (sh [(.sl 3), (.fn 231 0 (sh []))]), (sh [.bool]), 1, [], [], fun x => slices_ContainsFunc_Attr x.1⟩
theorem slices_ContainsFunc_Attr_ok : ConOk Tryz.prog tbl c_slices_ContainsFunc_Attr := fn_ok (cs := [c_slices_IndexFunc_Attr]) (an := []) (fn := Tryz.f230) tOk (conCons slices_IndexFunc_Attr_ok conNil) (by rfl) Tryz.func230 (by kernel_rfl) (fun _ _ => by rfl) (fun _ => by kernel_rfl) (by kernel_rfl) (fun x => by kernel_rfl)
noncomputable def c_tree_fields_2 : Con Tt := ⟨232, (sh [(.agg (sh [.str, (.sl 1)])), (.own 109 (sh [.str, (.sl 1)]))]), (sh [.bool, (.agg (sh [.str, (.sl 1)]))]), 1, [(1, 109)], [], fun x => tree_fields_2 x.1.1 x.1.2 x.2.1 x.2.2⟩
theorem tree_fields_2_ok : ConOk Tryz.prog tbl c_tree_fields_2 := fn_ok (cs := []) (an := []) (fn := Tryz.f232) tOk conNil (by rfl) Tryz.func232 (by kernel_rfl) (fun _ _ => by rfl) (fun _ => by kernel_rfl) (by kernel_rfl) (fun x => by kernel_rfl)
noncomputable def c_slices_IndexFunc_Attr_2 : Con Tt := ⟨258, (sh [(.sl 3), (.fn 232 0 (sh [(.own 109 (sh [.str, (.sl 1)]))]))]), (sh [.i64]), 1, [], [], fun x => slices_IndexFunc_Attr_2 x.1 x.2.1 x.2.2⟩
theorem slices_IndexFunc_Attr_2_ok : ConOk Tryz.prog tbl c_slices_IndexFunc_Attr_2 := fn_ok (cs := [c_tree_fields_2]) (an := [([1, 0, 1, 0], .loop 0 ⟨[8], [(0, 109)], (sh [.i64, (.agg (sh [.str, (.sl 1)]))]), [0, 1, 7], []⟩ ⟨[], [], (sh []), [], []⟩)]) (fn := Tryz.f258) tOk (conCons tree_fields_2_ok conNil) (by rfl) Tryz.func258 (by kernel_rfl) (fun _ _ => by rfl) (fun _ => by kernel_rfl) (by kernel_rfl) (fun x => by kernel_rfl)
noncomputable def c_slices_ContainsFunc_Attr_2 : Con Tt := ⟨230, (sh [(.sl 3), (.fn 232 0 (sh [(.own 109 (sh [.str, (.sl 1)]))]))]), (sh [.bool]), 1, [], [], fun x => slices_ContainsFunc_Attr_2 x.1 x.2.1 x.2.2⟩
theorem slices_ContainsFunc_Attr_2_ok : ConOk Tryz.prog tbl c_slices_ContainsFunc_Attr_2 := fn_ok (cs := [c_slices_IndexFunc_Attr_2]) (an := []) (fn := Tryz.f230) tOk (conCons slices_IndexFunc_Attr_2_ok conNil) (by rfl) Tryz.func230 (by kernel_rfl) (fun _ _ => by rfl) (fun _ => by kernel_rfl) (by kernel_rfl) (fun x => by kernel_rfl)
noncomputable def c_tree_fields : Con Tt := ⟨199, (sh [(.agg (sh [.str, .i64, .i64, .i64, .i64, .i64, .i64, (.sl 1), .str, .i64, (.sl 3)]))]), (sh [.i64]), 1, [], [], fun x => tree_fields x.1 x.2.1 x.2.2.1 x.2.2.2.1 x.2.2.2.2.1 x.2.2.2.2.2.1 x.2.2.2.2.2.2.1 x.2.2.2.2.2.2.2.1 x.2.2.2.2.2.2.2.2.1 x.2.2.2.2.2.2.2.2.2.1 x.2.2.2.2.2.2.2.2.2.2⟩
theorem tree_fields_ok : ConOk Tryz.prog tbl c_tree_fields := fn_ok (cs := [c_tree_between, c_tree_text, c_slices_ContainsFunc_Attr, c_slices_ContainsFunc_Attr_2]) (an := [([1, 0], .join ⟨[3], [], (sh [.bool]), [1], [0]⟩), ([1, 1, 0, 1, 0, 1], .join ⟨[3], [], (sh [.bool]), [1], [0]⟩), ([1, 1, 0, 1, 0, 1, 0], .join ⟨[3], [], (sh [.bool]), [1], [0]⟩), ([1, 1, 0, 1, 0, 1, 1, 1], .join ⟨[3], [], (sh [.bool]), [1], [0]⟩), ([1, 1, 0, 1, 0, 1, 1, 1, 0], .join ⟨[3], [], (sh [.bool]), [1], [0]⟩), ([1, 1, 0, 1, 0, 1, 1, 1, 1, 0, 1], .join ⟨[45], [], (sh [.bool]), [1, 3], [0]⟩), ([1, 1, 0, 1, 0, 1, 1, 1, 1, 1], .join ⟨[3], [], (sh [.bool]), [1], [0]⟩), ([1, 1, 0, 1, 0, 1, 1, 1, 1, 1, 0], .join ⟨[3], [], (sh [.bool]), [1], [0]⟩), ([1, 1, 1, 0], .join ⟨[3], [], (sh [.bool]), [1], [0]⟩), ([1, 1, 1, 1, 0, 0], .join ⟨[67], [], (sh [.bool]), [1], [0]⟩), ([1, 1, 1, 1, 1, 0, 1, 0], .loop 1 ⟨[71], [], (sh [.i64]), [1, 69, 70], [0]⟩ ⟨[], [], (sh []), [], [0]⟩)]) (fn := Tryz.f199) tOk (conCons tree_between_ok (conCons tree_text_ok (conCons slices_ContainsFunc_Attr_ok (conCons slices_ContainsFunc_Attr_2_ok conNil)))) (by rfl) Tryz.func199 (by kernel_rfl) (fun _ _ => by rfl) (fun _ => by kernel_rfl) (by kernel_rfl) (fun x => by kernel_rfl)
noncomputable def c_tree_checker_entry : Con Tt := ⟨160, (sh [(.own 175 (sh [(.sl 2), (.gen 12), (.gen 12), (.gen 12)])), .i64]), (sh [.i64, (.agg (sh [(.sl 2), (.gen 12), (.gen 12), (.gen 12)]))]), 1, [(0, 175)], [], fun x => tree_checker_entry x.1.1 x.1.2.1 x.1.2.2.1 x.1.2.2.2 x.2⟩
theorem tree_checker_entry_ok : ConOk Tryz.prog tbl c_tree_checker_entry := fn_ok (cs := [c_tree_between, c_tree_path, c_tree_above, c_tree_fields]) (an := [([1, 1, 1, 1, 0, 0], .lock [0, 4]), ([1, 1, 1, 1, 1, 0, 1, 0], .join ⟨[49], [], (sh [.bool]), [0, 5], [0, 1, 2, 3, 4]⟩), ([1, 1, 1, 1, 1, 1, 0, 1, 0, 0, 0], .lock [0, 4])]) (fn := Tryz.f160) tOk (conCons tree_between_ok (conCons tree_path_ok (conCons tree_above_ok (conCons tree_fields_ok conNil)))) (by rfl) Tryz.func160 (by kernel_rfl) (fun _ _ => by rfl) (fun _ => by kernel_rfl) (by kernel_rfl) (fun x => by kernel_rfl)
noncomputable def c_tree_Check : Con Tt := ⟨100, (sh [(.sl 2)]), (sh [.i64, .i64]), 2, [], [], fun x => tree_Check x⟩
theorem tree_Check_ok : ConOk Tryz.prog tbl c_tree_Check := fn_ok (cs := [c_tree_index, c_tree_checker_entry]) (an := [([1, 1, 1, 0, 1, 0], .loop 0 ⟨[4, 15], [], (sh [.i64, .i64]), [0, 13, 14], []⟩ ⟨[], [], (sh []), [0], []⟩), ([1, 1, 1, 0, 1, 0, 0, 1, 1, 0, 0, 1, 0, 0], .join ⟨[28], [], (sh [.bool]), [0, 4, 6, 13, 14, 15], [0]⟩), ([1, 1, 1, 1, 1, 0, 1, 0], .loop 2 ⟨[42], [(0, 175)], (sh [.i64, (.agg (sh [(.sl 2), (.gen 12), (.gen 12), (.gen 12)]))]), [7, 41], []⟩ ⟨[], [], (sh []), [], []⟩)]) (fn := Tryz.f100) tOk (conCons tree_index_ok (conCons tree_checker_entry_ok conNil)) (by rfl) Tryz.func100 (by kernel_rfl) (fun _ _ => by rfl) (fun _ => by kernel_rfl) (by kernel_rfl) (fun x => by kernel_rfl)
noncomputable def c_tree_root_1 : Con Tt := ⟨163, (sh [(.agg (sh [.str, .i64, .i64, .i64, .i64, .i64, .i64, (.sl 1), .str, .i64, (.sl 3)]))]), (sh [.bool]), 1, [], [], fun x => tree_root_1 x.1 x.2.1 x.2.2.1 x.2.2.2.1 x.2.2.2.2.1 x.2.2.2.2.2.1 x.2.2.2.2.2.2.1 x.2.2.2.2.2.2.2.1 x.2.2.2.2.2.2.2.2.1 x.2.2.2.2.2.2.2.2.2.1 x.2.2.2.2.2.2.2.2.2.2⟩
theorem tree_root_1_ok : ConOk Tryz.prog tbl c_tree_root_1 := fn_ok (cs := []) (an := []) (fn := Tryz.f163) tOk conNil (by rfl) Tryz.func163 (by kernel_rfl) (fun _ _ => by rfl) (fun _ => by kernel_rfl) (by kernel_rfl) (fun x => by kernel_rfl)
noncomputable def c_slices_IndexFunc_Entry : Con Tt := ⟨140, (sh [(.sl 2), (.fn 163 0 (sh []))]), (sh [.i64]), 1, [], [], fun x => slices_IndexFunc_Entry x.1⟩
theorem slices_IndexFunc_Entry_ok : ConOk Tryz.prog tbl c_slices_IndexFunc_Entry := fn_ok (cs := [c_tree_root_1]) (an := [([1, 0, 1, 0], .loop 0 ⟨[8], [], (sh [.i64]), [0, 1, 7], []⟩ ⟨[], [], (sh []), [], []⟩)]) (fn := Tryz.f140) tOk (conCons tree_root_1_ok conNil) (by rfl) Tryz.func140 (by kernel_rfl) (fun _ _ => by rfl) (fun _ => by kernel_rfl) (by kernel_rfl) (fun x => by kernel_rfl)
noncomputable def c_tree_root : Con Tt := ⟨103, (sh [(.sl 2)]), (sh [(.agg (sh [.str, .i64, .i64, .i64, .i64, .i64, .i64, (.sl 1), .str, .i64, (.sl 3)]))]), 1, [], [], fun x => tree_root x⟩
theorem tree_root_ok : ConOk Tryz.prog tbl c_tree_root := fn_ok (cs := [c_slices_IndexFunc_Entry]) (an := []) (fn := Tryz.f103) tOk (conCons slices_IndexFunc_Entry_ok conNil) (by rfl) Tryz.func103 (by kernel_rfl) (fun _ _ => by rfl) (fun _ => by kernel_rfl) (by kernel_rfl) (fun x => by kernel_rfl)
noncomputable def c_bytes_trimRightByte : Con Tt := ⟨203, (sh [(.sl 1), .u8]), (sh [(.sl 1)]), 1, [], [], fun x => bytes_trimRightByte x.1 x.2⟩
theorem bytes_trimRightByte_ok : ConOk Tryz.prog tbl c_bytes_trimRightByte := fn_ok (cs := []) (an := [([1, 0, 0], .loop 0 ⟨[0], [], (sh [(.sl 1)]), [1], []⟩ ⟨[0], [], (sh [(.sl 1)]), [], []⟩)]) (fn := Tryz.f203) tOk conNil (by rfl) Tryz.func203 (by kernel_rfl) (fun _ _ => by rfl) (fun _ => by kernel_rfl) (by kernel_rfl) (fun x => by kernel_rfl)
noncomputable def c_bytes_TrimRight : Con Tt := ⟨162, (sh [(.sl 1), (.lit [0])]), (sh [(.sl 1)]), 1, [], [], fun x => bytes_TrimRight x.1⟩
theorem bytes_TrimRight_ok : ConOk Tryz.prog tbl c_bytes_TrimRight := fn_ok (cs := [c_bytes_trimRightByte]) (an := [([1, 0, 0], .join ⟨[13], [], (sh [.bool]), [0, 1], []⟩)]) (fn := Tryz.f162) tOk (conCons bytes_trimRightByte_ok conNil) (by rfl) Tryz.func162 (by kernel_rfl) (fun _ _ => by rfl) (fun _ => by kernel_rfl) (by kernel_rfl) (fun x => by kernel_rfl)
noncomputable def c_tree_node : Con Tt := ⟨102, (sh [(.agg (sh [.str, .i64, .i64, .i64, .i64, .i64, .i64, (.sl 1), .str, .i64, (.sl 3)]))]), (sh [(.agg (sh [.i64, .i64, .i64, .i64, .i64, .i64, (.sl 1), .str, .i64, (.sl 3), (.row 5 138), .i64, .i64]))]), 1, [], [], fun x => tree_node x.1 x.2.1 x.2.2.1 x.2.2.2.1 x.2.2.2.2.1 x.2.2.2.2.2.1 x.2.2.2.2.2.2.1 x.2.2.2.2.2.2.2.1 x.2.2.2.2.2.2.2.2.1 x.2.2.2.2.2.2.2.2.2.1 x.2.2.2.2.2.2.2.2.2.2⟩
theorem tree_node_ok : ConOk Tryz.prog tbl c_tree_node := fn_ok (cs := [c_tree_attrs, c_bytes_TrimRight, c_bytes_Clone]) (an := [([1, 0], .lockJ [0] ⟨[3], [], (sh [(.own 77 (sh [.i64, .i64, .i64, .i64, .i64, .i64, (.row 1 5), .str, .i64, (.row 3 109), (.row 5 138), .i64, .i64]))]), [1, 2], [0, 1]⟩)]) (fn := Tryz.f102) tOk (conCons tree_attrs_ok (conCons bytes_TrimRight_ok (conCons bytes_Clone_ok conNil))) (by rfl) Tryz.func102 (by kernel_rfl) (fun _ _ => by rfl) (fun _ => by kernel_rfl) (by kernel_rfl) (fun x => by kernel_rfl)
noncomputable def c_slices_Compare_string : Con Tt := ⟨209, (sh [(.sl 4), (.sl 4)]), (sh [.i64]), 1, [], [], fun x => slices_Compare_string x.1 x.2⟩
theorem slices_Compare_string_ok : ConOk Tryz.prog tbl c_slices_Compare_string := fn_ok (cs := [c_cmp_Compare_string]) (an := [([1, 0, 1, 0], .loop 0 ⟨[11], [], (sh [.i64]), [0, 1, 9, 10], []⟩ ⟨[], [], (sh []), [0, 1], []⟩)]) (fn := Tryz.f209) tOk (conCons cmp_Compare_string_ok conNil) (by rfl) Tryz.func209 (by kernel_rfl) (fun _ _ => by rfl) (fun _ => by kernel_rfl) (by kernel_rfl) (fun x => by kernel_rfl)
noncomputable def c_name_Order : Con Tt := ⟨167, (sh [(.sl 4), (.sl 4)]), (sh [.i64]), 1, [], [], fun x => name_Order x.1 x.2⟩
theorem name_Order_ok : ConOk Tryz.prog tbl c_name_Order := fn_ok (cs := [c_slices_Compare_string]) (an := []) (fn := Tryz.f167) tOk (conCons slices_Compare_string_ok conNil) (by rfl) Tryz.func167 (by kernel_rfl) (fun _ _ => by rfl) (fun _ => by kernel_rfl) (by kernel_rfl) (fun x => by kernel_rfl)
noncomputable def c_tree_names_1 : Con Tt := ⟨166, (sh [(.agg (sh [(.sl 4), .str, .str])), (.agg (sh [(.sl 4), .str, .str]))]), (sh [.i64]), 1, [], [], fun x => tree_names_1 x.1.1 x.1.2.1 x.1.2.2 x.2.1 x.2.2.1 x.2.2.2⟩
theorem tree_names_1_ok : ConOk Tryz.prog tbl c_tree_names_1 := fn_ok (cs := [c_name_Order]) (an := []) (fn := Tryz.f166) tOk (conCons name_Order_ok conNil) (by rfl) Tryz.func166 (by kernel_rfl) (fun _ _ => by rfl) (fun _ => by kernel_rfl) (by kernel_rfl) (fun x => by kernel_rfl)
noncomputable def c_sort_Named : Con Tt := ⟨165, (sh [(.row 13 172), (.fn 166 0 (sh []))]), (sh [(.row 13 172)]), 0, [], [0], fun x => sort_Named x.1⟩
theorem sort_Named_cmp : CmpOk Tryz.prog tbl 166 13 (fun x y => tree_names_1 x.f_parts x.f_path x.f_of y.f_parts y.f_path y.f_of) := fun x y v h m w cs ds hm hg hx hy => by
 refine (ConOk.plain tree_names_1_ok Tryz.call166 hm hg ((x.f_parts, x.f_path, x.f_of), (y.f_parts, y.f_path, y.f_of)) [.agg cs.toArray, .agg ds.toArray] ⟨_, _, rfl, ⟨cs, rfl, tOk.ex hx⟩, _, _, rfl, ⟨ds, rfl, tOk.ex hy⟩, rfl⟩ rfl rfl h [.int .i64 v] rfl (fun η m vs hr => ?_)).mono ?_
 ·obtain ⟨u, rfl, e⟩ := RL.one (show RL tbl η m [.i64 v] vs from hr)
  rw [show u = _ from e]
 ·rintro e w' ⟨u, rfl, rfl, hex⟩
  exact ⟨rfl, hex⟩
theorem sort_Named_ok : ConOk Tryz.prog tbl c_sort_Named := sort_ok (n := 13) tOk laysNamed (by rfl) Tryz.isAgg172 Tryz.sizeOf172 (by decide) (fun _ _ => by rfl) (fun _ _ => by rfl) (fun l l' h => sortBy_spec (α := TTreeNamed) h) sort_Named_cmp
noncomputable def c_tree_names : Con Tt := ⟨104, (sh [(.sl 2)]), (sh [(.row 13 172)]), 1, [], [], fun x => tree_names x⟩
theorem tree_names_ok : ConOk Tryz.prog tbl c_tree_names := fn_ok (cs := [c_strings_Split, c_sort_Named]) (an := [([1, 1, 0, 1, 0], .loop 0 ⟨[3, 9], [], (sh [(.row 13 172), .i64]), [7, 8], []⟩ ⟨[3], [], (sh [(.row 13 172)]), [], []⟩), ([1, 1, 0, 1, 0, 0, 1, 1, 0, 0, 1, 1, 0], .lockJ [1] ⟨[6], [], (sh [(.own 172 (sh [(.sl 4), .str, .str]))]), [3, 5, 7, 8, 9], [0, 1]⟩)]) (fn := Tryz.f104) tOk (conCons strings_Split_ok (conCons sort_Named_ok conNil)) (by rfl) Tryz.func104 (by kernel_rfl) (fun _ _ => by rfl) (fun _ => by kernel_rfl) (by kernel_rfl) (fun x => by kernel_rfl)
noncomputable def c_tree_Canon : Con Tt := ⟨54, (sh [(.sl 2)]), (sh [(.agg (sh [(.sl 6)])), .i64]), 2, [], [], fun x => tree_Canon x⟩
theorem tree_Canon_ok : ConOk Tryz.prog tbl c_tree_Canon := fn_ok (cs := [c_tree_Check, c_tree_index, c_tree_root, c_tree_node, c_tree_names, c_tree_above]) (an := [([1, 1, 1, 1, 1, 0, 1, 0], .loop 0 ⟨[8, 37], [(7, 25)], (sh [(.gen 12), .i64, (.agg (sh [(.gen 7)]))]), [0, 2, 6, 7, 35, 36], [0, 1, 2, 3, 4, 9]⟩ ⟨[], [(7, 25)], (sh [(.agg (sh [(.gen 7)]))]), [2, 7], [0, 1, 2, 3, 4, 9]⟩), ([1, 1, 1, 1, 1, 0, 1, 0, 0, 1, 1, 0, 0, 1, 1, 0, 1], .join ⟨[8, 11], [(7, 25)], (sh [(.gen 12), .i64, (.agg (sh [(.gen 7)]))]), [0, 2, 6, 7, 10, 35, 36, 37], [0, 1, 2, 3, 4, 9, 12]⟩), ([1, 1, 1, 1, 1, 0, 1, 0, 0, 1, 1, 0, 0, 1, 1, 0, 1, 0, 1, 1], .lockJ [1, 12] ⟨[], [(7, 25)], (sh [(.agg (sh [(.gen 7)]))]), [0, 2, 6, 7, 8, 10, 11, 35, 36, 37], [0, 1, 2, 3, 4, 9, 10, 12]⟩), ([1, 1, 1, 1, 1, 0, 1, 0, 0, 1, 1, 0, 0, 1, 1, 1, 1, 1, 0], .lockJ [7, 12] ⟨[], [(7, 25)], (sh [(.agg (sh [(.gen 7)]))]), [0, 2, 6, 7, 8, 11, 15, 35, 36, 37], [0, 1, 2, 3, 4, 9, 12, 13]⟩)]) (fn := Tryz.f54) tOk (conCons tree_Check_ok (conCons tree_index_ok (conCons tree_root_ok (conCons tree_node_ok (conCons tree_names_ok (conCons tree_above_ok conNil)))))) (by rfl) Tryz.func54 (by kernel_rfl) (fun _ _ => by rfl) (fun _ => by kernel_rfl) (by kernel_rfl) (fun x => by kernel_rfl)
noncomputable def c_bytes_Equal : Con Tt := ⟨124, (sh [(.sl 1), (.sl 1)]), (sh [.bool]), 1, [], [], fun x => bytes_Equal x.1 x.2⟩
theorem bytes_Equal_ok : ConOk Tryz.prog tbl c_bytes_Equal := fn_ok (cs := []) (an := []) (fn := Tryz.f124) tOk conNil (by rfl) Tryz.func124 (by kernel_rfl) (fun _ _ => by rfl) (fun _ => by kernel_rfl) (by kernel_rfl) (fun x => by kernel_rfl)
noncomputable def c_slices_Equal_Kid : Con Tt := ⟨169, (sh [(.sl 5), (.sl 5)]), (sh [.bool]), 1, [], [], fun x => slices_Equal_Kid x.1 x.2⟩
theorem slices_Equal_Kid_ok : ConOk Tryz.prog tbl c_slices_Equal_Kid := fn_ok (cs := []) (an := [([1, 1, 0, 1, 0], .loop 0 ⟨[13], [], (sh [.i64]), [0, 1, 12], []⟩ ⟨[], [], (sh []), [], []⟩)]) (fn := Tryz.f169) tOk conNil (by rfl) Tryz.func169 (by kernel_rfl) (fun _ _ => by rfl) (fun _ => by kernel_rfl) (by kernel_rfl) (fun x => by kernel_rfl)
noncomputable def c_tree_alike_1 : Con Tt := ⟨171, (sh [(.agg (sh [.str, (.sl 1)])), (.agg (sh [.str, (.sl 1)]))]), (sh [.bool]), 1, [], [], fun x => tree_alike_1 x.1.1 x.1.2 x.2.1 x.2.2⟩
theorem tree_alike_1_ok : ConOk Tryz.prog tbl c_tree_alike_1 := fn_ok (cs := [c_bytes_Equal]) (an := []) (fn := Tryz.f171) tOk (conCons bytes_Equal_ok conNil) (by rfl) Tryz.func171 (by kernel_rfl) (fun _ _ => by rfl) (fun _ => by kernel_rfl) (by kernel_rfl) (fun x => by kernel_rfl)
noncomputable def c_slices_EqualFunc_Attr : Con Tt := ⟨170, (sh [(.sl 3), (.sl 3), (.fn 171 0 (sh []))]), (sh [.bool]), 1, [], [], fun x => slices_EqualFunc_Attr x.1 x.2.1⟩
theorem slices_EqualFunc_Attr_ok : ConOk Tryz.prog tbl c_slices_EqualFunc_Attr := fn_ok (cs := [c_tree_alike_1]) (an := [([1, 1, 0, 1, 0], .loop 0 ⟨[17], [], (sh [.i64]), [1, 2, 15, 16], []⟩ ⟨[], [], (sh []), [], []⟩)]) (fn := Tryz.f170) tOk (conCons tree_alike_1_ok conNil) (by rfl) Tryz.func170 (by kernel_rfl) (fun _ _ => by rfl) (fun _ => by kernel_rfl) (by kernel_rfl) (fun x => by kernel_rfl)
noncomputable def c_tree_alike : Con Tt := ⟨109, (sh [(.agg (sh [.i64, .i64, .i64, .i64, .i64, .i64, (.sl 1), .str, .i64, (.sl 3), (.sl 5), .i64, .i64])), (.agg (sh [.i64, .i64, .i64, .i64, .i64, .i64, (.sl 1), .str, .i64, (.sl 3), (.sl 5), .i64, .i64]))]), (sh [.bool]), 1, [], [], fun x => tree_alike x.1.1 x.1.2.1 x.1.2.2.1 x.1.2.2.2.1 x.1.2.2.2.2.1 x.1.2.2.2.2.2.1 x.1.2.2.2.2.2.2.1 x.1.2.2.2.2.2.2.2.1 x.1.2.2.2.2.2.2.2.2.1 x.1.2.2.2.2.2.2.2.2.2.1 x.1.2.2.2.2.2.2.2.2.2.2.1 x.1.2.2.2.2.2.2.2.2.2.2.2.1 x.1.2.2.2.2.2.2.2.2.2.2.2.2 x.2.1 x.2.2.1 x.2.2.2.1 x.2.2.2.2.1 x.2.2.2.2.2.1 x.2.2.2.2.2.2.1 x.2.2.2.2.2.2.2.1 x.2.2.2.2.2.2.2.2.1 x.2.2.2.2.2.2.2.2.2.1 x.2.2.2.2.2.2.2.2.2.2.1 x.2.2.2.2.2.2.2.2.2.2.2.1 x.2.2.2.2.2.2.2.2.2.2.2.2.1 x.2.2.2.2.2.2.2.2.2.2.2.2.2⟩
theorem tree_alike_ok : ConOk Tryz.prog tbl c_tree_alike := fn_ok (cs := [c_bytes_Equal, c_slices_Equal_Kid, c_slices_EqualFunc_Attr]) (an := [([1, 0, 0], .join ⟨[72], [], (sh [.bool]), [2, 3], [0, 1]⟩)]) (fn := Tryz.f109) tOk (conCons bytes_Equal_ok (conCons slices_Equal_Kid_ok (conCons slices_EqualFunc_Attr_ok conNil))) (by rfl) Tryz.func109 (by kernel_rfl) (fun _ _ => by rfl) (fun _ => by kernel_rfl) (by kernel_rfl) (fun x => by kernel_rfl)
noncomputable def c_slices_EqualFunc_Node : Con Tt := ⟨108, (sh [(.sl 6), (.sl 6), (.fn 109 0 (sh []))]), (sh [.bool]), 1, [], [], fun x => slices_EqualFunc_Node x.1 x.2.1⟩
theorem slices_EqualFunc_Node_ok : ConOk Tryz.prog tbl c_slices_EqualFunc_Node := fn_ok (cs := [c_tree_alike]) (an := [([1, 1, 0, 1, 0], .loop 0 ⟨[17], [], (sh [.i64]), [1, 2, 15, 16], []⟩ ⟨[], [], (sh []), [], []⟩)]) (fn := Tryz.f108) tOk (conCons tree_alike_ok conNil) (by rfl) Tryz.func108 (by kernel_rfl) (fun _ _ => by rfl) (fun _ => by kernel_rfl) (by kernel_rfl) (fun x => by kernel_rfl)
noncomputable def c_tree_Same : Con Tt := ⟨59, (sh [(.agg (sh [(.sl 6)])), (.agg (sh [(.sl 6)]))]), (sh [.bool]), 1, [], [], fun x => tree_Same x.1 x.2⟩
theorem tree_Same_ok : ConOk Tryz.prog tbl c_tree_Same := fn_ok (cs := [c_slices_EqualFunc_Node]) (an := []) (fn := Tryz.f59) tOk (conCons slices_EqualFunc_Node_ok conNil) (by rfl) Tryz.func59 (by kernel_rfl) (fun _ _ => by rfl) (fun _ => by kernel_rfl) (by kernel_rfl) (fun x => by kernel_rfl)
noncomputable def c_tree_List : Con Tt := ⟨57, (sh [(.agg (sh [(.sl 6)]))]), (sh [(.sl 2), .i64]), 2, [], [], fun x => tree_List x⟩
theorem tree_List_ok : ConOk Tryz.prog tbl c_tree_List := fnD_ok (cs := [c_tree_Canon, c_tree_Same]) (an := []) (ps := [c_tree_lister_add 70]) (pt := 179) (ct := cat_List) (fn := Tryz.f57) tOk (conCons tree_Canon_ok (conCons tree_Same_ok conNil)) (by rfl) (conPCons (tree_lister_add_ok 70) conPNil) cat_List_ok Tryz.func57 (by kernel_rfl) (fun _ _ => by rfl) (fun _ => by kernel_rfl) (by kernel_rfl) (fun x => by kernel_rfl)
noncomputable def c_diff_list : Con Tt := ⟨60, (sh [(.agg (sh [(.sl 6)]))]), (sh [(.pt 14), .bool]), 2, [], [], fun x => diff_list x⟩
theorem diff_list_ok : ConOk Tryz.prog tbl c_diff_list := fn_ok (cs := [c_tree_List]) (an := [([1, 1, 1, 0, 1, 0], .loop 0 ⟨[19], [(2, 105)], (sh [.i64, (.agg (sh [(.gen 14)]))]), [5, 6, 17, 18], [0]⟩ ⟨[], [(2, 105)], (sh [(.agg (sh [(.gen 14)]))]), [5, 6], [0]⟩), ([1, 1, 1, 0, 1, 0, 0, 1, 1, 0, 0, 1], .lock [2, 4])]) (fn := Tryz.f60) tOk (conCons tree_List_ok conNil) (by rfl) Tryz.func60 (by kernel_rfl) (fun _ _ => by rfl) (fun _ => by kernel_rfl) (by kernel_rfl) (fun x => by kernel_rfl)
noncomputable def c_diff_listing_portmanteau_api_Entry_has : Con Tt := ⟨62, (sh [(.pt 14), .str]), (sh [.bool]), 1, [], [], fun x => diff_listing_portmanteau_api_Entry_has x.1 x.2⟩
theorem diff_listing_portmanteau_api_Entry_has_ok : ConOk Tryz.prog tbl c_diff_listing_portmanteau_api_Entry_has := fn_ok (cs := []) (an := []) (fn := Tryz.f62) tOk conNil (by rfl) Tryz.func62 (by kernel_rfl) (fun _ _ => by rfl) (fun _ => by kernel_rfl) (by kernel_rfl) (fun x => by kernel_rfl)
noncomputable def c_diff_keys_portmanteau_api_Entry_1 : Con Tt := ⟨111, (sh [(.pt 14), (.pt 4)]), (sh [.bool]), 1, [], [], fun x => diff_keys_portmanteau_api_Entry_1 x.1 x.2⟩
theorem diff_keys_portmanteau_api_Entry_1_ok : ConOk Tryz.prog tbl c_diff_keys_portmanteau_api_Entry_1 := fn_ok (cs := [c_diff_listing_portmanteau_api_Entry_has]) (an := []) (fn := Tryz.f111) tOk (conCons diff_listing_portmanteau_api_Entry_has_ok conNil) (by rfl) Tryz.func111 (by kernel_rfl) (fun _ _ => by rfl) (fun _ => by kernel_rfl) (by kernel_rfl) (fun x => by kernel_rfl)
noncomputable def c_slices_IndexFunc_diff_listing_Entry_diff_listing_Entry : Con Tt := ⟨172, (sh [(.sl 15), (.fn 111 0 (sh [(.pt 4)]))]), (sh [.i64]), 1, [], [], fun x => slices_IndexFunc_diff_listing_Entry_diff_listing_Entry x.1 x.2⟩
theorem slices_IndexFunc_diff_listing_Entry_diff_listing_Entry_ok : ConOk Tryz.prog tbl c_slices_IndexFunc_diff_listing_Entry_diff_listing_Entry := fn_ok (cs := [c_diff_keys_portmanteau_api_Entry_1]) (an := [([1, 0, 1, 0], .loop 0 ⟨[8], [], (sh [.i64]), [0, 1, 7], []⟩ ⟨[], [], (sh []), [], []⟩)]) (fn := Tryz.f172) tOk (conCons diff_keys_portmanteau_api_Entry_1_ok conNil) (by rfl) Tryz.func172 (by kernel_rfl) (fun _ _ => by rfl) (fun _ => by kernel_rfl) (by kernel_rfl) (fun x => by kernel_rfl)
noncomputable def c_slices_ContainsFunc_diff_listing_Entry_diff_listing_Entry : Con Tt := ⟨110, (sh [(.sl 15), (.fn 111 0 (sh [(.pt 4)]))]), (sh [.bool]), 1, [], [], fun x => slices_ContainsFunc_diff_listing_Entry_diff_listing_Entry x.1 x.2⟩
theorem slices_ContainsFunc_diff_listing_Entry_diff_listing_Entry_ok : ConOk Tryz.prog tbl c_slices_ContainsFunc_diff_listing_Entry_diff_listing_Entry := fn_ok (cs := [c_slices_IndexFunc_diff_listing_Entry_diff_listing_Entry]) (an := []) (fn := Tryz.f110) tOk (conCons slices_IndexFunc_diff_listing_Entry_diff_listing_Entry_ok conNil) (by rfl) Tryz.func110 (by kernel_rfl) (fun _ _ => by rfl) (fun _ => by kernel_rfl) (by kernel_rfl) (fun x => by kernel_rfl)
noncomputable def c_diff_parts : Con Tt := ⟨175, (sh [.str]), (sh [(.sl 4)]), 1, [], [], fun x => diff_parts x⟩
theorem diff_parts_ok : ConOk Tryz.prog tbl c_diff_parts := fn_ok (cs := [c_strings_Split]) (an := []) (fn := Tryz.f175) tOk (conCons strings_Split_ok conNil) (by rfl) Tryz.func175 (by kernel_rfl) (fun _ _ => by rfl) (fun _ => by kernel_rfl) (by kernel_rfl) (fun x => by kernel_rfl)
noncomputable def c_diff_order : Con Tt := ⟨113, (sh [.str, .str]), (sh [.i64]), 1, [], [], fun x => diff_order x.1 x.2⟩
theorem diff_order_ok : ConOk Tryz.prog tbl c_diff_order := fn_ok (cs := [c_diff_parts, c_name_Order]) (an := []) (fn := Tryz.f113) tOk (conCons diff_parts_ok (conCons name_Order_ok conNil)) (by rfl) Tryz.func113 (by kernel_rfl) (fun _ _ => by rfl) (fun _ => by kernel_rfl) (by kernel_rfl) (fun x => by kernel_rfl)
noncomputable def c_sort_String : Con Tt := ⟨112, (sh [(.row 4 9), (.fn 113 0 (sh []))]), (sh [(.row 4 9)]), 0, [], [0], fun x => sort_String x.1⟩
theorem sort_String_cmp : Cmp1Ok Tryz.prog tbl 113 4 (fun x y => diff_order x y) := fun x y v h m w a b hm hg hx hy => by
 refine (ConOk.plain diff_order_ok Tryz.call113 hm hg (x, y) [a, b] (RL.two (tOk.ex hx) (tOk.ex hy)) rfl rfl h [.int .i64 v] rfl (fun η m vs hr => ?_)).mono ?_
 ·obtain ⟨u, rfl, e⟩ := RL.one (show RL tbl η m [.i64 v] vs from hr)
  rw [show u = _ from e]
 ·rintro e w' ⟨u, rfl, rfl, hex⟩
  exact ⟨rfl, hex⟩
theorem sort_String_ok : ConOk Tryz.prog tbl c_sort_String := sort1_ok (n := 4) tOk laysString (by rfl) (by decide) (fun _ _ => by rfl) (fun _ _ => by rfl) (fun l l' h => sortBy_spec (α := (List UInt8)) h) sort_String_cmp
noncomputable def c_diff_keys : Con Tt := ⟨61, (sh [(.sl 15)]), (sh [(.row 4 9)]), 1, [], [], fun x => diff_keys x⟩
end Go.Proofs.YtkleajhiihbefaaGreatDoor.F
set_option linter.unusedVariables false
set_option linter.unusedSimpArgs false
namespace Go.Proofs.YtkleajhiihbefaaGreatDoor.K
open Go Go.RowKit
theorem app_ok {α : Type} {l x : List α} (h : l.length + x.length ≤ 137438953472) : app l x = some (l ++ x) := if_pos h
theorem cat_ok {l x : List UInt8} (h : l.length + x.length ≤ 9223372036854775807) : cat l x = some (l ++ x) := if_pos h
theorem slc_ok {α : Type} {l : List α} {a b : Int} (h : 0 ≤ a ∧ a ≤ b ∧ b ≤ l.length) : slc l a b = some ((l.take b.toNat).drop a.toNat) := if_pos h
theorem idx_ok {α : Type} {l : List α} {i : Nat} {x : α} (h : l[i]? = some x) : idx l (i : Int) = some x := by unfold idx; rw [if_pos (by omega)]; exact h
theorem idx_nat {α : Type} (l : List α) (i : Nat) : idx l (i : Int) = l[i]? := by unfold idx; rw [if_pos (by omega)]; rfl
theorem wI {x : Int} (h : -9223372036854775808 ≤ x ∧ x ≤ 9223372036854775807) : IntKind.i64.wrap x = x := w64 h
theorem loop_next {σ ρ : Type} {body : σ → Option (Sum σ ρ)} {s s' : σ} (h : body s = some (.inl s')) : loopO body s = loopO body s' := by rw [loopO_eq, h]
theorem loop_end {σ ρ : Type} {body : σ → Option (Sum σ ρ)} {s : σ} {r : ρ} (h : body s = some (.inr r)) : loopO body s = some r := by rw [loopO_eq, h]
end Go.Proofs.YtkleajhiihbefaaGreatDoor.K
set_option linter.unusedVariables false
set_option linter.unusedSimpArgs false
set_option linter.unusedSectionVars false
namespace Go.Proofs.YtkleajhiihbefaaGreatDoor.K
open Go Go.RowKit
section
variable {P : Program} {B : Code} {n : Cx} {p : List Nat} {i : Nat} {κ : Kn} {w : World} {w0 : World} {F0 : Nat → Prop} {m0 m : Mem} {σ : List Item} {Z : Kn → World → Prop}
theorem rangeS (d : Option Nat) (t k e b : Nat) {es : Array MapEntry} {clock : Nat} (H : St w0 F0 m0 m σ w) (hm : m b = some (.map es clock)) (ht : P.underlying t = some (.map k e))
  (ho : fetch B n p i κ = some (d, vS (Instr.range t (.map (some b)))))
  (hX : ∀ g w1, St w0 F0 m0 m (objI g (.mapIter (some b) clock #[] clock) :: σ) w1 → Z (putk d (.pointer (some ⟨g, 0, none⟩)) κ) w1) : Step P B n p i κ w Z := by
 have hb := H.has b _ hm
 have hrun : (Instr.range t (.map (some b))).run P w = .ok (.pointer (some ⟨w.heap.size, 0, none⟩)) (w.alloc (.mapIter (some b) clock #[] clock)) := by
  unfold Instr.range
  rw [Sem.run_bind, run_underlying ht, Result.andThen_ok]
  dsimp only
  rw [Sem.run_bind, getM hb, Result.andThen_ok]
  dsimp only
  rfl
 exact runR ho (vS_run hrun) (hX w.heap.size _ (H.allocO _))
theorem nextS (d : Option Nat) (n' g b since c0 ty : Nat) (seen : Array Nat) {es : Array MapEntry} {clock : Nat} (H : St w0 F0 m0 m σ w) (hn : σ[n']? = some (objI g (.mapIter (some b) since seen c0))) (hm : m b = some (.map es clock))
  (hold : ∀ x ∈ es.toList, x.born < since) (hsc : since ≤ c0) (ho : fetch B n p i κ = some (d, vS (Instr.next (.pointer (some ⟨g, 0, none⟩)) false ty)))
  (h0 : (leftOf es seen).size = 0 → Z (putk d (.tuple #[.bool false]) κ) w)
  (h1 : ∀ e ∈ (leftOf es seen).toList, ∀ w1, St w0 F0 m0 m (σ.set n' (objI g (.mapIter (some b) since (seen.push e.born) clock))) w1 → Z (putk d (.tuple #[.bool true, e.key, e.val]) κ) w1) : Step P B n p i κ w Z := by
 obtain ⟨F, hP, h3, h4⟩ := H.upd n' hn
 rcases run_next_at (P := P) w ty g b since c0 seen es clock hP.1 (H.has b _ hm) hold hsc with ⟨e0, hr⟩ | ⟨e, he, w1, hw, hr⟩
 ·exact runR ho (vS_run hr) (h0 e0)
 ·refine runR ho (vS_run hr) (h1 e he _ (h4 _ (objI g (.mapIter (some b) since (seen.push e.born) clock)) (fun k => k = g) ?_ ⟨?_, fun _ => Iff.rfl⟩ (fun k e => .inl ((hP.2 k).2 e))))
  ·have hh : w1.heap = w.heap := by rcases hw with rfl | rfl <;> rfl
   refine ⟨by rcases hw with rfl | rfl <;> rfl, by rcases hw with rfl | rfl <;> rfl, by rcases hw with rfl | rfl <;> rfl, by simp [ChangeMaps.setBlock, hh], fun k hk hn => ?_, ?_⟩
   ·have hne : g ≠ k := fun e => hn ((hP.2 k).2 e.symm)
    simp [ChangeMaps.setBlock, hh, Array.getElem?_setIfInBounds, hne]
   ·rcases hw with rfl | rfl
    ·exact Nat.le_refl _
    ·exact Nat.le_succ _
  ·have hh : w1.heap = w.heap := by rcases hw with rfl | rfl <;> rfl
   have hlt := blk_lt hP.1
   simp [ChangeMaps.setBlock, hh, Array.getElem?_setIfInBounds, hlt]
theorem entryS (d : Option Nat) (n' g b since : Nat) (seen : Array Nat) {es : Array MapEntry} {clock : Nat} {e : MapEntry} (H : St w0 F0 m0 m σ w) (hn : σ[n']? = some (objI g (.mapIter (some b) since (seen.push e.born) clock))) (hm : m b = some (.map es clock))
  (he : e ∈ es.toList) (hB : (es.toList.map (·.born)).Nodup) (ho : fetch B n p i κ = some (d, vS (Instr.entry (.pointer (some ⟨g, 0, none⟩)))))
  (hX : Z (putk d (.tuple #[e.key, e.val]) κ) w) : Step P B n p i κ w Z := by
 obtain ⟨F, hP, h3, h4⟩ := H.upd n' hn
 exact runR ho (vS_run (run_entry_at w g b since seen es clock e hP.1 (H.has b _ hm) he hB)) hX
end
theorem left_list (es : Array MapEntry) (seen : Array Nat) : (leftOf es seen).toList = es.toList.filter (fun e => !seen.contains e.born) := by
 unfold leftOf
 simp
theorem filter_out {α β : Type} [DecidableEq β] (f : α → β) : ∀ {l : List α} {x : α}, (l.map f).Nodup → x ∈ l → l.Perm (x :: l.filter (fun y => f y != f x))
 | [], x, _, h => by cases h
 | a :: l, x, hn, h => by
  rw [List.map_cons, List.nodup_cons] at hn
  rcases List.mem_cons.1 h with rfl | h2
  ·have e : l.filter (fun y => f y != f x) = l := List.filter_eq_self.2 fun y hy => by
    have : f y ≠ f x := fun e => hn.1 (by rw [← e]; exact List.mem_map_of_mem hy)
    simpa using this
   rw [List.filter_cons, e]
   simp
  ·have hne : f a ≠ f x := fun e => hn.1 (by rw [e]; exact List.mem_map_of_mem h2)
   rw [List.filter_cons, show (f a != f x) = true by simpa using hne, if_pos rfl]
   exact ((filter_out f hn.2 h2).cons a).trans (List.Perm.swap _ _ _)
end Go.Proofs.YtkleajhiihbefaaGreatDoor.K
