/- The code computes them: printed by e.py. -/
import Derived.Test.YtebbaokcgnjfiaaProg
import Derived.Test.YtebbaokcgnjfiaaE17
import Derived.Test.YtebbaokcgnjfiaaEGP
set_option linter.unusedVariables false
set_option linter.unusedSimpArgs false
namespace Go.Proofs.Ytebbaokcgnjfiaa.F
open Go Go.RowKit Go.Proofs.Ytebbaokcgnjfiaa Go.Proofs.Ytebbaokcgnjfiaa.K Go.Proofs.Ytebbaokcgnjfiaa.K.E
set_option maxRecDepth 100000
def Tt : Nat → Type
  | 1 => UInt8
  | 2 => TGlobPiece
  | 3 => TGlobPart
  | 4 => (List UInt8)
  | 5 => Bool
  | _ => Unit
def ex_1 (x : UInt8) : List (AV Tt) := [.u8 x]
def im_1 (l : List (AV Tt)) : Option UInt8 := match l with
  | [a0] => (gU8 a0).bind fun x0 => some x0
  | _ => none
def ex_2 (x : TGlobPiece) : List (AV Tt) := [.i64 x.f_kind, .u64 x.f_in.1, .u64 x.f_in.2.1, .u64 x.f_in.2.2.1, .u64 x.f_in.2.2.2]
def im_2 (l : List (AV Tt)) : Option TGlobPiece := match l with
  | [a0, a1, a2, a3, a4] => (gI64 a0).bind fun x0 => (gU64 a1).bind fun x1 => (gU64 a2).bind fun x2 => (gU64 a3).bind fun x3 => (gU64 a4).bind fun x4 => some ⟨x0, (x1, x2, x3, x4)⟩
  | _ => none
def ex_3 (x : TGlobPart) : List (AV Tt) := [.bool x.f_any, .sl 2 x.f_pieces]
def im_3 (l : List (AV Tt)) : Option TGlobPart := match l with
  | [a0, a1] => (gBool a0).bind fun x0 => (gSl 2 a1).bind fun x1 => some ⟨x0, x1⟩
  | _ => none
def ex_4 (x : (List UInt8)) : List (AV Tt) := [.str x]
def im_4 (l : List (AV Tt)) : Option (List UInt8) := match l with
  | [a0] => (gStr a0).bind fun x0 => some x0
  | _ => none
def ex_5 (x : Bool) : List (AV Tt) := [.bool x]
def im_5 (l : List (AV Tt)) : Option Bool := match l with
  | [a0] => (gBool a0).bind fun x0 => some x0
  | _ => none
def tbl : Tab where
  T := Tt
  rep n := match n with | 1 => rU8 | 2 => rGlobPiece | 3 => rGlobPart | 4 => rStr | 5 => rBool | 0 => rNo | _ + 6 => rNo
  ex n := match n with | 1 => ex_1 | 2 => ex_2 | 3 => ex_3 | 4 => ex_4 | 5 => ex_5 | 0 => fun _ => [.bool true] | _ + 6 => fun _ => [.bool true]
  im n := match n with | 1 => im_1 | 2 => im_2 | 3 => im_3 | 4 => im_4 | 5 => im_5 | 0 => fun _ => none | _ + 6 => fun _ => none
  code t := (([(4, 5), (9, 4), (105, 3), (128, 2)] : List (Nat × Nat)).find? (fun p => Nat.beq p.1 t)).map (·.2)
  gl g := none
  u8c := 1
  tou8 n := match n with | 1 => fun l => some l | 0 => fun _ => none | _ + 2 => fun _ => none
  ofu8 l := l
theorem imok_1 {av : List (AV Tt)} {x : UInt8} {η : List Value} {m : Mem} {vs : List Value} (h : im_1 av = some x) (hr : RL tbl η m av vs) : rU8.im m vs x := by
  unfold im_1 at h
  split at h
  · obtain ⟨v0, r, rfl, h0, hr⟩ := hr
    cases hr
    obtain ⟨x0, e0, h⟩ := bindE h
    have q0 := gU8_ok (tb := tbl) e0 h0
    subst q0
    cases h
    exact rfl
  · cases h
theorem exok_1 {x : UInt8} {η : List Value} {m : Mem} {vs : List Value} (h : rU8.im m vs x) : RL tbl η m (ex_1 x) vs := by
  have h : vs = _ := h
  subst h
  exact ⟨_, _, rfl, rfl, rfl⟩
theorem imok_2 {av : List (AV Tt)} {x : TGlobPiece} {η : List Value} {m : Mem} {vs : List Value} (h : im_2 av = some x) (hr : RL tbl η m av vs) : rGlobPiece.im m vs x := by
  unfold im_2 at h
  split at h
  · obtain ⟨v0, r, rfl, h0, hr⟩ := hr
    obtain ⟨v1, r, rfl, h1, hr⟩ := hr
    obtain ⟨v2, r, rfl, h2, hr⟩ := hr
    obtain ⟨v3, r, rfl, h3, hr⟩ := hr
    obtain ⟨v4, r, rfl, h4, hr⟩ := hr
    cases hr
    obtain ⟨x0, e0, h⟩ := bindE h
    have q0 := gI64_ok (tb := tbl) e0 h0
    subst q0
    obtain ⟨x1, e1, h⟩ := bindE h
    have q1 := gU64_ok (tb := tbl) e1 h1
    subst q1
    obtain ⟨x2, e2, h⟩ := bindE h
    have q2 := gU64_ok (tb := tbl) e2 h2
    subst q2
    obtain ⟨x3, e3, h⟩ := bindE h
    have q3 := gU64_ok (tb := tbl) e3 h3
    subst q3
    obtain ⟨x4, e4, h⟩ := bindE h
    have q4 := gU64_ok (tb := tbl) e4 h4
    subst q4
    cases h
    exact rfl
  · cases h
theorem exok_2 {x : TGlobPiece} {η : List Value} {m : Mem} {vs : List Value} (h : rGlobPiece.im m vs x) : RL tbl η m (ex_2 x) vs := by
  have h : vs = _ := h
  subst h
  exact ⟨_, _, rfl, rfl, ⟨_, _, rfl, rfl, ⟨_, _, rfl, rfl, ⟨_, _, rfl, rfl, ⟨_, _, rfl, rfl, rfl⟩⟩⟩⟩⟩
theorem imok_3 {av : List (AV Tt)} {x : TGlobPart} {η : List Value} {m : Mem} {vs : List Value} (h : im_3 av = some x) (hr : RL tbl η m av vs) : rGlobPart.im m vs x := by
  unfold im_3 at h
  split at h
  · obtain ⟨v0, r, rfl, h0, hr⟩ := hr
    obtain ⟨v1, r, rfl, h1, hr⟩ := hr
    cases hr
    obtain ⟨x0, e0, h⟩ := bindE h
    have q0 := gBool_ok (tb := tbl) e0 h0
    subst q0
    obtain ⟨x1, e1, h⟩ := bindE h
    obtain ⟨A1, c1, rfl, s1⟩ := gSl_ok (tb := tbl) (n := 2) e1 h1
    cases h
    exact ⟨A1, c1, rfl, s1⟩
  · cases h
theorem exok_3 {x : TGlobPart} {η : List Value} {m : Mem} {vs : List Value} (h : rGlobPart.im m vs x) : RL tbl η m (ex_3 x) vs := by
  obtain ⟨A1, c1, rfl, s1⟩ := h
  exact ⟨_, _, rfl, rfl, ⟨_, _, rfl, ⟨A1, c1, rfl, s1⟩, rfl⟩⟩
theorem imok_4 {av : List (AV Tt)} {x : (List UInt8)} {η : List Value} {m : Mem} {vs : List Value} (h : im_4 av = some x) (hr : RL tbl η m av vs) : rStr.im m vs x := by
  unfold im_4 at h
  split at h
  · obtain ⟨v0, r, rfl, h0, hr⟩ := hr
    cases hr
    obtain ⟨x0, e0, h⟩ := bindE h
    obtain ⟨rfl, s0⟩ := gStr_ok (tb := tbl) e0 h0
    cases h
    exact ⟨rfl, s0⟩
  · cases h
theorem exok_4 {x : (List UInt8)} {η : List Value} {m : Mem} {vs : List Value} (h : rStr.im m vs x) : RL tbl η m (ex_4 x) vs := by
  obtain ⟨rfl, s0⟩ := h
  exact ⟨_, _, rfl, ⟨rfl, s0⟩, rfl⟩
theorem imok_5 {av : List (AV Tt)} {x : Bool} {η : List Value} {m : Mem} {vs : List Value} (h : im_5 av = some x) (hr : RL tbl η m av vs) : rBool.im m vs x := by
  unfold im_5 at h
  split at h
  · obtain ⟨v0, r, rfl, h0, hr⟩ := hr
    cases hr
    obtain ⟨x0, e0, h⟩ := bindE h
    have q0 := gBool_ok (tb := tbl) e0 h0
    subst q0
    cases h
    exact rfl
  · cases h
theorem exok_5 {x : Bool} {η : List Value} {m : Mem} {vs : List Value} (h : rBool.im m vs x) : RL tbl η m (ex_5 x) vs := by
  have h : vs = _ := h
  subst h
  exact ⟨_, _, rfl, rfl, rfl⟩
theorem tOk : TabOk tbl where
  im := by
    intro n av x η m vs h hr
    match n, x, h with
    | 1, x, h => exact imok_1 h hr
    | 2, x, h => exact imok_2 h hr
    | 3, x, h => exact imok_3 h hr
    | 4, x, h => exact imok_4 h hr
    | 5, x, h => exact imok_5 h hr
    | 0, x, h => cases h
    | k + 6, x, h => cases h
  ex := by
    intro n x η m vs h
    match n, x, h with
    | 1, x, h => exact exok_1 h
    | 2, x, h => exact exok_2 h
    | 3, x, h => exact exok_3 h
    | 4, x, h => exact exok_4 h
    | 5, x, h => exact exok_5 h
    | 0, x, h => exact ⟨_, _, h, rfl, rfl⟩
    | k + 6, x, h => exact ⟨_, _, h, rfl, rfl⟩
  fl := by
    intro n x η ζ m vs h
    match n, x, h with
    | 1, x, h => exact h
    | 2, x, h => exact h
    | 3, x, h => exact h
    | 4, x, h => exact h
    | 5, x, h => exact h
    | 0, x, h => exact h
    | k + 6, x, h => exact h
  tou8 := by
    intro n l x h M hm
    match n, l, h, hm with
    | 1, l, h, hm => cases h; exact hm
    | 0, l, h, hm => cases h
    | k + 2, l, h, hm => cases h
  ofu8 := fun M hm => hm
theorem glob_of {m : Mem} : Glob tbl m := fun h => by cases h
noncomputable def c_ref10_Valid : Con Tt := ⟨34, (sh [.str]), (sh [.bool]), 1, [], fun x => ref10_Valid x⟩
theorem ref10_Valid_ok : ConOk Try.prog tbl c_ref10_Valid := fn_ok (cs := []) (an := [([1, 0, 0], .join ⟨[19], [], (sh [.bool]), [0], []⟩), ([1, 1, 0, 1, 0], .loop 0 ⟨[3], [], (sh [.i64]), [0], []⟩ ⟨[], [], (sh []), [], []⟩)]) (fn := Try.f34) tOk conNil (by rfl) Try.func34 (by kernel_rfl) (fun _ _ => by rfl) (fun _ => by kernel_rfl) (by kernel_rfl) (fun x => by kernel_rfl)
noncomputable def c_glob_reader_more : Con Tt := ⟨90, (sh [(.own 98 (sh [.str, .i64, .i64]))]), (sh [.bool, (.agg (sh [.str, .i64, .i64]))]), 1, [(0, 98)], fun x => glob_reader_more x.1 x.2.1 x.2.2⟩
theorem glob_reader_more_ok : ConOk Try.prog tbl c_glob_reader_more := fn_ok (cs := []) (an := [([1, 0], .lock [0])]) (fn := Try.f90) tOk conNil (by rfl) Try.func90 (by kernel_rfl) (fun _ _ => by rfl) (fun _ => by kernel_rfl) (by kernel_rfl) (fun x => by kernel_rfl)
noncomputable def c_glob_reader_stars : Con Tt := ⟨92, (sh [(.own 98 (sh [.str, .i64, .i64]))]), (sh [(.agg (sh [.i64, .u64, .u64, .u64, .u64])), (.agg (sh [.str, .i64, .i64]))]), 1, [(0, 98)], fun x => glob_reader_stars x.1 x.2.1 x.2.2⟩
theorem glob_reader_stars_ok : ConOk Try.prog tbl c_glob_reader_stars := fn_ok (cs := []) (an := []) (fn := Try.f92) tOk conNil (by rfl) Try.func92 (by kernel_rfl) (fun _ _ => by rfl) (fun _ => by kernel_rfl) (by kernel_rfl) (fun x => by kernel_rfl)
noncomputable def c_glob_reader_question : Con Tt := ⟨93, (sh [(.own 98 (sh [.str, .i64, .i64]))]), (sh [(.agg (sh [.i64, .u64, .u64, .u64, .u64])), (.agg (sh [.str, .i64, .i64]))]), 1, [(0, 98)], fun x => glob_reader_question x.1 x.2.1 x.2.2⟩
theorem glob_reader_question_ok : ConOk Try.prog tbl c_glob_reader_question := fn_ok (cs := []) (an := []) (fn := Try.f93) tOk conNil (by rfl) Try.func93 (by kernel_rfl) (fun _ _ => by rfl) (fun _ => by kernel_rfl) (by kernel_rfl) (fun x => by kernel_rfl)
noncomputable def c_glob_reader_fail : Con Tt := ⟨72, (sh [(.own 98 (sh [.str, .i64, .i64])), .i64, .i64]), (sh [(.agg (sh [.str, .i64, .i64]))]), 0, [(0, 98)], fun x => glob_reader_fail x.1.1 x.1.2.1 x.1.2.2 x.2.1 x.2.2⟩
theorem glob_reader_fail_ok : ConOk Try.prog tbl c_glob_reader_fail := fn_ok (cs := []) (an := []) (fn := Try.f72) tOk conNil (by rfl) Try.func72 (by kernel_rfl) (fun _ _ => by rfl) (fun _ => by kernel_rfl) (by kernel_rfl) (fun x => by kernel_rfl)
noncomputable def c_glob_reader_take : Con Tt := ⟨102, (sh [(.own 98 (sh [.str, .i64, .i64])), .str]), (sh [.u8, (.agg (sh [.str, .i64, .i64]))]), 1, [(0, 98)], fun x => glob_reader_take x.1.1 x.1.2.1 x.1.2.2 x.2⟩
theorem glob_reader_take_ok : ConOk Try.prog tbl c_glob_reader_take := fn_ok (cs := [c_glob_reader_fail]) (an := [([1, 1, 0, 0], .lockJ [0] ⟨[45], [], (sh [.bool]), [0, 1], [0]⟩), ([1, 1, 1, 0], .lock [0]), ([1, 1, 1, 1, 0, 1, 0], .loop 0 ⟨[63], [], (sh [.i64]), [0, 1, 5, 62], [0]⟩ ⟨[], [], (sh []), [0, 5], [0]⟩)]) (fn := Try.f102) tOk (conCons glob_reader_fail_ok conNil) (by rfl) Try.func102 (by kernel_rfl) (fun _ _ => by rfl) (fun _ => by kernel_rfl) (by kernel_rfl) (fun x => by kernel_rfl)
noncomputable def c_glob_reader_escaped : Con Tt := ⟨101, (sh [(.own 98 (sh [.str, .i64, .i64])), .str]), (sh [.u8, (.agg (sh [.str, .i64, .i64]))]), 1, [(0, 98)], fun x => glob_reader_escaped x.1.1 x.1.2.1 x.1.2.2 x.2⟩
theorem glob_reader_escaped_ok : ConOk Try.prog tbl c_glob_reader_escaped := fn_ok (cs := [c_glob_reader_take]) (an := []) (fn := Try.f101) tOk (conCons glob_reader_take_ok conNil) (by rfl) Try.func101 (by kernel_rfl) (fun _ _ => by rfl) (fun _ => by kernel_rfl) (by kernel_rfl) (fun x => by kernel_rfl)
noncomputable def c_glob_piece_put : Con Tt := ⟨100, (sh [(.own 128 (sh [.i64, .u64, .u64, .u64, .u64])), .u8]), (sh [(.agg (sh [.i64, .u64, .u64, .u64, .u64]))]), 0, [(0, 128)], fun x => glob_piece_put x.1.1 x.1.2.1 x.1.2.2.1 x.1.2.2.2.1 x.1.2.2.2.2 x.2⟩
theorem glob_piece_put_ok : ConOk Try.prog tbl c_glob_piece_put := fn_ok (cs := []) (an := []) (fn := Try.f100) tOk conNil (by rfl) Try.func100 (by kernel_rfl) (fun _ _ => by rfl) (fun _ => by kernel_rfl) (by kernel_rfl) (fun x => by kernel_rfl)
noncomputable def c_glob_reader_ranges : Con Tt := ⟨94, (sh [(.own 98 (sh [.str, .i64, .i64]))]), (sh [(.agg (sh [.i64, .u64, .u64, .u64, .u64])), (.agg (sh [.str, .i64, .i64]))]), 1, [(0, 98)], fun x => glob_reader_ranges x.1 x.2.1 x.2.2⟩
theorem glob_reader_ranges_ok : ConOk Try.prog tbl c_glob_reader_ranges := fn_ok (cs := [c_glob_reader_escaped, c_glob_reader_fail, c_glob_piece_put, c_glob_reader_take]) (an := [([1, 1, 1, 0], .lockJ [0] ⟨[4], [], (sh [.bool]), [0, 2, 3], [0, 1, 2]⟩), ([1, 1, 1, 1, 0, 1], .join ⟨[], [(0, 98)], (sh [(.agg (sh [.str, .i64, .i64]))]), [0, 2, 3, 4], [1, 2]⟩), ([1, 1, 1, 1, 1, 0, 1, 0], .loop 0 ⟨[5], [(0, 98), (2, 128)], (sh [.bool, (.agg (sh [.str, .i64, .i64])), (.agg (sh [.i64, .u64, .u64, .u64, .u64]))]), [0, 2, 3, 4], [1]⟩ ⟨[], [(0, 98), (2, 128)], (sh [(.agg (sh [.str, .i64, .i64])), (.agg (sh [.i64, .u64, .u64, .u64, .u64]))]), [0, 2, 3, 4], [1]⟩), ([1, 1, 1, 1, 1, 0, 1, 0, 0, 0, 0], .lockJ [0] ⟨[80], [], (sh [.bool]), [0, 2, 3, 4], [0, 1, 2]⟩), ([1, 1, 1, 1, 1, 0, 1, 0, 0, 1, 0, 0, 1, 1, 0, 0], .lockJ [0] ⟨[112], [], (sh [.bool]), [0, 2, 3, 4, 6, 7], [0, 1, 2]⟩), ([1, 1, 1, 1, 1, 0, 1, 0, 0, 1, 0, 0, 1, 1, 0, 1], .join ⟨[7], [(0, 98)], (sh [.u8, (.agg (sh [.str, .i64, .i64]))]), [0, 2, 3, 4, 6], [1, 2]⟩), ([1, 1, 1, 1, 1, 0, 1, 0, 0, 1, 0, 0, 1, 1, 0, 1, 0, 1, 1, 1, 0], .join ⟨[135], [], (sh [.bool]), [0, 2, 3, 4, 6, 7, 8], [0, 1, 2]⟩), ([1, 1, 1, 1, 1, 0, 1, 0, 0, 1, 0, 0, 1, 1, 0, 1, 0, 1, 1, 1, 1], .join ⟨[], [(0, 98)], (sh [(.agg (sh [.str, .i64, .i64]))]), [0, 2, 3, 4, 6, 7], [1, 2]⟩), ([1, 1, 1, 1, 1, 0, 1, 0, 0, 1, 0, 0, 1, 1, 1, 1, 0], .loop 2 ⟨[9], [(2, 128)], (sh [.i64, (.agg (sh [.i64, .u64, .u64, .u64, .u64]))]), [0, 2, 3, 4, 7], [0, 1]⟩ ⟨[], [(2, 128)], (sh [(.agg (sh [.i64, .u64, .u64, .u64, .u64]))]), [0, 2, 3, 4], [0, 1]⟩), ([1, 1, 1, 1, 1, 1, 1, 0, 1, 0], .loop 4 ⟨[159], [(2, 128)], (sh [.i64, (.agg (sh [.i64, .u64, .u64, .u64, .u64]))]), [2, 3, 4], [0, 1]⟩ ⟨[], [(2, 128)], (sh [(.agg (sh [.i64, .u64, .u64, .u64, .u64]))]), [2, 3], [0, 1]⟩)]) (fn := Try.f94) tOk (conCons glob_reader_escaped_ok (conCons glob_reader_fail_ok (conCons glob_piece_put_ok (conCons glob_reader_take_ok conNil)))) (by rfl) Try.func94 (by kernel_rfl) (fun _ _ => by rfl) (fun _ => by kernel_rfl) (by kernel_rfl) (fun x => by kernel_rfl)
noncomputable def c_glob_reader_byte1 : Con Tt := ⟨91, (sh [(.own 98 (sh [.str, .i64, .i64]))]), (sh [(.agg (sh [.i64, .u64, .u64, .u64, .u64])), (.agg (sh [.str, .i64, .i64]))]), 1, [(0, 98)], fun x => glob_reader_byte1 x.1 x.2.1 x.2.2⟩
theorem glob_reader_byte1_ok : ConOk Try.prog tbl c_glob_reader_byte1 := fn_ok (cs := [c_glob_reader_escaped, c_glob_piece_put]) (an := []) (fn := Try.f91) tOk (conCons glob_reader_escaped_ok (conCons glob_piece_put_ok conNil)) (by rfl) Try.func91 (by kernel_rfl) (fun _ _ => by rfl) (fun _ => by kernel_rfl) (by kernel_rfl) (fun x => by kernel_rfl)
noncomputable def c_glob_reader_part : Con Tt := ⟨73, (sh [(.own 98 (sh [.str, .i64, .i64]))]), (sh [(.agg (sh [.bool, (.row 2 128)])), (.agg (sh [.str, .i64, .i64]))]), 1, [(0, 98)], fun x => glob_reader_part x.1 x.2.1 x.2.2⟩
theorem glob_reader_part_ok : ConOk Try.prog tbl c_glob_reader_part := fn_ok (cs := [c_glob_reader_more, c_glob_reader_stars, c_glob_reader_question, c_glob_reader_ranges, c_glob_reader_byte1, c_glob_reader_fail]) (an := [([1, 1, 1, 0, 0], .loop 0 ⟨[], [(0, 98), (2, 105)], (sh [(.agg (sh [.str, .i64, .i64])), (.agg (sh [.bool, (.row 2 128)]))]), [0, 2, 3, 4], [1]⟩ ⟨[], [(0, 98), (2, 105)], (sh [(.agg (sh [.str, .i64, .i64])), (.agg (sh [.bool, (.row 2 128)]))]), [0, 2, 3, 4], [1]⟩), ([1, 1, 1, 0, 0, 0, 1, 0, 1, 0, 0], .lock [0]), ([1, 1, 1, 1, 0, 1], .join ⟨[], [(0, 98)], (sh [(.agg (sh [.str, .i64, .i64]))]), [0, 2, 3, 4], [1, 2, 3]⟩), ([1, 1, 1, 1, 1, 0], .lock [0])]) (fn := Try.f73) tOk (conCons glob_reader_more_ok (conCons glob_reader_stars_ok (conCons glob_reader_question_ok (conCons glob_reader_ranges_ok (conCons glob_reader_byte1_ok (conCons glob_reader_fail_ok conNil)))))) (by rfl) Try.func73 (by kernel_rfl) (fun _ _ => by rfl) (fun _ => by kernel_rfl) (by kernel_rfl) (fun x => by kernel_rfl)
noncomputable def c_glob_Compile : Con Tt := ⟨36, (sh [.str]), (sh [(.alt .nilp (.own 101 (sh [.str, (.row 3 105)]))), .i64, .i64]), 3, [], fun x => glob_Compile x⟩
theorem glob_Compile_ok : ConOk Try.prog tbl c_glob_Compile := fn_ok (cs := [c_glob_reader_fail, c_glob_reader_part]) (an := [([1, 1, 1, 1, 0], .loop 0 ⟨[], [(0, 98), (1, 101)], (sh [(.agg (sh [.str, .i64, .i64])), (.agg (sh [.str, (.row 3 105)]))]), [0, 5, 6], []⟩ ⟨[], [], (sh []), [], []⟩), ([1, 1, 1, 1, 0, 0, 0, 0, 1], .join ⟨[], [(0, 98)], (sh [(.agg (sh [.str, .i64, .i64]))]), [0, 5, 6], [1, 2]⟩), ([1, 1, 1, 1, 0, 0, 0, 1, 0, 1, 0, 0], .lock [0]), ([1, 1, 1, 1, 0, 0, 0, 1, 1, 0], .join ⟨[], [(0, 98), (1, 101)], (sh [(.agg (sh [.str, .i64, .i64])), (.agg (sh [.str, (.row 3 105)]))]), [0, 5, 6], []⟩), ([1, 1, 1, 1, 0, 0, 0, 1, 1, 1, 0, 1, 0, 0], .lock [0])]) (fn := Try.f36) tOk (conCons glob_reader_fail_ok (conCons glob_reader_part_ok conNil)) (by rfl) Try.func36 (by kernel_rfl) (fun _ _ => by rfl) (fun _ => by kernel_rfl) (by kernel_rfl) (fun x => by kernel_rfl)
noncomputable def c_law28_num : Con Tt := ⟨37, (sh [.i64]), (sh [.i64]), 1, [], fun x => law28_num x⟩
theorem law28_num_ok : ConOk Try.prog tbl c_law28_num := fn_ok (cs := []) (an := []) (fn := Try.f37) tOk conNil (by rfl) Try.func37 (by kernel_rfl) (fun _ _ => by rfl) (fun _ => by kernel_rfl) (by kernel_rfl) (fun x => by kernel_rfl)
noncomputable def c_ixb : Con Tt := ⟨105, (sh [.str, .u8]), (sh [.i64]), 1, [], fun x => ixb x.1 x.2⟩
theorem ixbC_ok : ConOk Try.prog tbl c_ixb := E.ixb_ok Try.func105 (by kernel_rfl) (by kernel_rfl) (by kernel_rfl) (by kernel_rfl)
noncomputable def c_internal_stringslite_IndexByte : Con Tt := ⟨97, (sh [.str, .u8]), (sh [.i64]), 1, [], fun x => internal_stringslite_IndexByte x.1 x.2⟩
theorem internal_stringslite_IndexByte_ok : ConOk Try.prog tbl c_internal_stringslite_IndexByte := fn_ok (cs := [c_ixb]) (an := []) (fn := Try.f97) tOk (conCons ixbC_ok conNil) (by rfl) Try.func97 (by kernel_rfl) (fun _ _ => by rfl) (fun _ => by kernel_rfl) (by kernel_rfl) (fun x => by kernel_rfl)
noncomputable def c_internal_stringslite_Index : Con Tt := ⟨107, (sh [.str, (.lit [47])]), (sh [.i64]), 1, [], fun x => internal_stringslite_Index x.1⟩
theorem internal_stringslite_Index_ok : ConOk Try.prog tbl c_internal_stringslite_Index := fn_ok (cs := [c_internal_stringslite_IndexByte]) (an := []) (fn := Try.f107) tOk (conCons internal_stringslite_IndexByte_ok conNil) (by rfl) Try.func107 (by kernel_rfl) (fun _ _ => by rfl) (fun _ => by kernel_rfl) (by kernel_rfl) (fun x => by kernel_rfl)
noncomputable def c_internal_stringslite_Cut : Con Tt := ⟨106, (sh [.str, (.lit [47])]), (sh [.str, .str, .bool]), 3, [], fun x => internal_stringslite_Cut x.1⟩
theorem internal_stringslite_Cut_ok : ConOk Try.prog tbl c_internal_stringslite_Cut := fn_ok (cs := [c_internal_stringslite_Index]) (an := []) (fn := Try.f106) tOk (conCons internal_stringslite_Index_ok conNil) (by rfl) Try.func106 (by kernel_rfl) (fun _ _ => by rfl) (fun _ => by kernel_rfl) (by kernel_rfl) (fun x => by kernel_rfl)
noncomputable def c_strings_Cut : Con Tt := ⟨104, (sh [.str, (.lit [47])]), (sh [.str, .str, .bool]), 3, [], fun x => strings_Cut x.1⟩
theorem strings_Cut_ok : ConOk Try.prog tbl c_strings_Cut := fn_ok (cs := [c_internal_stringslite_Cut]) (an := []) (fn := Try.f104) tOk (conCons internal_stringslite_Cut_ok conNil) (by rfl) Try.func104 (by kernel_rfl) (fun _ _ => by rfl) (fun _ => by kernel_rfl) (by kernel_rfl) (fun x => by kernel_rfl)
noncomputable def c_strings_IndexByte : Con Tt := ⟨82, (sh [.str, .u8]), (sh [.i64]), 1, [], fun x => strings_IndexByte x.1 x.2⟩
theorem strings_IndexByte_ok : ConOk Try.prog tbl c_strings_IndexByte := fn_ok (cs := [c_internal_stringslite_IndexByte]) (an := []) (fn := Try.f82) tOk (conCons internal_stringslite_IndexByte_ok conNil) (by rfl) Try.func82 (by kernel_rfl) (fun _ _ => by rfl) (fun _ => by kernel_rfl) (by kernel_rfl) (fun x => by kernel_rfl)
noncomputable def c_name_Split : Con Tt := ⟨74, (sh [.str]), (sh [(.row 4 9), .i64]), 2, [], fun x => name_Split x⟩

end Go.Proofs.Ytebbaokcgnjfiaa.F
