/- Texts in one: MPC W MPNS MPC1. -/
import Derived.Test.YtkmhidggbnbaaaaGreatDoorProg
import Derived.Test.YtkmhidggbnbaaaaGreatDoorBP7
import Derived.Test.YtkmhidggbnbaaaaGreatDoorBP8
import Derived.Test.YtkmhidggbnbaaaaGreatDoorBP6
import Derived.Test.YtkmhidggbnbaaaaGreatDoorBP1
set_option linter.unusedVariables false
set_option linter.unusedSimpArgs false
namespace Go.Proofs.YtkmhidggbnbaaaaGreatDoor.F
open Go Go.RowKit Go.Proofs.YtkmhidggbnbaaaaGreatDoor Go.Proofs.YtkmhidggbnbaaaaGreatDoor.K Go.Proofs.YtkmhidggbnbaaaaGreatDoor.K.E
set_option maxRecDepth 100000
def Tt : Nat → Type
  | 1 => UInt8
  | 2 => TApiEntry
  | 3 => TApiAttr
  | 4 => (List UInt8)
  | 5 => TApiKid
  | 6 => TApiNode
  | 7 => List TApiNode
  | 8 => List TApiNode × Int × TApiNode
  | 9 => Bool
  | 10 => Int
  | 11 => List (Int × (List UInt8))
  | 12 => List (List UInt8 × Int)
  | 13 => TTreeNamed
  | 14 => TModelModel
  | 15 => (List (List UInt8))
  | _ => Unit
def ex_1 (x : UInt8) : List (AV Tt) := [.u8 x]
def im_1 (l : List (AV Tt)) : Option UInt8 := match l with
  | [a0] => (gU8 a0).bind fun x0 => some x0
  | _ => none
def ex_2 (x : TApiEntry) : List (AV Tt) := [.str x.Path, .i64 x.Kind, .i64 x.Mode, .i64 x.Uid, .i64 x.Gid, .i64 x.Time, .i64 x.Size, .sl 1 x.Data, .str x.Target, .i64 x.Dev, .sl 3 x.Attrs]
def im_2 (l : List (AV Tt)) : Option TApiEntry := match l with
  | [a0, a1, a2, a3, a4, a5, a6, a7, a8, a9, a10] => (gStr a0).bind fun x0 => (gI64 a1).bind fun x1 => (gI64 a2).bind fun x2 => (gI64 a3).bind fun x3 => (gI64 a4).bind fun x4 => (gI64 a5).bind fun x5 => (gI64 a6).bind fun x6 => (gSl 1 a7).bind fun x7 => (gStr a8).bind fun x8 => (gI64 a9).bind fun x9 => (gSl 3 a10).bind fun x10 => some ⟨x0, x1, x2, x3, x4, x5, x6, x7, x8, x9, x10⟩
  | _ => none
def ex_3 (x : TApiAttr) : List (AV Tt) := [.str x.Name, .sl 1 x.Value]
def im_3 (l : List (AV Tt)) : Option TApiAttr := match l with
  | [a0, a1] => (gStr a0).bind fun x0 => (gSl 1 a1).bind fun x1 => some ⟨x0, x1⟩
  | _ => none
def ex_4 (x : (List UInt8)) : List (AV Tt) := [.str x]
def im_4 (l : List (AV Tt)) : Option (List UInt8) := match l with
  | [a0] => (gStr a0).bind fun x0 => some x0
  | _ => none
def ex_5 (x : TApiKid) : List (AV Tt) := [.str x.Name, .i64 x.Ino]
def im_5 (l : List (AV Tt)) : Option TApiKid := match l with
  | [a0, a1] => (gStr a0).bind fun x0 => (gI64 a1).bind fun x1 => some ⟨x0, x1⟩
  | _ => none
def ex_6 (x : TApiNode) : List (AV Tt) := [.i64 x.Kind, .i64 x.Mode, .i64 x.Uid, .i64 x.Gid, .i64 x.Time, .i64 x.Size, .sl 1 x.Data, .str x.Target, .i64 x.Dev, .sl 3 x.Attrs, .sl 5 x.Kids, .i64 x.Parent, .i64 x.Links]
def im_6 (l : List (AV Tt)) : Option TApiNode := match l with
  | [a0, a1, a2, a3, a4, a5, a6, a7, a8, a9, a10, a11, a12] => (gI64 a0).bind fun x0 => (gI64 a1).bind fun x1 => (gI64 a2).bind fun x2 => (gI64 a3).bind fun x3 => (gI64 a4).bind fun x4 => (gI64 a5).bind fun x5 => (gSl 1 a6).bind fun x6 => (gStr a7).bind fun x7 => (gI64 a8).bind fun x8 => (gSl 3 a9).bind fun x9 => (gSl 5 a10).bind fun x10 => (gI64 a11).bind fun x11 => (gI64 a12).bind fun x12 => some ⟨x0, x1, x2, x3, x4, x5, x6, x7, x8, x9, x10, x11, x12⟩
  | _ => none
def ex_9 (x : Bool) : List (AV Tt) := [.bool x]
def im_9 (l : List (AV Tt)) : Option Bool := match l with
  | [a0] => (gBool a0).bind fun x0 => some x0
  | _ => none
def ex_10 (x : Int) : List (AV Tt) := [.i64 x]
def im_10 (l : List (AV Tt)) : Option Int := match l with
  | [a0] => (gI64 a0).bind fun x0 => some x0
  | _ => none
def ex_13 (x : TTreeNamed) : List (AV Tt) := [.sl 4 x.f_parts, .str x.f_path, .str x.f_of]
def im_13 (l : List (AV Tt)) : Option TTreeNamed := match l with
  | [a0, a1, a2] => (gSl 4 a0).bind fun x0 => (gStr a1).bind fun x1 => (gStr a2).bind fun x2 => some ⟨x0, x1, x2⟩
  | _ => none
def ex_14 (x : TModelModel) : List (AV Tt) := [.sl 6 x.f_nodes, .sl 12 x.f_kids]
def im_14 (l : List (AV Tt)) : Option TModelModel := match l with
  | [a0, a1] => (gSl 6 a0).bind fun x0 => (gSl 12 a1).bind fun x1 => some ⟨x0, x1⟩
  | _ => none
def ex_15 (x : (List (List UInt8))) : List (AV Tt) := [.sl 4 x]
def im_15 (l : List (AV Tt)) : Option (List (List UInt8)) := match l with
  | [a0] => (gSl 4 a0).bind fun x0 => some x0
  | _ => none
def repT : ∀ n, Rep (Tt n)
  | 1 => rU8
  | 2 => rApiEntry
  | 3 => rApiAttr
  | 4 => rStr
  | 5 => rApiKid
  | 6 => rApiNode
  | 7 => rNone _
  | 8 => rNone _
  | 9 => rBool
  | 10 => rI64
  | 11 => rMap kI64 wfI rStr false
  | 12 => rMap kStr wfS rI64 false
  | 13 => rTreeNamed
  | 14 => rModelModel
  | 15 => (rSl rStr)
  | 0 => rNo
  | _ + 16 => rNo
def exT : ∀ n, Tt n → List (AV Tt)
  | 1 => ex_1
  | 2 => ex_2
  | 3 => ex_3
  | 4 => ex_4
  | 5 => ex_5
  | 6 => ex_6
  | 7 => fun _ => []
  | 8 => fun _ => []
  | 9 => ex_9
  | 10 => ex_10
  | 11 => fun x => [.one 11 x]
  | 12 => fun x => [.one 12 x]
  | 13 => ex_13
  | 14 => ex_14
  | 15 => ex_15
  | 0 => fun _ => [.bool true]
  | _ + 16 => fun _ => [.bool true]
def imT : ∀ n, List (AV Tt) → Option (Tt n)
  | 1 => im_1
  | 2 => im_2
  | 3 => im_3
  | 4 => im_4
  | 5 => im_5
  | 6 => im_6
  | 7 => fun _ => none
  | 8 => fun _ => none
  | 9 => im_9
  | 10 => im_10
  | 11 => imOne 11
  | 12 => imOne 12
  | 13 => im_13
  | 14 => im_14
  | 15 => im_15
  | 0 => fun _ => none
  | _ + 16 => fun _ => none
def deep_7 : Deep TApiNode TApiKid rApiNode rApiKid 10 where
  getk x := x.Kids
  setk x l := { x with Kids := l }
  gs _ _ := rfl
  ss _ _ _ := rfl
  sg _ := rfl
  lt := by decide
  fill := by
    intro m cs x A c h0 h1 h2
    obtain ⟨A6, c6, A9, c9, A10, c10, h, s6, s7, s9, s10⟩ := h0
    have e := set_back (u := .slice none 0 0) h1
    rw [h] at e
    exact ⟨A6, c6, A9, c9, A, c, e, s6, s7, s9, h2⟩
  empt := by
    intro m cs x h0
    obtain ⟨A6, c6, A9, c9, A10, c10, h, s6, s7, s9, s10⟩ := h0
    rw [h]
    exact ⟨A6, c6, A9, c9, none, 0, rfl, s6, s7, s9, SlI.nil _ _⟩
def giT : ∀ n, Tt n → Value → Value → K.Item
  | 1 => fun _ _ _ => emp
  | 2 => fun _ _ _ => emp
  | 3 => fun _ _ _ => emp
  | 4 => fun _ _ _ => emp
  | 5 => fun _ _ _ => emp
  | 6 => fun _ _ _ => emp
  | 7 => fun x v _ => deepI deep_7 73 71 x v
  | 8 => fun x v u => holeI deep_7 73 71 x v u
  | 9 => fun _ _ _ => emp
  | 10 => fun _ _ _ => emp
  | 11 => fun x v _ => mapG kI64 wfI (repT 4) false x v
  | 12 => fun x v _ => mapG kStr wfS (repT 10) false x v
  | 13 => fun _ _ _ => emp
  | 14 => fun _ _ _ => emp
  | 15 => fun _ _ _ => emp
  | 0 => fun _ _ _ => emp
  | _ + 16 => fun _ _ _ => emp
def dpT : ∀ k, Option (DP Tt repT k)
  | 1 => none
  | 2 => none
  | 3 => none
  | 4 => none
  | 5 => none
  | 6 => none
  | 7 => some { n := 6, nk := 5, t := 71, tk := 73, off := 10, hk := 8, D := deep_7, to := fun x => x, of := fun x => x, toh := fun x => x, ofh := fun x => x }
  | 8 => none
  | 9 => none
  | 10 => none
  | 11 => none
  | 12 => none
  | 13 => none
  | 14 => none
  | 15 => none
  | 0 => none
  | _ + 16 => none
def mpT : ∀ k, Option (MP Tt repT k)
  | 1 => none
  | 2 => none
  | 3 => none
  | 4 => none
  | 5 => none
  | 6 => none
  | 7 => none
  | 8 => none
  | 9 => none
  | 10 => none
  | 11 => some (mpInt 11 4 false (fun x => x) (fun x => x))
  | 12 => some (mpStr 12 10 false (fun x => x) (fun x => x))
  | 13 => none
  | 14 => none
  | 15 => none
  | 0 => none
  | _ + 16 => none
def glT : Nat → Option ((n : Nat) × List (Tt n))
  | _ => none
def tbl : Tab where
  T := Tt
  rep := repT
  ex := exT
  im := imT
  code t := (([(3, 10), (4, 9), (5, 1), (9, 4), (39, 15), (71, 6), (73, 5), (80, 2), (90, 3), (106, 14), (107, 12), (136, 13)] : List (Nat × Nat)).find? (fun p => Nat.beq p.1 t)).map (·.2)
  gl := glT
  u8c := 1
  tou8 n := match n with | 1 => fun l => some l | 0 => fun _ => none | _ + 2 => fun _ => none
  ofu8 l := l
  gi := giT
  dp := dpT
  hd h := (([(8, 7)] : List (Nat × Nat)).find? (fun p => Nat.beq p.1 h)).map (·.2)
  mp := mpT
  gcode t := (([(71, 7), (107, 12), (124, 11)] : List (Nat × Nat)).find? (fun p => Nat.beq p.1 t)).map (·.2)
theorem imok_1 {av : List (AV Tt)} {x : UInt8} {η : List Value} {m : Mem} {vs : List Value} (h : im_1 av = some x) (hr : RL tbl η m av vs) : rU8.im m vs x := by
  unfold im_1 at h
  split at h
  · obtain ⟨v0, r, rfl, h0, hr⟩ := hr
    cases hr
    obtain ⟨x0, e0, h⟩ := bindE h
    have q0 := gU8_ok (tb := tbl) e0 h0
    subst q0
    cases h
    exact rfl
  · cases h
theorem exok_1 {x : UInt8} {η : List Value} {m : Mem} {vs : List Value} (h : rU8.im m vs x) : RL tbl η m (ex_1 x) vs := by
  have h : vs = _ := h
  subst h
  exact ⟨_, _, rfl, rfl, rfl⟩
theorem imok_2 {av : List (AV Tt)} {x : TApiEntry} {η : List Value} {m : Mem} {vs : List Value} (h : im_2 av = some x) (hr : RL tbl η m av vs) : rApiEntry.im m vs x := by
  unfold im_2 at h
  split at h
  · obtain ⟨v0, r, rfl, h0, hr⟩ := hr
    obtain ⟨v1, r, rfl, h1, hr⟩ := hr
    obtain ⟨v2, r, rfl, h2, hr⟩ := hr
    obtain ⟨v3, r, rfl, h3, hr⟩ := hr
    obtain ⟨v4, r, rfl, h4, hr⟩ := hr
    obtain ⟨v5, r, rfl, h5, hr⟩ := hr
    obtain ⟨v6, r, rfl, h6, hr⟩ := hr
    obtain ⟨v7, r, rfl, h7, hr⟩ := hr
    obtain ⟨v8, r, rfl, h8, hr⟩ := hr
    obtain ⟨v9, r, rfl, h9, hr⟩ := hr
    obtain ⟨v10, r, rfl, h10, hr⟩ := hr
    cases hr
    obtain ⟨x0, e0, h⟩ := bindE h
    obtain ⟨rfl, s0⟩ := gStr_ok (tb := tbl) e0 h0
    obtain ⟨x1, e1, h⟩ := bindE h
    have q1 := gI64_ok (tb := tbl) e1 h1
    subst q1
    obtain ⟨x2, e2, h⟩ := bindE h
    have q2 := gI64_ok (tb := tbl) e2 h2
    subst q2
    obtain ⟨x3, e3, h⟩ := bindE h
    have q3 := gI64_ok (tb := tbl) e3 h3
    subst q3
    obtain ⟨x4, e4, h⟩ := bindE h
    have q4 := gI64_ok (tb := tbl) e4 h4
    subst q4
    obtain ⟨x5, e5, h⟩ := bindE h
    have q5 := gI64_ok (tb := tbl) e5 h5
    subst q5
    obtain ⟨x6, e6, h⟩ := bindE h
    have q6 := gI64_ok (tb := tbl) e6 h6
    subst q6
    obtain ⟨x7, e7, h⟩ := bindE h
    obtain ⟨A7, c7, rfl, s7⟩ := gSl_ok (tb := tbl) (n := 1) e7 h7
    obtain ⟨x8, e8, h⟩ := bindE h
    obtain ⟨rfl, s8⟩ := gStr_ok (tb := tbl) e8 h8
    obtain ⟨x9, e9, h⟩ := bindE h
    have q9 := gI64_ok (tb := tbl) e9 h9
    subst q9
    obtain ⟨x10, e10, h⟩ := bindE h
    obtain ⟨A10, c10, rfl, s10⟩ := gSl_ok (tb := tbl) (n := 3) e10 h10
    cases h
    exact ⟨A7, c7, A10, c10, rfl, s0, s7, s8, s10⟩
  · cases h
theorem exok_2 {x : TApiEntry} {η : List Value} {m : Mem} {vs : List Value} (h : rApiEntry.im m vs x) : RL tbl η m (ex_2 x) vs := by
  obtain ⟨A7, c7, A10, c10, rfl, s0, s7, s8, s10⟩ := h
  exact ⟨_, _, rfl, ⟨rfl, s0⟩, ⟨_, _, rfl, rfl, ⟨_, _, rfl, rfl, ⟨_, _, rfl, rfl, ⟨_, _, rfl, rfl, ⟨_, _, rfl, rfl, ⟨_, _, rfl, rfl, ⟨_, _, rfl, ⟨A7, c7, rfl, s7⟩, ⟨_, _, rfl, ⟨rfl, s8⟩, ⟨_, _, rfl, rfl, ⟨_, _, rfl, ⟨A10, c10, rfl, s10⟩, rfl⟩⟩⟩⟩⟩⟩⟩⟩⟩⟩⟩
theorem imok_3 {av : List (AV Tt)} {x : TApiAttr} {η : List Value} {m : Mem} {vs : List Value} (h : im_3 av = some x) (hr : RL tbl η m av vs) : rApiAttr.im m vs x := by
  unfold im_3 at h
  split at h
  · obtain ⟨v0, r, rfl, h0, hr⟩ := hr
    obtain ⟨v1, r, rfl, h1, hr⟩ := hr
    cases hr
    obtain ⟨x0, e0, h⟩ := bindE h
    obtain ⟨rfl, s0⟩ := gStr_ok (tb := tbl) e0 h0
    obtain ⟨x1, e1, h⟩ := bindE h
    obtain ⟨A1, c1, rfl, s1⟩ := gSl_ok (tb := tbl) (n := 1) e1 h1
    cases h
    exact ⟨A1, c1, rfl, s0, s1⟩
  · cases h
theorem exok_3 {x : TApiAttr} {η : List Value} {m : Mem} {vs : List Value} (h : rApiAttr.im m vs x) : RL tbl η m (ex_3 x) vs := by
  obtain ⟨A1, c1, rfl, s0, s1⟩ := h
  exact ⟨_, _, rfl, ⟨rfl, s0⟩, ⟨_, _, rfl, ⟨A1, c1, rfl, s1⟩, rfl⟩⟩
theorem imok_4 {av : List (AV Tt)} {x : (List UInt8)} {η : List Value} {m : Mem} {vs : List Value} (h : im_4 av = some x) (hr : RL tbl η m av vs) : rStr.im m vs x := by
  unfold im_4 at h
  split at h
  · obtain ⟨v0, r, rfl, h0, hr⟩ := hr
    cases hr
    obtain ⟨x0, e0, h⟩ := bindE h
    obtain ⟨rfl, s0⟩ := gStr_ok (tb := tbl) e0 h0
    cases h
    exact ⟨rfl, s0⟩
  · cases h
theorem exok_4 {x : (List UInt8)} {η : List Value} {m : Mem} {vs : List Value} (h : rStr.im m vs x) : RL tbl η m (ex_4 x) vs := by
  obtain ⟨rfl, s0⟩ := h
  exact ⟨_, _, rfl, ⟨rfl, s0⟩, rfl⟩
theorem imok_5 {av : List (AV Tt)} {x : TApiKid} {η : List Value} {m : Mem} {vs : List Value} (h : im_5 av = some x) (hr : RL tbl η m av vs) : rApiKid.im m vs x := by
  unfold im_5 at h
  split at h
  · obtain ⟨v0, r, rfl, h0, hr⟩ := hr
    obtain ⟨v1, r, rfl, h1, hr⟩ := hr
    cases hr
    obtain ⟨x0, e0, h⟩ := bindE h
    obtain ⟨rfl, s0⟩ := gStr_ok (tb := tbl) e0 h0
    obtain ⟨x1, e1, h⟩ := bindE h
    have q1 := gI64_ok (tb := tbl) e1 h1
    subst q1
    cases h
    exact ⟨rfl, s0⟩
  · cases h
theorem exok_5 {x : TApiKid} {η : List Value} {m : Mem} {vs : List Value} (h : rApiKid.im m vs x) : RL tbl η m (ex_5 x) vs := by
  obtain ⟨rfl, s0⟩ := h
  exact ⟨_, _, rfl, ⟨rfl, s0⟩, ⟨_, _, rfl, rfl, rfl⟩⟩
theorem imok_6 {av : List (AV Tt)} {x : TApiNode} {η : List Value} {m : Mem} {vs : List Value} (h : im_6 av = some x) (hr : RL tbl η m av vs) : rApiNode.im m vs x := by
  unfold im_6 at h
  split at h
  · obtain ⟨v0, r, rfl, h0, hr⟩ := hr
    obtain ⟨v1, r, rfl, h1, hr⟩ := hr
    obtain ⟨v2, r, rfl, h2, hr⟩ := hr
    obtain ⟨v3, r, rfl, h3, hr⟩ := hr
    obtain ⟨v4, r, rfl, h4, hr⟩ := hr
    obtain ⟨v5, r, rfl, h5, hr⟩ := hr
    obtain ⟨v6, r, rfl, h6, hr⟩ := hr
    obtain ⟨v7, r, rfl, h7, hr⟩ := hr
    obtain ⟨v8, r, rfl, h8, hr⟩ := hr
    obtain ⟨v9, r, rfl, h9, hr⟩ := hr
    obtain ⟨v10, r, rfl, h10, hr⟩ := hr
    obtain ⟨v11, r, rfl, h11, hr⟩ := hr
    obtain ⟨v12, r, rfl, h12, hr⟩ := hr
    cases hr
    obtain ⟨x0, e0, h⟩ := bindE h
    have q0 := gI64_ok (tb := tbl) e0 h0
    subst q0
    obtain ⟨x1, e1, h⟩ := bindE h
    have q1 := gI64_ok (tb := tbl) e1 h1
    subst q1
    obtain ⟨x2, e2, h⟩ := bindE h
    have q2 := gI64_ok (tb := tbl) e2 h2
    subst q2
    obtain ⟨x3, e3, h⟩ := bindE h
    have q3 := gI64_ok (tb := tbl) e3 h3
    subst q3
    obtain ⟨x4, e4, h⟩ := bindE h
    have q4 := gI64_ok (tb := tbl) e4 h4
    subst q4
    obtain ⟨x5, e5, h⟩ := bindE h
    have q5 := gI64_ok (tb := tbl) e5 h5
    subst q5
    obtain ⟨x6, e6, h⟩ := bindE h
    obtain ⟨A6, c6, rfl, s6⟩ := gSl_ok (tb := tbl) (n := 1) e6 h6
    obtain ⟨x7, e7, h⟩ := bindE h
    obtain ⟨rfl, s7⟩ := gStr_ok (tb := tbl) e7 h7
    obtain ⟨x8, e8, h⟩ := bindE h
    have q8 := gI64_ok (tb := tbl) e8 h8
    subst q8
    obtain ⟨x9, e9, h⟩ := bindE h
    obtain ⟨A9, c9, rfl, s9⟩ := gSl_ok (tb := tbl) (n := 3) e9 h9
    obtain ⟨x10, e10, h⟩ := bindE h
    obtain ⟨A10, c10, rfl, s10⟩ := gSl_ok (tb := tbl) (n := 5) e10 h10
    obtain ⟨x11, e11, h⟩ := bindE h
    have q11 := gI64_ok (tb := tbl) e11 h11
    subst q11
    obtain ⟨x12, e12, h⟩ := bindE h
    have q12 := gI64_ok (tb := tbl) e12 h12
    subst q12
    cases h
    exact ⟨A6, c6, A9, c9, A10, c10, rfl, s6, s7, s9, s10⟩
  · cases h
theorem exok_6 {x : TApiNode} {η : List Value} {m : Mem} {vs : List Value} (h : rApiNode.im m vs x) : RL tbl η m (ex_6 x) vs := by
  obtain ⟨A6, c6, A9, c9, A10, c10, rfl, s6, s7, s9, s10⟩ := h
  exact ⟨_, _, rfl, rfl, ⟨_, _, rfl, rfl, ⟨_, _, rfl, rfl, ⟨_, _, rfl, rfl, ⟨_, _, rfl, rfl, ⟨_, _, rfl, rfl, ⟨_, _, rfl, ⟨A6, c6, rfl, s6⟩, ⟨_, _, rfl, ⟨rfl, s7⟩, ⟨_, _, rfl, rfl, ⟨_, _, rfl, ⟨A9, c9, rfl, s9⟩, ⟨_, _, rfl, ⟨A10, c10, rfl, s10⟩, ⟨_, _, rfl, rfl, ⟨_, _, rfl, rfl, rfl⟩⟩⟩⟩⟩⟩⟩⟩⟩⟩⟩⟩⟩
theorem imok_9 {av : List (AV Tt)} {x : Bool} {η : List Value} {m : Mem} {vs : List Value} (h : im_9 av = some x) (hr : RL tbl η m av vs) : rBool.im m vs x := by
  unfold im_9 at h
  split at h
  · obtain ⟨v0, r, rfl, h0, hr⟩ := hr
    cases hr
    obtain ⟨x0, e0, h⟩ := bindE h
    have q0 := gBool_ok (tb := tbl) e0 h0
    subst q0
    cases h
    exact rfl
  · cases h
theorem exok_9 {x : Bool} {η : List Value} {m : Mem} {vs : List Value} (h : rBool.im m vs x) : RL tbl η m (ex_9 x) vs := by
  have h : vs = _ := h
  subst h
  exact ⟨_, _, rfl, rfl, rfl⟩
theorem imok_10 {av : List (AV Tt)} {x : Int} {η : List Value} {m : Mem} {vs : List Value} (h : im_10 av = some x) (hr : RL tbl η m av vs) : rI64.im m vs x := by
  unfold im_10 at h
  split at h
  · obtain ⟨v0, r, rfl, h0, hr⟩ := hr
    cases hr
    obtain ⟨x0, e0, h⟩ := bindE h
    have q0 := gI64_ok (tb := tbl) e0 h0
    subst q0
    cases h
    exact rfl
  · cases h
theorem exok_10 {x : Int} {η : List Value} {m : Mem} {vs : List Value} (h : rI64.im m vs x) : RL tbl η m (ex_10 x) vs := by
  have h : vs = _ := h
  subst h
  exact ⟨_, _, rfl, rfl, rfl⟩
theorem imok_13 {av : List (AV Tt)} {x : TTreeNamed} {η : List Value} {m : Mem} {vs : List Value} (h : im_13 av = some x) (hr : RL tbl η m av vs) : rTreeNamed.im m vs x := by
  unfold im_13 at h
  split at h
  · obtain ⟨v0, r, rfl, h0, hr⟩ := hr
    obtain ⟨v1, r, rfl, h1, hr⟩ := hr
    obtain ⟨v2, r, rfl, h2, hr⟩ := hr
    cases hr
    obtain ⟨x0, e0, h⟩ := bindE h
    obtain ⟨A0, c0, rfl, s0⟩ := gSl_ok (tb := tbl) (n := 4) e0 h0
    obtain ⟨x1, e1, h⟩ := bindE h
    obtain ⟨rfl, s1⟩ := gStr_ok (tb := tbl) e1 h1
    obtain ⟨x2, e2, h⟩ := bindE h
    obtain ⟨rfl, s2⟩ := gStr_ok (tb := tbl) e2 h2
    cases h
    exact ⟨A0, c0, rfl, s0, s1, s2⟩
  · cases h
theorem exok_13 {x : TTreeNamed} {η : List Value} {m : Mem} {vs : List Value} (h : rTreeNamed.im m vs x) : RL tbl η m (ex_13 x) vs := by
  obtain ⟨A0, c0, rfl, s0, s1, s2⟩ := h
  exact ⟨_, _, rfl, ⟨A0, c0, rfl, s0⟩, ⟨_, _, rfl, ⟨rfl, s1⟩, ⟨_, _, rfl, ⟨rfl, s2⟩, rfl⟩⟩⟩
theorem imok_14 {av : List (AV Tt)} {x : TModelModel} {η : List Value} {m : Mem} {vs : List Value} (h : im_14 av = some x) (hr : RL tbl η m av vs) : rModelModel.im m vs x := by
  unfold im_14 at h
  split at h
  · obtain ⟨v0, r, rfl, h0, hr⟩ := hr
    obtain ⟨v1, r, rfl, h1, hr⟩ := hr
    cases hr
    obtain ⟨x0, e0, h⟩ := bindE h
    obtain ⟨A0, c0, rfl, s0⟩ := gSl_ok (tb := tbl) (n := 6) e0 h0
    obtain ⟨x1, e1, h⟩ := bindE h
    obtain ⟨A1, c1, rfl, s1⟩ := gSl_ok (tb := tbl) (n := 12) e1 h1
    cases h
    exact ⟨A0, c0, A1, c1, rfl, s0, s1⟩
  · cases h
theorem exok_14 {x : TModelModel} {η : List Value} {m : Mem} {vs : List Value} (h : rModelModel.im m vs x) : RL tbl η m (ex_14 x) vs := by
  obtain ⟨A0, c0, A1, c1, rfl, s0, s1⟩ := h
  exact ⟨_, _, rfl, ⟨A0, c0, rfl, s0⟩, ⟨_, _, rfl, ⟨A1, c1, rfl, s1⟩, rfl⟩⟩
theorem imok_15 {av : List (AV Tt)} {x : (List (List UInt8))} {η : List Value} {m : Mem} {vs : List Value} (h : im_15 av = some x) (hr : RL tbl η m av vs) : (rSl rStr).im m vs x := by
  unfold im_15 at h
  split at h
  · obtain ⟨v0, r, rfl, h0, hr⟩ := hr
    cases hr
    obtain ⟨x0, e0, h⟩ := bindE h
    obtain ⟨A0, c0, rfl, s0⟩ := gSl_ok (tb := tbl) (n := 4) e0 h0
    cases h
    exact ⟨A0, c0, rfl, s0⟩
  · cases h
theorem exok_15 {x : (List (List UInt8))} {η : List Value} {m : Mem} {vs : List Value} (h : (rSl rStr).im m vs x) : RL tbl η m (ex_15 x) vs := by
  obtain ⟨A0, c0, rfl, s0⟩ := h
  exact ⟨_, _, rfl, ⟨A0, c0, rfl, s0⟩, rfl⟩
theorem kOk : KindOk tbl where
  dgi := by
    intro k d h
    match k, d, h with
    | 0, d, h => cases h
    | 1, d, h => cases h
    | 2, d, h => cases h
    | 3, d, h => cases h
    | 4, d, h => cases h
    | 5, d, h => cases h
    | 6, d, h => cases h
    | 7, d, h => cases h; exact ⟨fun _ _ _ => rfl, fun _ _ _ => rfl, fun _ => rfl, fun _ => rfl⟩
    | 8, d, h => cases h
    | 9, d, h => cases h
    | 10, d, h => cases h
    | 11, d, h => cases h
    | 12, d, h => cases h
    | 13, d, h => cases h
    | 14, d, h => cases h
    | 15, d, h => cases h
    | k + 16, d, h => cases h
  mgi := by
    intro k d h
    match k, d, h with
    | 0, d, h => cases h
    | 1, d, h => cases h
    | 2, d, h => cases h
    | 3, d, h => cases h
    | 4, d, h => cases h
    | 5, d, h => cases h
    | 6, d, h => cases h
    | 7, d, h => cases h
    | 8, d, h => cases h
    | 9, d, h => cases h
    | 10, d, h => cases h
    | 11, d, h => exact mpInt_ok (tb := tbl) (fun _ _ _ => rfl) (fun _ => rfl) d (Option.some.inj h).symm
    | 12, d, h => exact mpStr_ok (tb := tbl) (fun _ _ _ => rfl) (fun _ => rfl) d (Option.some.inj h).symm
    | 13, d, h => cases h
    | 14, d, h => cases h
    | 15, d, h => cases h
    | k + 16, d, h => cases h
  mre := by
    intro k d h
    match k, d, h with
    | 0, d, h => cases h
    | 1, d, h => cases h
    | 2, d, h => cases h
    | 3, d, h => cases h
    | 4, d, h => cases h
    | 5, d, h => cases h
    | 6, d, h => cases h
    | 7, d, h => cases h
    | 8, d, h => cases h
    | 9, d, h => cases h
    | 10, d, h => cases h
    | 11, d, h => cases h; exact fun m v x => ⟨fun ⟨_, e, h'⟩ => by cases e; exact h', fun h' => ⟨v, rfl, h'⟩⟩
    | 12, d, h => cases h; exact fun m v x => ⟨fun ⟨_, e, h'⟩ => by cases e; exact h', fun h' => ⟨v, rfl, h'⟩⟩
    | 13, d, h => cases h
    | 14, d, h => cases h
    | 15, d, h => cases h
    | k + 16, d, h => cases h
theorem tOk : TabOk tbl where
  im := by
    intro n av x η m vs h hr
    match n, x, h with
    | 0, x, h => cases h
    | 1, x, h => exact imok_1 h hr
    | 2, x, h => exact imok_2 h hr
    | 3, x, h => exact imok_3 h hr
    | 4, x, h => exact imok_4 h hr
    | 5, x, h => exact imok_5 h hr
    | 6, x, h => exact imok_6 h hr
    | 7, x, h => cases h
    | 8, x, h => cases h
    | 9, x, h => exact imok_9 h hr
    | 10, x, h => exact imok_10 h hr
    | 11, x, h => exact imOne_ok (tb := tbl) 11 h hr
    | 12, x, h => exact imOne_ok (tb := tbl) 12 h hr
    | 13, x, h => exact imok_13 h hr
    | 14, x, h => exact imok_14 h hr
    | 15, x, h => exact imok_15 h hr
    | k + 16, x, h => cases h
  ex := by
    intro n x η m vs h
    match n, x, h with
    | 0, x, h => exact ⟨_, _, h, rfl, rfl⟩
    | 1, x, h => exact exok_1 h
    | 2, x, h => exact exok_2 h
    | 3, x, h => exact exok_3 h
    | 4, x, h => exact exok_4 h
    | 5, x, h => exact exok_5 h
    | 6, x, h => exact exok_6 h
    | 7, x, h => exact h.elim
    | 8, x, h => exact h.elim
    | 9, x, h => exact exok_9 h
    | 10, x, h => exact exok_10 h
    | 11, x, h => exact exOne_ok (tb := tbl) 11 rfl h
    | 12, x, h => exact exOne_ok (tb := tbl) 12 rfl h
    | 13, x, h => exact exok_13 h
    | 14, x, h => exact exok_14 h
    | 15, x, h => exact exok_15 h
    | k + 16, x, h => exact ⟨_, _, h, rfl, rfl⟩
  fl := by
    intro n x η ζ m vs h
    match n, x, h with
    | 0, x, h => exact h
    | 1, x, h => exact h
    | 2, x, h => exact h
    | 3, x, h => exact h
    | 4, x, h => exact h
    | 5, x, h => exact h
    | 6, x, h => exact h
    | 7, x, h => exact h
    | 8, x, h => exact h
    | 9, x, h => exact h
    | 10, x, h => exact h
    | 11, x, h => exact h
    | 12, x, h => exact h
    | 13, x, h => exact h
    | 14, x, h => exact h
    | 15, x, h => exact h
    | k + 16, x, h => exact h
  tou8 := by
    intro n l x h M hm
    match n, l, h, hm with
    | 1, l, h, hm => cases h; exact hm
    | 0, l, h, hm => cases h
    | k + 2, l, h, hm => cases h
  ofu8 := fun M hm => hm
  kd := kOk
theorem glob_of {m : Mem} : Glob tbl m := fun h => by cases h
noncomputable def c_ref11_Much : Con Tt := ⟨28, (sh [(.sl 2)]), (sh [.bool]), 1, [], [], fun x => ref11_Much x⟩
theorem ref11_Much_ok : ConOk Tryz.prog tbl c_ref11_Much := fn_ok (cs := []) (an := [([1, 1, 1, 0, 1, 0], .loop 0 ⟨[3, 4], [], (sh [.i64, .i64]), [0], []⟩ ⟨[], [], (sh []), [], []⟩), ([1, 1, 1, 0, 1, 0, 0, 1, 0, 0, 0, 0], .join ⟨[48], [], (sh [.bool]), [0, 3, 4], []⟩), ([1, 1, 1, 0, 1, 0, 0, 1, 0, 0, 1, 1, 0], .loop 2 ⟨[3, 5], [], (sh [.i64, .i64]), [0, 4], []⟩ ⟨[3], [], (sh [.i64]), [0, 4], []⟩)]) (fn := Tryz.f28) tOk conNil (by rfl) Tryz.func28 (by kernel_rfl) (fun _ _ => by rfl) (fun _ => by kernel_rfl) (by kernel_rfl) (fun x => by kernel_rfl)
noncomputable def c_ref11_in : Con Tt := ⟨54, (sh [.i64, .i64, .i64]), (sh [.bool]), 1, [], [], fun x => ref11_in x.1 x.2.1 x.2.2⟩
theorem ref11_in_ok : ConOk Tryz.prog tbl c_ref11_in := fn_ok (cs := []) (an := []) (fn := Tryz.f54) tOk conNil (by rfl) Tryz.func54 (by kernel_rfl) (fun _ _ => by rfl) (fun _ => by kernel_rfl) (by kernel_rfl) (fun x => by kernel_rfl)
noncomputable def c_ref10_Split : Con Tt := ⟨58, (sh [.str]), (sh [(.row 4 9), .i64]), 2, [], [], fun x => ref10_Split x⟩
theorem ref10_Split_ok : ConOk Tryz.prog tbl c_ref10_Split := fn_ok (cs := []) (an := [([1, 1, 0, 1, 0], .loop 0 ⟨[4], [], (sh [.i64]), [0], []⟩ ⟨[], [], (sh []), [0], []⟩), ([1, 1, 1, 1, 1, 0, 1, 0], .loop 2 ⟨[5, 6, 7], [], (sh [(.row 4 9), .i64, .i64]), [0], []⟩ ⟨[5], [], (sh [(.row 4 9)]), [], []⟩), ([1, 1, 1, 1, 1, 0, 1, 0, 0, 1, 0, 0, 0, 0], .join ⟨[37], [], (sh [.bool]), [0, 5, 6, 7], [0]⟩)]) (fn := Tryz.f58) tOk conNil (by rfl) Tryz.func58 (by kernel_rfl) (fun _ _ => by rfl) (fun _ => by kernel_rfl) (by kernel_rfl) (fun x => by kernel_rfl)
noncomputable def c_ref10_Valid : Con Tt := ⟨40, (sh [.str]), (sh [.bool]), 1, [], [], fun x => ref10_Valid x⟩
theorem ref10_Valid_ok : ConOk Tryz.prog tbl c_ref10_Valid := fn_ok (cs := []) (an := [([1, 0, 0], .join ⟨[19], [], (sh [.bool]), [0], []⟩), ([1, 1, 0, 1, 0], .loop 0 ⟨[3], [], (sh [.i64]), [0], []⟩ ⟨[], [], (sh []), [], []⟩)]) (fn := Tryz.f40) tOk conNil (by rfl) Tryz.func40 (by kernel_rfl) (fun _ _ => by rfl) (fun _ => by kernel_rfl) (by kernel_rfl) (fun x => by kernel_rfl)
noncomputable def c_ref10_Join : Con Tt := ⟨73, (sh [(.sl 4)]), (sh [.str, .i64]), 2, [], [], fun x => ref10_Join x⟩
theorem ref10_Join_ok : ConOk Tryz.prog tbl c_ref10_Join := fn_ok (cs := [c_ref10_Valid]) (an := [([1, 1, 1, 0, 1, 0], .loop 0 ⟨[4, 5], [], (sh [.str, .i64]), [0], []⟩ ⟨[4], [], (sh [.str]), [], []⟩), ([1, 1, 1, 0, 1, 0, 0, 1, 0, 0, 0, 0], .join ⟨[27], [], (sh [.bool]), [0, 4, 5], []⟩)]) (fn := Tryz.f73) tOk (conCons ref10_Valid_ok conNil) (by rfl) Tryz.func73 (by kernel_rfl) (fun _ _ => by rfl) (fun _ => by kernel_rfl) (by kernel_rfl) (fun x => by kernel_rfl)
noncomputable def c_ref11_path : Con Tt := ⟨55, (sh [(.agg (sh [.str, .i64, .i64, .i64, .i64, .i64, .i64, (.sl 1), .str, .i64, (.sl 3)]))]), (sh [.i64]), 1, [], [], fun x => ref11_path x.1 x.2.1 x.2.2.1 x.2.2.2.1 x.2.2.2.2.1 x.2.2.2.2.2.1 x.2.2.2.2.2.2.1 x.2.2.2.2.2.2.2.1 x.2.2.2.2.2.2.2.2.1 x.2.2.2.2.2.2.2.2.2.1 x.2.2.2.2.2.2.2.2.2.2⟩
theorem ref11_path_ok : ConOk Tryz.prog tbl c_ref11_path := fn_ok (cs := [c_ref10_Split, c_ref10_Valid, c_ref10_Join]) (an := [([1, 1, 1, 1, 0, 1, 0], .loop 0 ⟨[5], [], (sh [.i64]), [1, 3], [0, 1]⟩ ⟨[], [], (sh []), [1, 3], [0, 1]⟩)]) (fn := Tryz.f55) tOk (conCons ref10_Split_ok (conCons ref10_Valid_ok (conCons ref10_Join_ok conNil))) (by rfl) Tryz.func55 (by kernel_rfl) (fun _ _ => by rfl) (fun _ => by kernel_rfl) (by kernel_rfl) (fun x => by kernel_rfl)
noncomputable def c_ref11_Up : Con Tt := ⟨46, (sh [.str]), (sh [.str]), 1, [], [], fun x => ref11_Up x⟩
theorem ref11_Up_ok : ConOk Tryz.prog tbl c_ref11_Up := fn_ok (cs := []) (an := [([1, 0, 1, 0], .loop 0 ⟨[3], [], (sh [.i64]), [0], []⟩ ⟨[], [], (sh []), [], []⟩)]) (fn := Tryz.f46) tOk conNil (by rfl) Tryz.func46 (by kernel_rfl) (fun _ _ => by rfl) (fun _ => by kernel_rfl) (by kernel_rfl) (fun x => by kernel_rfl)
noncomputable def c_ref11_text : Con Tt := ⟨74, (sh [.str, .i64, .i64]), (sh [.bool]), 1, [], [], fun x => ref11_text x.1 x.2.1 x.2.2⟩
theorem ref11_text_ok : ConOk Tryz.prog tbl c_ref11_text := fn_ok (cs := [c_ref11_in]) (an := [([1, 1, 0, 1, 0], .loop 0 ⟨[7], [], (sh [.i64]), [0], []⟩ ⟨[], [], (sh []), [], []⟩)]) (fn := Tryz.f74) tOk (conCons ref11_in_ok conNil) (by rfl) Tryz.func74 (by kernel_rfl) (fun _ _ => by rfl) (fun _ => by kernel_rfl) (by kernel_rfl) (fun x => by kernel_rfl)
noncomputable def c_ref11_fields : Con Tt := ⟨56, (sh [(.agg (sh [.str, .i64, .i64, .i64, .i64, .i64, .i64, (.sl 1), .str, .i64, (.sl 3)]))]), (sh [.i64]), 1, [], [], fun x => ref11_fields x.1 x.2.1 x.2.2.1 x.2.2.2.1 x.2.2.2.2.1 x.2.2.2.2.2.1 x.2.2.2.2.2.2.1 x.2.2.2.2.2.2.2.1 x.2.2.2.2.2.2.2.2.1 x.2.2.2.2.2.2.2.2.2.1 x.2.2.2.2.2.2.2.2.2.2⟩
theorem ref11_fields_ok : ConOk Tryz.prog tbl c_ref11_fields := fn_ok (cs := [c_ref11_in, c_ref11_text]) (an := [([1, 0, 0], .join ⟨[27], [], (sh [.bool]), [1], [0]⟩), ([1, 1, 0, 0], .join ⟨[67], [], (sh [.bool]), [1], [0]⟩), ([1, 1, 1, 0, 1, 0], .loop 0 ⟨[3], [], (sh [.i64]), [1], [0]⟩ ⟨[], [], (sh []), [1], [0]⟩), ([1, 1, 1, 1, 0, 1, 0], .loop 2 ⟨[4], [], (sh [.i64]), [1], [0]⟩ ⟨[], [], (sh []), [], [0]⟩), ([1, 1, 1, 1, 0, 1, 0, 0, 1, 0, 0, 1, 0], .loop 4 ⟨[5], [], (sh [.i64]), [1, 4], [0]⟩ ⟨[], [], (sh []), [1, 4], [0]⟩), ([1, 1, 1, 1, 0, 1, 0, 0, 1, 0, 0, 1, 0, 0, 1, 0, 0, 0], .lock [0])]) (fn := Tryz.f56) tOk (conCons ref11_in_ok (conCons ref11_text_ok conNil)) (by rfl) Tryz.func56 (by kernel_rfl) (fun _ _ => by rfl) (fun _ => by kernel_rfl) (by kernel_rfl) (fun x => by kernel_rfl)
noncomputable def c_ref11_entry : Con Tt := ⟨42, (sh [(.sl 2), .i64]), (sh [.i64]), 1, [], [], fun x => ref11_entry x.1 x.2⟩
theorem ref11_entry_ok : ConOk Tryz.prog tbl c_ref11_entry := fn_ok (cs := [c_ref11_in, c_ref11_path, c_ref11_Up, c_ref11_fields]) (an := [([1, 1, 1, 1, 1, 0, 1, 0], .loop 0 ⟨[7], [], (sh [.i64]), [0, 1, 5], [0]⟩ ⟨[], [], (sh []), [0, 5], [0]⟩), ([1, 1, 1, 1, 1, 0, 1, 0, 0, 1, 0, 0, 0], .lock [0]), ([1, 1, 1, 1, 1, 1, 1, 0, 1, 0], .loop 2 ⟨[8, 9, 10], [], (sh [.bool, .bool, .i64]), [0, 5], [0]⟩ ⟨[8, 9], [], (sh [.bool, .bool]), [5], [0]⟩), ([1, 1, 1, 1, 1, 1, 1, 0, 1, 0, 0, 1, 0, 0, 0], .lockJ [0] ⟨[8], [], (sh [.bool]), [0, 5, 9, 10], [0]⟩), ([1, 1, 1, 1, 1, 1, 1, 0, 1, 0, 0, 1, 0, 0, 1], .lock [0]), ([1, 1, 1, 1, 1, 1, 1, 1, 0, 0], .join ⟨[104], [], (sh [.bool]), [5], [0]⟩)]) (fn := Tryz.f42) tOk (conCons ref11_in_ok (conCons ref11_path_ok (conCons ref11_Up_ok (conCons ref11_fields_ok conNil)))) (by rfl) Tryz.func42 (by kernel_rfl) (fun _ _ => by rfl) (fun _ => by kernel_rfl) (by kernel_rfl) (fun x => by kernel_rfl)
noncomputable def c_ref11_Check : Con Tt := ⟨29, (sh [(.sl 2)]), (sh [.i64, .i64]), 2, [], [], fun x => ref11_Check x⟩
theorem ref11_Check_ok : ConOk Tryz.prog tbl c_ref11_Check := fn_ok (cs := [c_ref11_entry]) (an := [([1, 1, 1, 0, 1, 0], .loop 0 ⟨[4, 5], [], (sh [.i64, .i64]), [0], []⟩ ⟨[], [], (sh []), [0], []⟩), ([1, 1, 1, 1, 0, 1, 0], .loop 2 ⟨[6], [], (sh [.i64]), [0], []⟩ ⟨[], [], (sh []), [], []⟩)]) (fn := Tryz.f29) tOk (conCons ref11_entry_ok conNil) (by rfl) Tryz.func29 (by kernel_rfl) (fun _ _ => by rfl) (fun _ => by kernel_rfl) (by kernel_rfl) (fun x => by kernel_rfl)
noncomputable def c_ref11_Attrs : Con Tt := ⟨57, (sh [(.sl 3)]), (sh [(.row 3 90)]), 1, [], [], fun x => ref11_Attrs x⟩
theorem ref11_Attrs_ok : ConOk Tryz.prog tbl c_ref11_Attrs := fn_ok (cs := []) (an := [([1, 1, 0, 0], .loop 0 ⟨[3], [], (sh [(.row 3 90)]), [0], []⟩ ⟨[3], [], (sh [(.row 3 90)]), [], []⟩), ([1, 1, 0, 0, 0, 1, 0, 1, 0, 1, 0], .loop 2 ⟨[4, 5], [], (sh [.i64, .i64]), [0, 3], [0]⟩ ⟨[4], [], (sh [.i64]), [0, 3], [0]⟩), ([1, 1, 0, 0, 0, 1, 0, 1, 0, 1, 0, 0, 1, 0, 0, 1, 0, 1, 0], .loop 4 ⟨[6, 7], [], (sh [.bool, .i64]), [0, 3, 4, 5], [0]⟩ ⟨[6], [], (sh [.bool]), [0, 3, 4, 5], [0]⟩)]) (fn := Tryz.f57) tOk conNil (by rfl) Tryz.func57 (by kernel_rfl) (fun _ _ => by rfl) (fun _ => by kernel_rfl) (by kernel_rfl) (fun x => by kernel_rfl)
noncomputable def c_ref11_Node : Con Tt := ⟨43, (sh [(.agg (sh [.str, .i64, .i64, .i64, .i64, .i64, .i64, (.sl 1), .str, .i64, (.sl 3)]))]), (sh [(.agg (sh [.i64, .i64, .i64, .i64, .i64, .i64, (.sl 1), .str, .i64, (.sl 3), (.row 5 73), .i64, .i64]))]), 1, [], [], fun x => ref11_Node x.1 x.2.1 x.2.2.1 x.2.2.2.1 x.2.2.2.2.1 x.2.2.2.2.2.1 x.2.2.2.2.2.2.1 x.2.2.2.2.2.2.2.1 x.2.2.2.2.2.2.2.2.1 x.2.2.2.2.2.2.2.2.2.1 x.2.2.2.2.2.2.2.2.2.2⟩
theorem ref11_Node_ok : ConOk Tryz.prog tbl c_ref11_Node := fn_ok (cs := [c_ref11_Attrs]) (an := [([1, 0], .lockJ [0] ⟨[3], [], (sh [(.own 71 (sh [.i64, .i64, .i64, .i64, .i64, .i64, (.row 1 5), .str, .i64, (.row 3 90), (.row 5 73), .i64, .i64]))]), [1, 2], [0, 1]⟩), ([1, 1, 0, 1], .join ⟨[], [(2, 71)], (sh [(.agg (sh [.i64, .i64, .i64, .i64, .i64, .i64, (.sl 1), .str, .i64, (.row 3 90), (.row 5 73), .i64, .i64]))]), [1, 2, 3], [0, 1]⟩), ([1, 1, 0, 1, 0, 0], .lock [0]), ([1, 1, 0, 1, 0, 1, 0], .loop 0 ⟨[], [(2, 71)], (sh [(.agg (sh [.i64, .i64, .i64, .i64, .i64, .i64, (.sl 1), .str, .i64, (.row 3 90), (.row 5 73), .i64, .i64]))]), [1, 2, 3], [0, 1, 3]⟩ ⟨[], [(2, 71)], (sh [(.agg (sh [.i64, .i64, .i64, .i64, .i64, .i64, (.sl 1), .str, .i64, (.row 3 90), (.row 5 73), .i64, .i64]))]), [1, 2, 3], [0, 1, 3]⟩), ([1, 1, 1, 0, 1], .join ⟨[], [(2, 71)], (sh [(.agg (sh [.i64, .i64, .i64, .i64, .i64, .i64, (.sl 1), .str, .i64, (.row 3 90), (.row 5 73), .i64, .i64]))]), [1, 2, 3], [0, 1]⟩)]) (fn := Tryz.f43) tOk (conCons ref11_Attrs_ok conNil) (by rfl) Tryz.func43 (by kernel_rfl) (fun _ _ => by rfl) (fun _ => by kernel_rfl) (by kernel_rfl) (fun x => by kernel_rfl)
noncomputable def c_ref10_length : Con Tt := ⟨76, (sh [.i64, .i64]), (sh [.i64]), 1, [], [], fun x => ref10_length x.1 x.2⟩
theorem ref10_length_ok : ConOk Tryz.prog tbl c_ref10_length := fn_ok (cs := []) (an := []) (fn := Tryz.f76) tOk conNil (by rfl) Tryz.func76 (by kernel_rfl) (fun _ _ => by rfl) (fun _ => by kernel_rfl) (by kernel_rfl) (fun x => by kernel_rfl)
noncomputable def c_ref10_text : Con Tt := ⟨75, (sh [.str, .str]), (sh [.i64]), 1, [], [], fun x => ref10_text x.1 x.2⟩
theorem ref10_text_ok : ConOk Tryz.prog tbl c_ref10_text := fn_ok (cs := [c_ref10_length]) (an := [([1, 0, 1, 0], .loop 0 ⟨[5], [], (sh [.i64]), [0, 1], []⟩ ⟨[], [], (sh []), [0, 1], []⟩), ([1, 0, 1, 0, 0, 0, 0], .join ⟨[15], [], (sh [.bool]), [0, 1, 5], []⟩)]) (fn := Tryz.f75) tOk (conCons ref10_length_ok conNil) (by rfl) Tryz.func75 (by kernel_rfl) (fun _ _ => by rfl) (fun _ => by kernel_rfl) (by kernel_rfl) (fun x => by kernel_rfl)
noncomputable def c_ref10_Order : Con Tt := ⟨59, (sh [(.sl 4), (.sl 4)]), (sh [.i64]), 1, [], [], fun x => ref10_Order x.1 x.2⟩
theorem ref10_Order_ok : ConOk Tryz.prog tbl c_ref10_Order := fn_ok (cs := [c_ref10_text, c_ref10_length]) (an := [([1, 0, 1, 0], .loop 0 ⟨[5], [], (sh [.i64]), [0, 1], []⟩ ⟨[], [], (sh []), [0, 1], []⟩), ([1, 0, 1, 0, 0, 0, 0], .join ⟨[16], [], (sh [.bool]), [0, 1, 5], []⟩)]) (fn := Tryz.f59) tOk (conCons ref10_text_ok (conCons ref10_length_ok conNil)) (by rfl) Tryz.func59 (by kernel_rfl) (fun _ _ => by rfl) (fun _ => by kernel_rfl) (by kernel_rfl) (fun x => by kernel_rfl)
noncomputable def c_ref11_Order : Con Tt := ⟨44, (sh [(.sl 2)]), (sh [(.row 10 3)]), 1, [], [], fun x => ref11_Order x⟩
theorem ref11_Order_ok : ConOk Tryz.prog tbl c_ref11_Order := fn_ok (cs := [c_ref10_Split, c_ref10_Order]) (an := [([1, 1, 1, 0], .loop 0 ⟨[3, 4], [], (sh [(.row 10 3), (.row 9 4)]), [0], []⟩ ⟨[], [], (sh []), [], []⟩), ([1, 1, 1, 0, 0, 0, 1, 1, 0, 1, 0], .loop 2 ⟨[5, 6, 7], [], (sh [.i64, (.sl 4), .i64]), [0, 3, 4], [1, 2]⟩ ⟨[5], [], (sh [.i64]), [0, 3, 4], [1, 2]⟩), ([1, 1, 1, 0, 0, 0, 1, 1, 0, 1, 0, 0, 1, 0, 0, 0, 0], .join ⟨[30], [], (sh [.bool]), [0, 3, 4, 5, 6, 7], [1, 2]⟩)]) (fn := Tryz.f44) tOk (conCons ref10_Split_ok (conCons ref10_Order_ok conNil)) (by rfl) Tryz.func44 (by kernel_rfl) (fun _ _ => by rfl) (fun _ => by kernel_rfl) (by kernel_rfl) (fun x => by kernel_rfl)
noncomputable def c_ref11_owner : Con Tt := ⟨45, (sh [(.sl 2), .i64]), (sh [.i64]), 1, [], [], fun x => ref11_owner x.1 x.2⟩
theorem ref11_owner_ok : ConOk Tryz.prog tbl c_ref11_owner := fn_ok (cs := []) (an := [([1, 1, 0, 1, 0], .loop 0 ⟨[5], [], (sh [.i64]), [0, 1], []⟩ ⟨[], [], (sh []), [1], []⟩)]) (fn := Tryz.f45) tOk conNil (by rfl) Tryz.func45 (by kernel_rfl) (fun _ _ => by rfl) (fun _ => by kernel_rfl) (by kernel_rfl) (fun x => by kernel_rfl)
noncomputable def c_ref11_Last : Con Tt := ⟨47, (sh [.str]), (sh [.str]), 1, [], [], fun x => ref11_Last x⟩
theorem ref11_Last_ok : ConOk Tryz.prog tbl c_ref11_Last := fn_ok (cs := []) (an := [([1, 0, 1, 0], .loop 0 ⟨[3], [], (sh [.i64]), [0], []⟩ ⟨[], [], (sh []), [0], []⟩)]) (fn := Tryz.f47) tOk conNil (by rfl) Tryz.func47 (by kernel_rfl) (fun _ _ => by rfl) (fun _ => by kernel_rfl) (by kernel_rfl) (fun x => by kernel_rfl)
noncomputable def c_ref11_Canon : Con Tt := ⟨30, (sh [(.sl 2)]), (sh [(.agg (sh [(.sl 6)]))]), 1, [], [], fun x => ref11_Canon x⟩
theorem ref11_Canon_ok : ConOk Tryz.prog tbl c_ref11_Canon := fn_ok (cs := [c_ref11_Node, c_ref11_Order, c_ref11_owner, c_ref11_Up, c_ref11_Last]) (an := [([1, 1, 0, 1, 0], .loop 0 ⟨[4], [(1, 80)], (sh [.i64, (.agg (sh [.str, .i64, .i64, .i64, .i64, .i64, .i64, (.sl 1), .str, .i64, (.sl 3)]))]), [0, 2, 3], [0]⟩ ⟨[], [(1, 80)], (sh [(.agg (sh [.str, .i64, .i64, .i64, .i64, .i64, .i64, (.sl 1), .str, .i64, (.sl 3)]))]), [0, 2, 3], [0]⟩), ([1, 1, 1, 1, 1, 1, 1, 0, 1, 0], .loop 2 ⟨[6, 8], [(4, 26)], (sh [(.row 10 3), .i64, (.agg (sh [(.gen 7)]))]), [0, 2, 5, 7], [0, 1, 5]⟩ ⟨[], [(4, 26)], (sh [(.agg (sh [(.gen 7)]))]), [2, 5], [0, 1, 5]⟩), ([1, 1, 1, 1, 1, 1, 1, 0, 1, 0, 0, 1, 0, 0, 1, 1, 1, 0, 1, 0], .loop 4 ⟨[11, 12], [], (sh [.i64, .i64]), [0, 2, 5, 6, 7, 8, 9, 10], [0, 1, 4, 5, 6, 7]⟩ ⟨[11], [], (sh [.i64]), [0, 2, 5, 6, 7, 8, 9, 10], [0, 1, 4, 5, 6, 7]⟩), ([1, 1, 1, 1, 1, 1, 1, 0, 1, 0, 0, 1, 0, 0, 1, 1, 1, 1, 0, 1], .join ⟨[6, 11], [(4, 26)], (sh [(.row 10 3), .i64, (.agg (sh [(.gen 7)]))]), [0, 2, 5, 7, 8, 9, 10], [0, 1, 5]⟩), ([1, 1, 1, 1, 1, 1, 1, 0, 1, 0, 0, 1, 0, 0, 1, 1, 1, 1, 0, 1, 0, 1, 1, 0], .join ⟨[], [(4, 26)], (sh [(.agg (sh [(.gen 7)]))]), [0, 2, 5, 6, 7, 8, 9, 10, 11], [0, 1, 5, 9]⟩), ([1, 1, 1, 1, 1, 1, 1, 0, 1, 0, 0, 1, 0, 0, 1, 1, 1, 1, 0, 1, 0, 1, 1, 1, 1], .join ⟨[], [(4, 26)], (sh [(.agg (sh [(.gen 7)]))]), [0, 2, 5, 6, 7, 8, 9, 10, 11], [0, 1, 5, 9]⟩), ([1, 1, 1, 1, 1, 1, 1, 0, 1, 0, 0, 1, 0, 0, 1, 1, 1, 1, 1, 1, 0, 1, 0], .loop 6 ⟨[13, 14], [], (sh [.i64, .i64]), [0, 2, 5, 6, 7, 8, 9, 10, 11], [0, 1, 4, 5, 8, 9]⟩ ⟨[13], [], (sh [.i64]), [0, 2, 5, 6, 7, 8, 9, 10, 11], [0, 1, 4, 5, 8, 9]⟩), ([1, 1, 1, 1, 1, 1, 1, 0, 1, 0, 0, 1, 0, 0, 1, 1, 1, 1, 1, 1, 0, 1, 0, 0, 1, 0, 0, 0], .join ⟨[129], [], (sh [.bool]), [0, 2, 5, 6, 7, 8, 9, 10, 11, 13, 14], [0, 1, 4, 5, 8, 9]⟩), ([1, 1, 1, 1, 1, 1, 1, 0, 1, 0, 0, 1, 0, 0, 1, 1, 1, 1, 1, 1, 1, 0], .lockJ [4] ⟨[], [(4, 26)], (sh [(.agg (sh [(.gen 7)]))]), [0, 2, 5, 6, 7, 8, 10, 11, 13], [0, 1, 5, 8]⟩)]) (fn := Tryz.f30) tOk (conCons ref11_Node_ok (conCons ref11_Order_ok (conCons ref11_owner_ok (conCons ref11_Up_ok (conCons ref11_Last_ok conNil))))) (by rfl) Tryz.func30 (by kernel_rfl) (fun _ _ => by rfl) (fun _ => by kernel_rfl) (by kernel_rfl) (fun x => by kernel_rfl)
noncomputable def cat_List : Cat := ⟨60, 2, 0, fun _ => [(0, .nil), (1, .num 1)]⟩
theorem cat_List_idle (p q : Value) (w : World) : CallsDIn (Fr none) 0 Tryz.prog 60 #[p, q] .returning w fun e u' w' => e = .returned (.tuple #[]) ∧ u' = .returning ∧ w' = w := by
  refine callsDIn_of_wpSIn Tryz.func60 rfl (by simp [Fr]) fun c₀ cs hu => ?_
  apply wpSIn_seq
  apply wpSIn_region
  simp [wpOpsSIn, go_sem, recoverD, hu, Tryz.ntmps60, Exit.thenS]
  apply wpSIn_seq
  apply wpSIn_region
  simp [wpOpsSIn, go_sem, recoverD, hu, Tryz.ntmps60, Exit.thenS]
  refine wpSIn_cond (t := false) (by simp [Act.eval, Array.replicate]) ?_
  simp only [Bool.false_eq_true, if_false]
  refine wpSIn_of_wpIn rfl (wpIn_skip ?_)
  cases c₀
  simp_all [bodyPostS, results, Tryz.results60]
theorem cat_List_as (w : World) : (Instr.typeAssert (.iface 121 (.agg #[])) 20 121 true).run Tryz.prog w = .ok (.tuple #[.agg #[], .bool true]) w := by kernel_rfl
theorem cat_List_al (w : World) : (Instr.alloc 121 true (.tuple #[])).run Tryz.prog w = .ok (.pointer (some ⟨w.heap.size, 0, none⟩)) (w.alloc (.cells #[] 121)) := by kernel_rfl
set_option maxRecDepth 8000 in
theorem cat_List_catch (p q : Addr) (x y : Value) (w : World) (hp : w.cell? p = some x) (hq : w.cell? q = some y) (hpz : w.frozen? p = false) (hqz : w.frozen? q = false) (hpb : p.block < w.heap.size) (hqb : q.block < w.heap.size) (hpq : p.block ≠ q.block) :
    CallsDIn (Fr none) 0 Tryz.prog 60 #[.pointer (some p), .pointer (some q)] (.panicking (pnV 121 [])) w fun e u' w' => e = .returned (.tuple #[]) ∧ u' = .panicking [{ v := .iface 121 (.agg #[]), recovered := true }] ∧
      w' = ((w.alloc (.cells #[] 121)).setCell p (.slice none 0 0)).setCell q (.int .i64 1) := by
  refine callsDIn_of_wpSIn Tryz.func60 rfl (by simp [Fr]) fun c₀ cs hu => ?_
  have hu : c₀.mode = .panicking [{ v := .iface 121 (.agg #[]), recovered := false }] := hu
  apply wpSIn_seq
  apply wpSIn_region
  simp [wpOpsSIn, go_sem, recoverD, hu, Tryz.ntmps60, Exit.thenS]
  apply wpSIn_seq
  apply wpSIn_region
  simp [wpOpsSIn, go_sem, recoverD, hu, Tryz.ntmps60, Exit.thenS]
  refine wpSIn_cond (t := true) (by simp [Act.eval, Array.replicate]) ?_
  simp only [if_true]
  apply wpSIn_seq
  apply wpSIn_seq
  apply wpSIn_region
  simp [wpOpsSIn, go_sem, recoverD, hu, Tryz.ntmps60, Exit.thenS, cat_List_as, cat_List_al]
  apply wpSIn_seq
  apply wpSIn_region
  simp [wpOpsSIn, go_sem, Tryz.ntmps60, Exit.thenS]
  refine wpSIn_cond (t := false) (by simp [Act.eval, Array.replicate]) ?_
  simp only [Bool.false_eq_true, if_false]
  refine wpSIn_of_wpIn rfl (wpIn_skip ?_)
  simp only [Exit.thenS]
  apply wpSIn_region
  have ha : ∀ k, k < w.heap.size → (w.alloc (.cells #[] 121)).heap[k]? = w.heap[k]? := fun k hk => heap_alloc_old w _ hk
  have hp1 : (w.alloc (.cells #[] 121)).cell? p = some x := by unfold World.cell? at hp ⊢; rw [ha _ hpb]; exact hp
  have hp2 : (w.alloc (.cells #[] 121)).frozen? p = false := by unfold World.frozen? at hpz ⊢; rw [ha _ hpb]; exact hpz
  have hne : p ≠ q := fun e => hpq (by rw [e])
  have hq0 : (w.alloc (.cells #[] 121)).cell? q = some y := by unfold World.cell? at hq ⊢; rw [ha _ hqb]; exact hq
  have hq0' : (w.alloc (.cells #[] 121)).frozen? q = false := by unfold World.frozen? at hqz ⊢; rw [ha _ hqb]; exact hqz
  have hq1 : ((w.alloc (.cells #[] 121)).setCell p (.slice none 0 0)).cell? q = some y := by rw [World.cell?_setCell_other (h := by first | exact hne | exact fun e => hne e.symm)]; exact hq0
  have hq2 : ((w.alloc (.cells #[] 121)).setCell p (.slice none 0 0)).frozen? q = false := by rw [World.frozen?_setCell]; exact hq0'
  simp [wpOpsSIn, go_sem, hp1, hp2, hq1, hq2, bodyPostS, results, Tryz.results60]
theorem cat_List_ok : CatOk Tryz.prog 121 cat_List where
  call := fun _ _ => by rfl
  idle vals w h := by
    match vals, h with
    | [p, q], _ => exact cat_List_idle p q w
  catch_ l vals w h hl hc := by
    match l, vals, h, hl, hc with
    | [], [p, q], _, _, ⟨⟨a, x, h1, h2, h3, h4, h5⟩, ⟨b, y, k1, k2, k3, k4, _⟩, _⟩ =>
      have e1 : p = .pointer (some a) := Option.some.inj h1
      have e2 : q = .pointer (some b) := Option.some.inj k1
      clear h1 k1
      subst e1
      subst e2
      have hab : b.block ≠ a.block := h5 (1, .num 1) (List.mem_cons_self ..) b rfl
      exact (cat_List_catch a b x y w h2 k2 h3 k3 h4 k4 (Ne.symm hab)).mono fun e u' w' ⟨e1, e2, e3⟩ => ⟨e1, by rw [e2]; rfl, _, ex_allocO _ _, e3⟩
noncomputable def c_bytes_Clone_w : Con Tt := ⟨38, (sh [(.sl 1)]), (sh [(.row 1 5)]), 1, [], [], fun x => bytes_Clone_w x⟩
theorem bytes_Clone_w_ok : ConOk Tryz.prog tbl c_bytes_Clone_w := fn_ok (cs := []) (an := []) (fn := Tryz.f38) tOk conNil (by rfl) Tryz.func38 (by kernel_rfl) (fun _ _ => by rfl) (fun _ => by kernel_rfl) (by kernel_rfl) (fun x => by kernel_rfl)
noncomputable def c_bytes_Clone : Con Tt := ⟨38, (sh [(.sl 1)]), (sh [(.row 1 5)]), 1, [], [], fun x => bytes_Clone x⟩
theorem bytes_Clone_ok : ConOk Tryz.prog tbl c_bytes_Clone := ConOk.congr bytes_Clone_w_ok (fun x => clone_eq x)
noncomputable def c_cmp_isNaN_string : Con Tt := ⟨115, (sh [.str]), (sh [.bool]), 1, [], [], fun x => cmp_isNaN_string x⟩
theorem cmp_isNaN_string_ok : ConOk Tryz.prog tbl c_cmp_isNaN_string := fn_ok (cs := []) (an := []) (fn := Tryz.f115) tOk conNil (by rfl) Tryz.func115 (by kernel_rfl) (fun _ _ => by rfl) (fun _ => by kernel_rfl) (by kernel_rfl) (fun x => by kernel_rfl)
noncomputable def c_cmp_Compare_string : Con Tt := ⟨94, (sh [.str, .str]), (sh [.i64]), 1, [], [], fun x => cmp_Compare_string x.1 x.2⟩
theorem cmp_Compare_string_ok : ConOk Tryz.prog tbl c_cmp_Compare_string := fn_ok (cs := [c_cmp_isNaN_string]) (an := []) (fn := Tryz.f94) tOk (conCons cmp_isNaN_string_ok conNil) (by rfl) Tryz.func94 (by kernel_rfl) (fun _ _ => by rfl) (fun _ => by kernel_rfl) (by kernel_rfl) (fun x => by kernel_rfl)
noncomputable def c_tree_attrs_1 : Con Tt := ⟨93, (sh [(.agg (sh [.str, (.sl 1)])), (.agg (sh [.str, (.sl 1)]))]), (sh [.i64]), 1, [], [], fun x => tree_attrs_1 x.1.1 x.1.2 x.2.1 x.2.2⟩
theorem tree_attrs_1_ok : ConOk Tryz.prog tbl c_tree_attrs_1 := fn_ok (cs := [c_cmp_Compare_string]) (an := []) (fn := Tryz.f93) tOk (conCons cmp_Compare_string_ok conNil) (by rfl) Tryz.func93 (by kernel_rfl) (fun _ _ => by rfl) (fun _ => by kernel_rfl) (by kernel_rfl) (fun x => by kernel_rfl)
noncomputable def c_sort_Attr : Con Tt := ⟨92, (sh [(.row 3 90), (.fn 93 0 (sh []))]), (sh [(.row 3 90)]), 0, [], [0], fun x => sort_Attr x.1⟩
theorem sort_Attr_cmp : CmpOk Tryz.prog tbl 93 3 (fun x y => tree_attrs_1 x.Name x.Value y.Name y.Value) := fun x y v h m w cs ds hm hg hx hy => by
  refine (ConOk.plain tree_attrs_1_ok Tryz.call93 hm hg ((x.Name, x.Value), (y.Name, y.Value)) [.agg cs.toArray, .agg ds.toArray] ⟨_, _, rfl, ⟨cs, rfl, tOk.ex hx⟩, _, _, rfl, ⟨ds, rfl, tOk.ex hy⟩, rfl⟩ rfl rfl h [.int .i64 v] rfl (fun η m vs hr => ?_)).mono ?_
  · obtain ⟨u, rfl, e⟩ := RL.one (show RL tbl η m [.i64 v] vs from hr)
    rw [show u = _ from e]
  · rintro e w' ⟨u, rfl, rfl, hex⟩
    exact ⟨rfl, hex⟩
theorem sort_Attr_ok : ConOk Tryz.prog tbl c_sort_Attr := sort_ok (n := 3) tOk laysAttr (by rfl) Tryz.isAgg90 Tryz.sizeOf90 (by decide) (fun _ _ => by rfl) (fun _ _ => by rfl) (fun l l' h => sortBy_spec (α := TApiAttr) h) sort_Attr_cmp
noncomputable def c_tree_attrs : Con Tt := ⟨77, (sh [(.sl 3)]), (sh [(.row 3 90)]), 1, [], [], fun x => tree_attrs x⟩
theorem tree_attrs_ok : ConOk Tryz.prog tbl c_tree_attrs := fn_ok (cs := [c_bytes_Clone, c_sort_Attr]) (an := [([1, 1, 0, 1, 0], .loop 0 ⟨[3, 8], [], (sh [(.row 3 90), .i64]), [6, 7], []⟩ ⟨[3], [], (sh [(.row 3 90)]), [], []⟩), ([1, 1, 0, 1, 0, 0, 1, 1, 0, 0, 1], .lock [1])]) (fn := Tryz.f77) tOk (conCons bytes_Clone_ok (conCons sort_Attr_ok conNil)) (by rfl) Tryz.func77 (by kernel_rfl) (fun _ _ => by rfl) (fun _ => by kernel_rfl) (by kernel_rfl) (fun x => by kernel_rfl)
noncomputable def c_tree_lister_add (n : Nat) : ConP 0 Tt := ⟨61, (sh [(.own 126 (sh [(.sl 6), (.gen 11), (.row 2 80)])), .i64, .str, .i64]), (sh [(.agg (sh [(.sl 6), (.gen 11), (.row 2 80)]))]), 0, [(0, 126)], [], fun x => tree_lister_add n x.1.1 x.1.2.1 x.1.2.2 x.2.1 x.2.2.1 x.2.2.2⟩
theorem tree_lister_add_ok : ∀ n, ConPOk Tryz.prog tbl 121 (c_tree_lister_add n)
  | 0 => conP0 fun _ => rfl
  | n + 1 => fnP_ok (cs := [c_bytes_Clone, c_tree_attrs]) (an := [([0, 0], .join ⟨[36], [], (sh [.bool]), [0, 1, 2, 3], [0, 1, 2]⟩), ([1, 1, 1, 1, 0], .lockJ [3] ⟨[], [(0, 126)], (sh [(.agg (sh [(.sl 6), (.gen 11), (.row 2 80)]))]), [0, 2, 3, 8], [3]⟩), ([1, 1, 1, 1, 1, 1, 0], .loop 0 ⟨[116], [(0, 126)], (sh [.i64, (.agg (sh [(.sl 6), (.gen 11), (.row 2 80)]))]), [0, 2, 3, 114, 115], [3]⟩ ⟨[], [(0, 126)], (sh [(.agg (sh [(.sl 6), (.gen 11), (.row 2 80)]))]), [], [3]⟩)]) (ps := [c_tree_lister_add n]) (pt := 121) (fn := Tryz.f61) tOk (conCons bytes_Clone_ok (conCons tree_attrs_ok conNil)) (by rfl) (conPCons (tree_lister_add_ok n) conPNil) Tryz.func61 (by kernel_rfl) (fun _ _ => by rfl) (fun _ => by kernel_rfl) (by kernel_rfl) (fun x => by kernel_rfl)
noncomputable def c_tree_index : Con Tt := ⟨64, (sh [(.sl 2)]), (sh [(.own 138 (sh [(.sl 2), (.gen 12), (.gen 12), (.gen 12)]))]), 1, [], [], fun x => tree_index x⟩
theorem tree_index_ok : ConOk Tryz.prog tbl c_tree_index := fn_ok (cs := []) (an := [([1, 1, 0, 1, 0], .loop 0 ⟨[16], [(3, 138)], (sh [.i64, (.agg (sh [(.sl 2), (.gen 12), (.gen 12), (.gen 12)]))]), [3, 14, 15], []⟩ ⟨[], [(3, 138)], (sh [(.agg (sh [(.sl 2), (.gen 12), (.gen 12), (.gen 12)]))]), [3], []⟩), ([1, 1, 0, 1, 0, 0, 1, 1, 0, 0, 1, 0, 0], .lock [3, 7]), ([1, 1, 0, 1, 0, 0, 1, 1, 0, 0, 1, 0, 1, 1], .join ⟨[], [(3, 138)], (sh [(.agg (sh [(.sl 2), (.gen 12), (.gen 12), (.gen 12)]))]), [3, 5, 14, 15, 16], [7]⟩), ([1, 1, 0, 1, 0, 0, 1, 1, 0, 0, 1, 0, 1, 1, 0], .lock [3, 7]), ([1, 1, 0, 1, 0, 0, 1, 1, 0, 0, 1, 1, 0, 1, 0], .lock [3, 7]), ([1, 1, 0, 1, 0, 0, 1, 1, 0, 0, 1, 1, 0, 1, 1, 1, 0], .lock [3, 7])]) (fn := Tryz.f64) tOk conNil (by rfl) Tryz.func64 (by kernel_rfl) (fun _ _ => by rfl) (fun _ => by kernel_rfl) (by kernel_rfl) (fun x => by kernel_rfl)
noncomputable def c_tree_between : Con Tt := ⟨99, (sh [.i64, .i64, .i64]), (sh [.bool]), 1, [], [], fun x => tree_between x.1 x.2.1 x.2.2⟩
theorem tree_between_ok : ConOk Tryz.prog tbl c_tree_between := fn_ok (cs := []) (an := []) (fn := Tryz.f99) tOk conNil (by rfl) Tryz.func99 (by kernel_rfl) (fun _ _ => by rfl) (fun _ => by kernel_rfl) (by kernel_rfl) (fun x => by kernel_rfl)
noncomputable def c_ctb : Con Tt := ⟨153, (sh [.str, .u8]), (sh [.i64]), 1, [], [], fun x => ctb x.1 x.2⟩
theorem ctbC_ok : ConOk Tryz.prog tbl c_ctb := E.ctb_ok Tryz.func153 (by kernel_rfl) (by kernel_rfl) (by kernel_rfl) (by kernel_rfl)
noncomputable def c_strings_Count : Con Tt := ⟨126, (sh [.str, (.lit [47])]), (sh [.i64]), 1, [], [], fun x => strings_Count x.1⟩
theorem strings_Count_ok : ConOk Tryz.prog tbl c_strings_Count := fn_ok (cs := [c_ctb]) (an := []) (fn := Tryz.f126) tOk (conCons ctbC_ok conNil) (by rfl) Tryz.func126 (by kernel_rfl) (fun _ _ => by rfl) (fun _ => by kernel_rfl) (by kernel_rfl) (fun x => by kernel_rfl)
noncomputable def c_ixb : Con Tt := ⟨113, (sh [.str, .u8]), (sh [.i64]), 1, [], [], fun x => ixb x.1 x.2⟩
theorem ixbC_ok : ConOk Tryz.prog tbl c_ixb := E.ixb_ok Tryz.func113 (by kernel_rfl) (by kernel_rfl) (by kernel_rfl) (by kernel_rfl)
noncomputable def c_internal_stringslite_IndexByte : Con Tt := ⟨91, (sh [.str, .u8]), (sh [.i64]), 1, [], [], fun x => internal_stringslite_IndexByte x.1 x.2⟩
theorem internal_stringslite_IndexByte_ok : ConOk Tryz.prog tbl c_internal_stringslite_IndexByte := fn_ok (cs := [c_ixb]) (an := []) (fn := Tryz.f91) tOk (conCons ixbC_ok conNil) (by rfl) Tryz.func91 (by kernel_rfl) (fun _ _ => by rfl) (fun _ => by kernel_rfl) (by kernel_rfl) (fun x => by kernel_rfl)
noncomputable def c_internal_stringslite_Index : Con Tt := ⟨154, (sh [.str, (.lit [47])]), (sh [.i64]), 1, [], [], fun x => internal_stringslite_Index x.1⟩
theorem internal_stringslite_Index_ok : ConOk Tryz.prog tbl c_internal_stringslite_Index := fn_ok (cs := [c_internal_stringslite_IndexByte]) (an := []) (fn := Tryz.f154) tOk (conCons internal_stringslite_IndexByte_ok conNil) (by rfl) Tryz.func154 (by kernel_rfl) (fun _ _ => by rfl) (fun _ => by kernel_rfl) (by kernel_rfl) (fun x => by kernel_rfl)
noncomputable def c_strings_Index : Con Tt := ⟨127, (sh [.str, (.lit [47])]), (sh [.i64]), 1, [], [], fun x => strings_Index x.1⟩
theorem strings_Index_ok : ConOk Tryz.prog tbl c_strings_Index := fn_ok (cs := [c_internal_stringslite_Index]) (an := []) (fn := Tryz.f127) tOk (conCons internal_stringslite_Index_ok conNil) (by rfl) Tryz.func127 (by kernel_rfl) (fun _ _ => by rfl) (fun _ => by kernel_rfl) (by kernel_rfl) (fun x => by kernel_rfl)
noncomputable def c_strings_genSplit : Con Tt := ⟨106, (sh [.str, (.lit [47]), .i64, .i64]), (sh [(.sl 4)]), 1, [], [], fun x => strings_genSplit x.1 x.2.2.1 x.2.2.2⟩
theorem strings_genSplit_ok : ConOk Tryz.prog tbl c_strings_genSplit := fn_ok (cs := [c_strings_Count, c_strings_Index]) (an := [([1, 1, 1, 0, 1], .join ⟨[3], [], (sh [.i64]), [0, 1, 2], []⟩), ([1, 1, 1, 1, 1, 1, 1, 1, 0, 0], .loop 0 ⟨[0, 9, 10], [], (sh [.str, (.row 4 9), .i64]), [1, 2, 3], []⟩ ⟨[0, 9, 10], [], (sh [.str, (.row 4 9), .i64]), [], []⟩)]) (fn := Tryz.f106) tOk (conCons strings_Count_ok (conCons strings_Index_ok conNil)) (by rfl) Tryz.func106 (by kernel_rfl) (fun _ _ => by rfl) (fun _ => by kernel_rfl) (by kernel_rfl) (fun x => by kernel_rfl)
noncomputable def c_strings_Split : Con Tt := ⟨84, (sh [.str, (.lit [47])]), (sh [(.sl 4)]), 1, [], [], fun x => strings_Split x.1⟩
theorem strings_Split_ok : ConOk Tryz.prog tbl c_strings_Split := fn_ok (cs := [c_strings_genSplit]) (an := []) (fn := Tryz.f84) tOk (conCons strings_genSplit_ok conNil) (by rfl) Tryz.func84 (by kernel_rfl) (fun _ _ => by rfl) (fun _ => by kernel_rfl) (by kernel_rfl) (fun x => by kernel_rfl)
noncomputable def c_strings_IndexByte : Con Tt := ⟨72, (sh [.str, .u8]), (sh [.i64]), 1, [], [], fun x => strings_IndexByte x.1 x.2⟩
theorem strings_IndexByte_ok : ConOk Tryz.prog tbl c_strings_IndexByte := fn_ok (cs := [c_internal_stringslite_IndexByte]) (an := []) (fn := Tryz.f72) tOk (conCons internal_stringslite_IndexByte_ok conNil) (by rfl) Tryz.func72 (by kernel_rfl) (fun _ _ => by rfl) (fun _ => by kernel_rfl) (by kernel_rfl) (fun x => by kernel_rfl)
noncomputable def c_name_Valid : Con Tt := ⟨53, (sh [.str]), (sh [.bool]), 1, [], [], fun x => name_Valid x⟩
theorem name_Valid_ok : ConOk Tryz.prog tbl c_name_Valid := fn_ok (cs := [c_strings_IndexByte]) (an := []) (fn := Tryz.f53) tOk (conCons strings_IndexByte_ok conNil) (by rfl) Tryz.func53 (by kernel_rfl) (fun _ _ => by rfl) (fun _ => by kernel_rfl) (by kernel_rfl) (fun x => by kernel_rfl)
noncomputable def c_tree_path_1 : Con Tt := ⟨117, (sh [.str]), (sh [.bool]), 1, [], [], fun x => tree_path_1 x⟩
theorem tree_path_1_ok : ConOk Tryz.prog tbl c_tree_path_1 := fn_ok (cs := [c_name_Valid]) (an := []) (fn := Tryz.f117) tOk (conCons name_Valid_ok conNil) (by rfl) Tryz.func117 (by kernel_rfl) (fun _ _ => by rfl) (fun _ => by kernel_rfl) (by kernel_rfl) (fun x => by kernel_rfl)
noncomputable def c_slices_IndexFunc_string : Con Tt := ⟨147, (sh [(.sl 4), (.fn 117 0 (sh []))]), (sh [.i64]), 1, [], [], fun x => slices_IndexFunc_string x.1⟩
theorem slices_IndexFunc_string_ok : ConOk Tryz.prog tbl c_slices_IndexFunc_string := fn_ok (cs := [c_tree_path_1]) (an := [([1, 0, 1, 0], .loop 0 ⟨[8], [], (sh [.i64]), [0, 1, 7], []⟩ ⟨[], [], (sh []), [], []⟩)]) (fn := Tryz.f147) tOk (conCons tree_path_1_ok conNil) (by rfl) Tryz.func147 (by kernel_rfl) (fun _ _ => by rfl) (fun _ => by kernel_rfl) (by kernel_rfl) (fun x => by kernel_rfl)
noncomputable def c_slices_ContainsFunc_string : Con Tt := ⟨116, (sh [(.sl 4), (.fn 117 0 (sh []))]), (sh [.bool]), 1, [], [], fun x => slices_ContainsFunc_string x.1⟩
theorem slices_ContainsFunc_string_ok : ConOk Tryz.prog tbl c_slices_ContainsFunc_string := fn_ok (cs := [c_slices_IndexFunc_string]) (an := []) (fn := Tryz.f116) tOk (conCons slices_IndexFunc_string_ok conNil) (by rfl) Tryz.func116 (by kernel_rfl) (fun _ _ => by rfl) (fun _ => by kernel_rfl) (by kernel_rfl) (fun x => by kernel_rfl)
noncomputable def c_tree_path : Con Tt := ⟨100, (sh [(.agg (sh [.str, .i64, .i64, .i64, .i64, .i64, .i64, (.sl 1), .str, .i64, (.sl 3)]))]), (sh [.i64]), 1, [], [], fun x => tree_path x.1 x.2.1 x.2.2.1 x.2.2.2.1 x.2.2.2.2.1 x.2.2.2.2.2.1 x.2.2.2.2.2.2.1 x.2.2.2.2.2.2.2.1 x.2.2.2.2.2.2.2.2.1 x.2.2.2.2.2.2.2.2.2.1 x.2.2.2.2.2.2.2.2.2.2⟩
theorem tree_path_ok : ConOk Tryz.prog tbl c_tree_path := fn_ok (cs := [c_strings_Split, c_slices_ContainsFunc_string]) (an := []) (fn := Tryz.f100) tOk (conCons strings_Split_ok (conCons slices_ContainsFunc_string_ok conNil)) (by rfl) Tryz.func100 (by kernel_rfl) (fun _ _ => by rfl) (fun _ => by kernel_rfl) (by kernel_rfl) (fun x => by kernel_rfl)
noncomputable def c_internal_bytealg_LastIndexByteString : Con Tt := ⟨110, (sh [.str, .u8]), (sh [.i64]), 1, [], [], fun x => internal_bytealg_LastIndexByteString x.1 x.2⟩
theorem internal_bytealg_LastIndexByteString_ok : ConOk Tryz.prog tbl c_internal_bytealg_LastIndexByteString := fn_ok (cs := []) (an := [([1, 0, 1, 0], .loop 0 ⟨[5], [], (sh [.i64]), [0, 1], []⟩ ⟨[], [], (sh []), [], []⟩)]) (fn := Tryz.f110) tOk conNil (by rfl) Tryz.func110 (by kernel_rfl) (fun _ _ => by rfl) (fun _ => by kernel_rfl) (by kernel_rfl) (fun x => by kernel_rfl)
noncomputable def c_strings_LastIndexByte : Con Tt := ⟨88, (sh [.str, .u8]), (sh [.i64]), 1, [], [], fun x => strings_LastIndexByte x.1 x.2⟩
theorem strings_LastIndexByte_ok : ConOk Tryz.prog tbl c_strings_LastIndexByte := fn_ok (cs := [c_internal_bytealg_LastIndexByteString]) (an := []) (fn := Tryz.f88) tOk (conCons internal_bytealg_LastIndexByteString_ok conNil) (by rfl) Tryz.func88 (by kernel_rfl) (fun _ _ => by rfl) (fun _ => by kernel_rfl) (by kernel_rfl) (fun x => by kernel_rfl)
noncomputable def c_tree_above : Con Tt := ⟨68, (sh [.str]), (sh [.str, .bool]), 2, [], [], fun x => tree_above x⟩
theorem tree_above_ok : ConOk Tryz.prog tbl c_tree_above := fn_ok (cs := [c_strings_LastIndexByte]) (an := []) (fn := Tryz.f68) tOk (conCons strings_LastIndexByte_ok conNil) (by rfl) Tryz.func68 (by kernel_rfl) (fun _ _ => by rfl) (fun _ => by kernel_rfl) (by kernel_rfl) (fun x => by kernel_rfl)
noncomputable def c_tree_text : Con Tt := ⟨118, (sh [.str, .i64, .i64]), (sh [.bool]), 1, [], [], fun x => tree_text x.1 x.2.1 x.2.2⟩
theorem tree_text_ok : ConOk Tryz.prog tbl c_tree_text := fn_ok (cs := [c_tree_between, c_strings_IndexByte]) (an := []) (fn := Tryz.f118) tOk (conCons tree_between_ok (conCons strings_IndexByte_ok conNil)) (by rfl) Tryz.func118 (by kernel_rfl) (fun _ _ => by rfl) (fun _ => by kernel_rfl) (by kernel_rfl) (fun x => by kernel_rfl)
noncomputable def c_tree_fields_1 : Con Tt := ⟨120, (sh [(.agg (sh [.str, (.sl 1)]))]), (sh [.bool]), 1, [], [], fun x => tree_fields_1 x.1 x.2⟩
theorem tree_fields_1_ok : ConOk Tryz.prog tbl c_tree_fields_1 := fn_ok (cs := [c_tree_text]) (an := []) (fn := Tryz.f120) tOk (conCons tree_text_ok conNil) (by rfl) Tryz.func120 (by kernel_rfl) (fun _ _ => by rfl) (fun _ => by kernel_rfl) (by kernel_rfl) (fun x => by kernel_rfl)
noncomputable def c_slices_IndexFunc_Attr : Con Tt := ⟨148, (sh [(.sl 3), (.fn 120 0 (sh []))]), (sh [.i64]), 1, [], [], fun x => slices_IndexFunc_Attr x.1⟩
theorem slices_IndexFunc_Attr_ok : ConOk Tryz.prog tbl c_slices_IndexFunc_Attr := fn_ok (cs := [c_tree_fields_1]) (an := [([1, 0, 1, 0], .loop 0 ⟨[8], [], (sh [.i64]), [0, 1, 7], []⟩ ⟨[], [], (sh []), [], []⟩)]) (fn := Tryz.f148) tOk (conCons tree_fields_1_ok conNil) (by rfl) Tryz.func148 (by kernel_rfl) (fun _ _ => by rfl) (fun _ => by kernel_rfl) (by kernel_rfl) (fun x => by kernel_rfl)
noncomputable def c_slices_ContainsFunc_Attr : Con Tt := ⟨119, (sh [(.sl 3), (.fn 120 0 (sh []))]), (sh [.bool]), 1, [], [], fun x => slices_ContainsFunc_Attr x.1⟩
theorem slices_ContainsFunc_Attr_ok : ConOk Tryz.prog tbl c_slices_ContainsFunc_Attr := fn_ok (cs := [c_slices_IndexFunc_Attr]) (an := []) (fn := Tryz.f119) tOk (conCons slices_IndexFunc_Attr_ok conNil) (by rfl) Tryz.func119 (by kernel_rfl) (fun _ _ => by rfl) (fun _ => by kernel_rfl) (by kernel_rfl) (fun x => by kernel_rfl)
noncomputable def c_tree_fields_2 : Con Tt := ⟨121, (sh [(.agg (sh [.str, (.sl 1)])), (.own 90 (sh [.str, (.sl 1)]))]), (sh [.bool, (.agg (sh [.str, (.sl 1)]))]), 1, [(1, 90)], [], fun x => tree_fields_2 x.1.1 x.1.2 x.2.1 x.2.2⟩
theorem tree_fields_2_ok : ConOk Tryz.prog tbl c_tree_fields_2 := fn_ok (cs := []) (an := []) (fn := Tryz.f121) tOk conNil (by rfl) Tryz.func121 (by kernel_rfl) (fun _ _ => by rfl) (fun _ => by kernel_rfl) (by kernel_rfl) (fun x => by kernel_rfl)
noncomputable def c_slices_IndexFunc_Attr_2 : Con Tt := ⟨148, (sh [(.sl 3), (.fn 121 0 (sh [(.own 90 (sh [.str, (.sl 1)]))]))]), (sh [.i64]), 1, [], [], fun x => slices_IndexFunc_Attr_2 x.1 x.2.1 x.2.2⟩
theorem slices_IndexFunc_Attr_2_ok : ConOk Tryz.prog tbl c_slices_IndexFunc_Attr_2 := fn_ok (cs := [c_tree_fields_2]) (an := [([1, 0, 1, 0], .loop 0 ⟨[8], [(0, 90)], (sh [.i64, (.agg (sh [.str, (.sl 1)]))]), [0, 1, 7], []⟩ ⟨[], [], (sh []), [], []⟩)]) (fn := Tryz.f148) tOk (conCons tree_fields_2_ok conNil) (by rfl) Tryz.func148 (by kernel_rfl) (fun _ _ => by rfl) (fun _ => by kernel_rfl) (by kernel_rfl) (fun x => by kernel_rfl)
noncomputable def c_slices_ContainsFunc_Attr_2 : Con Tt := ⟨119, (sh [(.sl 3), (.fn 121 0 (sh [(.own 90 (sh [.str, (.sl 1)]))]))]), (sh [.bool]), 1, [], [], fun x => slices_ContainsFunc_Attr_2 x.1 x.2.1 x.2.2⟩
theorem slices_ContainsFunc_Attr_2_ok : ConOk Tryz.prog tbl c_slices_ContainsFunc_Attr_2 := fn_ok (cs := [c_slices_IndexFunc_Attr_2]) (an := []) (fn := Tryz.f119) tOk (conCons slices_IndexFunc_Attr_2_ok conNil) (by rfl) Tryz.func119 (by kernel_rfl) (fun _ _ => by rfl) (fun _ => by kernel_rfl) (by kernel_rfl) (fun x => by kernel_rfl)
noncomputable def c_tree_fields : Con Tt := ⟨101, (sh [(.agg (sh [.str, .i64, .i64, .i64, .i64, .i64, .i64, (.sl 1), .str, .i64, (.sl 3)]))]), (sh [.i64]), 1, [], [], fun x => tree_fields x.1 x.2.1 x.2.2.1 x.2.2.2.1 x.2.2.2.2.1 x.2.2.2.2.2.1 x.2.2.2.2.2.2.1 x.2.2.2.2.2.2.2.1 x.2.2.2.2.2.2.2.2.1 x.2.2.2.2.2.2.2.2.2.1 x.2.2.2.2.2.2.2.2.2.2⟩
theorem tree_fields_ok : ConOk Tryz.prog tbl c_tree_fields := fn_ok (cs := [c_tree_between, c_tree_text, c_slices_ContainsFunc_Attr, c_slices_ContainsFunc_Attr_2]) (an := [([1, 0], .join ⟨[3], [], (sh [.bool]), [1], [0]⟩), ([1, 1, 0, 1, 0, 1], .join ⟨[3], [], (sh [.bool]), [1], [0]⟩), ([1, 1, 0, 1, 0, 1, 0], .join ⟨[3], [], (sh [.bool]), [1], [0]⟩), ([1, 1, 0, 1, 0, 1, 1, 1], .join ⟨[3], [], (sh [.bool]), [1], [0]⟩), ([1, 1, 0, 1, 0, 1, 1, 1, 0], .join ⟨[3], [], (sh [.bool]), [1], [0]⟩), ([1, 1, 0, 1, 0, 1, 1, 1, 1, 0, 1], .join ⟨[45], [], (sh [.bool]), [1, 3], [0]⟩), ([1, 1, 0, 1, 0, 1, 1, 1, 1, 1], .join ⟨[3], [], (sh [.bool]), [1], [0]⟩), ([1, 1, 0, 1, 0, 1, 1, 1, 1, 1, 0], .join ⟨[3], [], (sh [.bool]), [1], [0]⟩), ([1, 1, 1, 0], .join ⟨[3], [], (sh [.bool]), [1], [0]⟩), ([1, 1, 1, 1, 0, 0], .join ⟨[67], [], (sh [.bool]), [1], [0]⟩), ([1, 1, 1, 1, 1, 0, 1, 0], .loop 1 ⟨[71], [], (sh [.i64]), [1, 69, 70], [0]⟩ ⟨[], [], (sh []), [], [0]⟩)]) (fn := Tryz.f101) tOk (conCons tree_between_ok (conCons tree_text_ok (conCons slices_ContainsFunc_Attr_ok (conCons slices_ContainsFunc_Attr_2_ok conNil)))) (by rfl) Tryz.func101 (by kernel_rfl) (fun _ _ => by rfl) (fun _ => by kernel_rfl) (by kernel_rfl) (fun x => by kernel_rfl)
noncomputable def c_tree_checker_entry : Con Tt := ⟨80, (sh [(.own 138 (sh [(.sl 2), (.gen 12), (.gen 12), (.gen 12)])), .i64]), (sh [.i64, (.agg (sh [(.sl 2), (.gen 12), (.gen 12), (.gen 12)]))]), 1, [(0, 138)], [], fun x => tree_checker_entry x.1.1 x.1.2.1 x.1.2.2.1 x.1.2.2.2 x.2⟩
theorem tree_checker_entry_ok : ConOk Tryz.prog tbl c_tree_checker_entry := fn_ok (cs := [c_tree_between, c_tree_path, c_tree_above, c_tree_fields]) (an := [([1, 1, 1, 1, 0, 0], .lock [0, 4]), ([1, 1, 1, 1, 1, 0, 1, 0], .join ⟨[49], [], (sh [.bool]), [0, 5], [0, 1, 2, 3, 4]⟩), ([1, 1, 1, 1, 1, 1, 0, 1, 0, 0, 0], .lock [0, 4])]) (fn := Tryz.f80) tOk (conCons tree_between_ok (conCons tree_path_ok (conCons tree_above_ok (conCons tree_fields_ok conNil)))) (by rfl) Tryz.func80 (by kernel_rfl) (fun _ _ => by rfl) (fun _ => by kernel_rfl) (by kernel_rfl) (fun x => by kernel_rfl)
noncomputable def c_tree_Check : Con Tt := ⟨63, (sh [(.sl 2)]), (sh [.i64, .i64]), 2, [], [], fun x => tree_Check x⟩
theorem tree_Check_ok : ConOk Tryz.prog tbl c_tree_Check := fn_ok (cs := [c_tree_index, c_tree_checker_entry]) (an := [([1, 1, 1, 0, 1, 0], .loop 0 ⟨[4, 15], [], (sh [.i64, .i64]), [0, 13, 14], []⟩ ⟨[], [], (sh []), [0], []⟩), ([1, 1, 1, 0, 1, 0, 0, 1, 1, 0, 0, 1, 0, 0], .join ⟨[28], [], (sh [.bool]), [0, 4, 6, 13, 14, 15], [0]⟩), ([1, 1, 1, 1, 1, 0, 1, 0], .loop 2 ⟨[42], [(0, 138)], (sh [.i64, (.agg (sh [(.sl 2), (.gen 12), (.gen 12), (.gen 12)]))]), [7, 41], []⟩ ⟨[], [], (sh []), [], []⟩)]) (fn := Tryz.f63) tOk (conCons tree_index_ok (conCons tree_checker_entry_ok conNil)) (by rfl) Tryz.func63 (by kernel_rfl) (fun _ _ => by rfl) (fun _ => by kernel_rfl) (by kernel_rfl) (fun x => by kernel_rfl)
noncomputable def c_tree_root_1 : Con Tt := ⟨83, (sh [(.agg (sh [.str, .i64, .i64, .i64, .i64, .i64, .i64, (.sl 1), .str, .i64, (.sl 3)]))]), (sh [.bool]), 1, [], [], fun x => tree_root_1 x.1 x.2.1 x.2.2.1 x.2.2.2.1 x.2.2.2.2.1 x.2.2.2.2.2.1 x.2.2.2.2.2.2.1 x.2.2.2.2.2.2.2.1 x.2.2.2.2.2.2.2.2.1 x.2.2.2.2.2.2.2.2.2.1 x.2.2.2.2.2.2.2.2.2.2⟩
theorem tree_root_1_ok : ConOk Tryz.prog tbl c_tree_root_1 := fn_ok (cs := []) (an := []) (fn := Tryz.f83) tOk conNil (by rfl) Tryz.func83 (by kernel_rfl) (fun _ _ => by rfl) (fun _ => by kernel_rfl) (by kernel_rfl) (fun x => by kernel_rfl)
noncomputable def c_slices_IndexFunc_Entry : Con Tt := ⟨82, (sh [(.sl 2), (.fn 83 0 (sh []))]), (sh [.i64]), 1, [], [], fun x => slices_IndexFunc_Entry x.1⟩
theorem slices_IndexFunc_Entry_ok : ConOk Tryz.prog tbl c_slices_IndexFunc_Entry := fn_ok (cs := [c_tree_root_1]) (an := [([1, 0, 1, 0], .loop 0 ⟨[8], [], (sh [.i64]), [0, 1, 7], []⟩ ⟨[], [], (sh []), [], []⟩)]) (fn := Tryz.f82) tOk (conCons tree_root_1_ok conNil) (by rfl) Tryz.func82 (by kernel_rfl) (fun _ _ => by rfl) (fun _ => by kernel_rfl) (by kernel_rfl) (fun x => by kernel_rfl)
noncomputable def c_tree_root : Con Tt := ⟨66, (sh [(.sl 2)]), (sh [(.agg (sh [.str, .i64, .i64, .i64, .i64, .i64, .i64, (.sl 1), .str, .i64, (.sl 3)]))]), 1, [], [], fun x => tree_root x⟩
theorem tree_root_ok : ConOk Tryz.prog tbl c_tree_root := fn_ok (cs := [c_slices_IndexFunc_Entry]) (an := []) (fn := Tryz.f66) tOk (conCons slices_IndexFunc_Entry_ok conNil) (by rfl) Tryz.func66 (by kernel_rfl) (fun _ _ => by rfl) (fun _ => by kernel_rfl) (by kernel_rfl) (fun x => by kernel_rfl)
noncomputable def c_bytes_trimRightByte : Con Tt := ⟨102, (sh [(.sl 1), .u8]), (sh [(.sl 1)]), 1, [], [], fun x => bytes_trimRightByte x.1 x.2⟩
theorem bytes_trimRightByte_ok : ConOk Tryz.prog tbl c_bytes_trimRightByte := fn_ok (cs := []) (an := [([1, 0, 0], .loop 0 ⟨[0], [], (sh [(.sl 1)]), [1], []⟩ ⟨[0], [], (sh [(.sl 1)]), [], []⟩)]) (fn := Tryz.f102) tOk conNil (by rfl) Tryz.func102 (by kernel_rfl) (fun _ _ => by rfl) (fun _ => by kernel_rfl) (by kernel_rfl) (fun x => by kernel_rfl)
noncomputable def c_bytes_TrimRight : Con Tt := ⟨81, (sh [(.sl 1), (.lit [0])]), (sh [(.sl 1)]), 1, [], [], fun x => bytes_TrimRight x.1⟩
theorem bytes_TrimRight_ok : ConOk Tryz.prog tbl c_bytes_TrimRight := fn_ok (cs := [c_bytes_trimRightByte]) (an := [([1, 0, 0], .join ⟨[13], [], (sh [.bool]), [0, 1], []⟩)]) (fn := Tryz.f81) tOk (conCons bytes_trimRightByte_ok conNil) (by rfl) Tryz.func81 (by kernel_rfl) (fun _ _ => by rfl) (fun _ => by kernel_rfl) (by kernel_rfl) (fun x => by kernel_rfl)
noncomputable def c_tree_node : Con Tt := ⟨65, (sh [(.agg (sh [.str, .i64, .i64, .i64, .i64, .i64, .i64, (.sl 1), .str, .i64, (.sl 3)]))]), (sh [(.agg (sh [.i64, .i64, .i64, .i64, .i64, .i64, (.sl 1), .str, .i64, (.sl 3), (.row 5 73), .i64, .i64]))]), 1, [], [], fun x => tree_node x.1 x.2.1 x.2.2.1 x.2.2.2.1 x.2.2.2.2.1 x.2.2.2.2.2.1 x.2.2.2.2.2.2.1 x.2.2.2.2.2.2.2.1 x.2.2.2.2.2.2.2.2.1 x.2.2.2.2.2.2.2.2.2.1 x.2.2.2.2.2.2.2.2.2.2⟩
theorem tree_node_ok : ConOk Tryz.prog tbl c_tree_node := fn_ok (cs := [c_tree_attrs, c_bytes_TrimRight, c_bytes_Clone]) (an := [([1, 0], .lockJ [0] ⟨[3], [], (sh [(.own 71 (sh [.i64, .i64, .i64, .i64, .i64, .i64, (.row 1 5), .str, .i64, (.row 3 90), (.row 5 73), .i64, .i64]))]), [1, 2], [0, 1]⟩)]) (fn := Tryz.f65) tOk (conCons tree_attrs_ok (conCons bytes_TrimRight_ok (conCons bytes_Clone_ok conNil))) (by rfl) Tryz.func65 (by kernel_rfl) (fun _ _ => by rfl) (fun _ => by kernel_rfl) (by kernel_rfl) (fun x => by kernel_rfl)
noncomputable def c_slices_Compare_string : Con Tt := ⟨109, (sh [(.sl 4), (.sl 4)]), (sh [.i64]), 1, [], [], fun x => slices_Compare_string x.1 x.2⟩
theorem slices_Compare_string_ok : ConOk Tryz.prog tbl c_slices_Compare_string := fn_ok (cs := [c_cmp_Compare_string]) (an := [([1, 0, 1, 0], .loop 0 ⟨[11], [], (sh [.i64]), [0, 1, 9, 10], []⟩ ⟨[], [], (sh []), [0, 1], []⟩)]) (fn := Tryz.f109) tOk (conCons cmp_Compare_string_ok conNil) (by rfl) Tryz.func109 (by kernel_rfl) (fun _ _ => by rfl) (fun _ => by kernel_rfl) (by kernel_rfl) (fun x => by kernel_rfl)
noncomputable def c_name_Order : Con Tt := ⟨87, (sh [(.sl 4), (.sl 4)]), (sh [.i64]), 1, [], [], fun x => name_Order x.1 x.2⟩
theorem name_Order_ok : ConOk Tryz.prog tbl c_name_Order := fn_ok (cs := [c_slices_Compare_string]) (an := []) (fn := Tryz.f87) tOk (conCons slices_Compare_string_ok conNil) (by rfl) Tryz.func87 (by kernel_rfl) (fun _ _ => by rfl) (fun _ => by kernel_rfl) (by kernel_rfl) (fun x => by kernel_rfl)
noncomputable def c_tree_names_1 : Con Tt := ⟨86, (sh [(.agg (sh [(.sl 4), .str, .str])), (.agg (sh [(.sl 4), .str, .str]))]), (sh [.i64]), 1, [], [], fun x => tree_names_1 x.1.1 x.1.2.1 x.1.2.2 x.2.1 x.2.2.1 x.2.2.2⟩
theorem tree_names_1_ok : ConOk Tryz.prog tbl c_tree_names_1 := fn_ok (cs := [c_name_Order]) (an := []) (fn := Tryz.f86) tOk (conCons name_Order_ok conNil) (by rfl) Tryz.func86 (by kernel_rfl) (fun _ _ => by rfl) (fun _ => by kernel_rfl) (by kernel_rfl) (fun x => by kernel_rfl)
noncomputable def c_sort_Named : Con Tt := ⟨85, (sh [(.row 13 136), (.fn 86 0 (sh []))]), (sh [(.row 13 136)]), 0, [], [0], fun x => sort_Named x.1⟩
theorem sort_Named_cmp : CmpOk Tryz.prog tbl 86 13 (fun x y => tree_names_1 x.f_parts x.f_path x.f_of y.f_parts y.f_path y.f_of) := fun x y v h m w cs ds hm hg hx hy => by
  refine (ConOk.plain tree_names_1_ok Tryz.call86 hm hg ((x.f_parts, x.f_path, x.f_of), (y.f_parts, y.f_path, y.f_of)) [.agg cs.toArray, .agg ds.toArray] ⟨_, _, rfl, ⟨cs, rfl, tOk.ex hx⟩, _, _, rfl, ⟨ds, rfl, tOk.ex hy⟩, rfl⟩ rfl rfl h [.int .i64 v] rfl (fun η m vs hr => ?_)).mono ?_
  · obtain ⟨u, rfl, e⟩ := RL.one (show RL tbl η m [.i64 v] vs from hr)
    rw [show u = _ from e]
  · rintro e w' ⟨u, rfl, rfl, hex⟩
    exact ⟨rfl, hex⟩
theorem sort_Named_ok : ConOk Tryz.prog tbl c_sort_Named := sort_ok (n := 13) tOk laysNamed (by rfl) Tryz.isAgg136 Tryz.sizeOf136 (by decide) (fun _ _ => by rfl) (fun _ _ => by rfl) (fun l l' h => sortBy_spec (α := TTreeNamed) h) sort_Named_cmp
noncomputable def c_tree_names : Con Tt := ⟨67, (sh [(.sl 2)]), (sh [(.row 13 136)]), 1, [], [], fun x => tree_names x⟩
theorem tree_names_ok : ConOk Tryz.prog tbl c_tree_names := fn_ok (cs := [c_strings_Split, c_sort_Named]) (an := [([1, 1, 0, 1, 0], .loop 0 ⟨[3, 9], [], (sh [(.row 13 136), .i64]), [7, 8], []⟩ ⟨[3], [], (sh [(.row 13 136)]), [], []⟩), ([1, 1, 0, 1, 0, 0, 1, 1, 0, 0, 1, 1, 0], .lockJ [1] ⟨[6], [], (sh [(.own 136 (sh [(.sl 4), .str, .str]))]), [3, 5, 7, 8, 9], [0, 1]⟩)]) (fn := Tryz.f67) tOk (conCons strings_Split_ok (conCons sort_Named_ok conNil)) (by rfl) Tryz.func67 (by kernel_rfl) (fun _ _ => by rfl) (fun _ => by kernel_rfl) (by kernel_rfl) (fun x => by kernel_rfl)
noncomputable def c_tree_Canon : Con Tt := ⟨49, (sh [(.sl 2)]), (sh [(.agg (sh [(.sl 6)])), .i64]), 2, [], [], fun x => tree_Canon x⟩
theorem tree_Canon_ok : ConOk Tryz.prog tbl c_tree_Canon := fn_ok (cs := [c_tree_Check, c_tree_index, c_tree_root, c_tree_node, c_tree_names, c_tree_above]) (an := [([1, 1, 1, 1, 1, 0, 1, 0], .loop 0 ⟨[8, 37], [(7, 26)], (sh [(.gen 12), .i64, (.agg (sh [(.gen 7)]))]), [0, 2, 6, 7, 35, 36], [0, 1, 2, 3, 4, 9]⟩ ⟨[], [(7, 26)], (sh [(.agg (sh [(.gen 7)]))]), [2, 7], [0, 1, 2, 3, 4, 9]⟩), ([1, 1, 1, 1, 1, 0, 1, 0, 0, 1, 1, 0, 0, 1, 1, 0, 1], .join ⟨[8, 11], [(7, 26)], (sh [(.gen 12), .i64, (.agg (sh [(.gen 7)]))]), [0, 2, 6, 7, 10, 35, 36, 37], [0, 1, 2, 3, 4, 9, 12]⟩), ([1, 1, 1, 1, 1, 0, 1, 0, 0, 1, 1, 0, 0, 1, 1, 0, 1, 0, 1, 1], .lockJ [1, 12] ⟨[], [(7, 26)], (sh [(.agg (sh [(.gen 7)]))]), [0, 2, 6, 7, 8, 10, 11, 35, 36, 37], [0, 1, 2, 3, 4, 9, 10, 12]⟩), ([1, 1, 1, 1, 1, 0, 1, 0, 0, 1, 1, 0, 0, 1, 1, 1, 1, 1, 0], .lockJ [7, 12] ⟨[], [(7, 26)], (sh [(.agg (sh [(.gen 7)]))]), [0, 2, 6, 7, 8, 11, 15, 35, 36, 37], [0, 1, 2, 3, 4, 9, 12, 13]⟩)]) (fn := Tryz.f49) tOk (conCons tree_Check_ok (conCons tree_index_ok (conCons tree_root_ok (conCons tree_node_ok (conCons tree_names_ok (conCons tree_above_ok conNil)))))) (by rfl) Tryz.func49 (by kernel_rfl) (fun _ _ => by rfl) (fun _ => by kernel_rfl) (by kernel_rfl) (fun x => by kernel_rfl)
noncomputable def c_bytes_Equal : Con Tt := ⟨95, (sh [(.sl 1), (.sl 1)]), (sh [.bool]), 1, [], [], fun x => bytes_Equal x.1 x.2⟩
theorem bytes_Equal_ok : ConOk Tryz.prog tbl c_bytes_Equal := fn_ok (cs := []) (an := []) (fn := Tryz.f95) tOk conNil (by rfl) Tryz.func95 (by kernel_rfl) (fun _ _ => by rfl) (fun _ => by kernel_rfl) (by kernel_rfl) (fun x => by kernel_rfl)
noncomputable def c_slices_Equal_Kid : Con Tt := ⟨96, (sh [(.sl 5), (.sl 5)]), (sh [.bool]), 1, [], [], fun x => slices_Equal_Kid x.1 x.2⟩
theorem slices_Equal_Kid_ok : ConOk Tryz.prog tbl c_slices_Equal_Kid := fn_ok (cs := []) (an := [([1, 1, 0, 1, 0], .loop 0 ⟨[13], [], (sh [.i64]), [0, 1, 12], []⟩ ⟨[], [], (sh []), [], []⟩)]) (fn := Tryz.f96) tOk conNil (by rfl) Tryz.func96 (by kernel_rfl) (fun _ _ => by rfl) (fun _ => by kernel_rfl) (by kernel_rfl) (fun x => by kernel_rfl)
noncomputable def c_tree_alike_1 : Con Tt := ⟨98, (sh [(.agg (sh [.str, (.sl 1)])), (.agg (sh [.str, (.sl 1)]))]), (sh [.bool]), 1, [], [], fun x => tree_alike_1 x.1.1 x.1.2 x.2.1 x.2.2⟩
theorem tree_alike_1_ok : ConOk Tryz.prog tbl c_tree_alike_1 := fn_ok (cs := [c_bytes_Equal]) (an := []) (fn := Tryz.f98) tOk (conCons bytes_Equal_ok conNil) (by rfl) Tryz.func98 (by kernel_rfl) (fun _ _ => by rfl) (fun _ => by kernel_rfl) (by kernel_rfl) (fun x => by kernel_rfl)
noncomputable def c_slices_EqualFunc_Attr : Con Tt := ⟨97, (sh [(.sl 3), (.sl 3), (.fn 98 0 (sh []))]), (sh [.bool]), 1, [], [], fun x => slices_EqualFunc_Attr x.1 x.2.1⟩
theorem slices_EqualFunc_Attr_ok : ConOk Tryz.prog tbl c_slices_EqualFunc_Attr := fn_ok (cs := [c_tree_alike_1]) (an := [([1, 1, 0, 1, 0], .loop 0 ⟨[17], [], (sh [.i64]), [1, 2, 15, 16], []⟩ ⟨[], [], (sh []), [], []⟩)]) (fn := Tryz.f97) tOk (conCons tree_alike_1_ok conNil) (by rfl) Tryz.func97 (by kernel_rfl) (fun _ _ => by rfl) (fun _ => by kernel_rfl) (by kernel_rfl) (fun x => by kernel_rfl)
noncomputable def c_tree_alike : Con Tt := ⟨79, (sh [(.agg (sh [.i64, .i64, .i64, .i64, .i64, .i64, (.sl 1), .str, .i64, (.sl 3), (.sl 5), .i64, .i64])), (.agg (sh [.i64, .i64, .i64, .i64, .i64, .i64, (.sl 1), .str, .i64, (.sl 3), (.sl 5), .i64, .i64]))]), (sh [.bool]), 1, [], [], fun x => tree_alike x.1.1 x.1.2.1 x.1.2.2.1 x.1.2.2.2.1 x.1.2.2.2.2.1 x.1.2.2.2.2.2.1 x.1.2.2.2.2.2.2.1 x.1.2.2.2.2.2.2.2.1 x.1.2.2.2.2.2.2.2.2.1 x.1.2.2.2.2.2.2.2.2.2.1 x.1.2.2.2.2.2.2.2.2.2.2.1 x.1.2.2.2.2.2.2.2.2.2.2.2.1 x.1.2.2.2.2.2.2.2.2.2.2.2.2 x.2.1 x.2.2.1 x.2.2.2.1 x.2.2.2.2.1 x.2.2.2.2.2.1 x.2.2.2.2.2.2.1 x.2.2.2.2.2.2.2.1 x.2.2.2.2.2.2.2.2.1 x.2.2.2.2.2.2.2.2.2.1 x.2.2.2.2.2.2.2.2.2.2.1 x.2.2.2.2.2.2.2.2.2.2.2.1 x.2.2.2.2.2.2.2.2.2.2.2.2.1 x.2.2.2.2.2.2.2.2.2.2.2.2.2⟩
theorem tree_alike_ok : ConOk Tryz.prog tbl c_tree_alike := fn_ok (cs := [c_bytes_Equal, c_slices_Equal_Kid, c_slices_EqualFunc_Attr]) (an := [([1, 0, 0], .join ⟨[72], [], (sh [.bool]), [2, 3], [0, 1]⟩)]) (fn := Tryz.f79) tOk (conCons bytes_Equal_ok (conCons slices_Equal_Kid_ok (conCons slices_EqualFunc_Attr_ok conNil))) (by rfl) Tryz.func79 (by kernel_rfl) (fun _ _ => by rfl) (fun _ => by kernel_rfl) (by kernel_rfl) (fun x => by kernel_rfl)
noncomputable def c_slices_EqualFunc_Node : Con Tt := ⟨78, (sh [(.sl 6), (.sl 6), (.fn 79 0 (sh []))]), (sh [.bool]), 1, [], [], fun x => slices_EqualFunc_Node x.1 x.2.1⟩
theorem slices_EqualFunc_Node_ok : ConOk Tryz.prog tbl c_slices_EqualFunc_Node := fn_ok (cs := [c_tree_alike]) (an := [([1, 1, 0, 1, 0], .loop 0 ⟨[17], [], (sh [.i64]), [1, 2, 15, 16], []⟩ ⟨[], [], (sh []), [], []⟩)]) (fn := Tryz.f78) tOk (conCons tree_alike_ok conNil) (by rfl) Tryz.func78 (by kernel_rfl) (fun _ _ => by rfl) (fun _ => by kernel_rfl) (by kernel_rfl) (fun x => by kernel_rfl)
noncomputable def c_tree_Same : Con Tt := ⟨62, (sh [(.agg (sh [(.sl 6)])), (.agg (sh [(.sl 6)]))]), (sh [.bool]), 1, [], [], fun x => tree_Same x.1 x.2⟩
theorem tree_Same_ok : ConOk Tryz.prog tbl c_tree_Same := fn_ok (cs := [c_slices_EqualFunc_Node]) (an := []) (fn := Tryz.f62) tOk (conCons slices_EqualFunc_Node_ok conNil) (by rfl) Tryz.func62 (by kernel_rfl) (fun _ _ => by rfl) (fun _ => by kernel_rfl) (by kernel_rfl) (fun x => by kernel_rfl)
noncomputable def c_tree_List : Con Tt := ⟨48, (sh [(.agg (sh [(.sl 6)]))]), (sh [(.sl 2), .i64]), 2, [], [], fun x => tree_List x⟩
theorem tree_List_ok : ConOk Tryz.prog tbl c_tree_List := fnD_ok (cs := [c_tree_Canon, c_tree_Same]) (an := []) (ps := [c_tree_lister_add 70]) (pt := 121) (ct := cat_List) (fn := Tryz.f48) tOk (conCons tree_Canon_ok (conCons tree_Same_ok conNil)) (by rfl) (conPCons (tree_lister_add_ok 70) conPNil) cat_List_ok Tryz.func48 (by kernel_rfl) (fun _ _ => by rfl) (fun _ => by kernel_rfl) (by kernel_rfl) (fun x => by kernel_rfl)
noncomputable def c_model_New : Con Tt := ⟨31, (sh [(.agg (sh [(.sl 6)]))]), (sh [(.alt .nilp (.own 106 (sh [(.sl 6), (.row 12 107)]))), .i64]), 2, [], [], fun x => model_New x⟩
theorem model_New_ok : ConOk Tryz.prog tbl c_model_New := fn_ok (cs := [c_tree_List, c_tree_Canon]) (an := [([1, 1, 1, 1, 1, 0, 1, 0], .loop 0 ⟨[33], [(2, 106)], (sh [.i64, (.agg (sh [(.sl 6), (.row 12 107)]))]), [8, 31, 32], [0, 1]⟩ ⟨[], [(2, 106)], (sh [(.agg (sh [(.sl 6), (.row 12 107)]))]), [8], [0, 1]⟩), ([1, 1, 1, 1, 1, 0, 1, 0, 0, 1, 1, 0, 0, 1, 1, 0, 1, 0], .loop 2 ⟨[11, 41], [], (sh [(.gen 12), .i64]), [8, 31, 32, 33, 39, 40], [0, 1, 2, 3, 4]⟩ ⟨[11], [], (sh [(.gen 12)]), [8, 31, 32, 33], [0, 1, 2, 3, 4]⟩)]) (fn := Tryz.f31) tOk (conCons tree_List_ok (conCons tree_Canon_ok conNil)) (by rfl) Tryz.func31 (by kernel_rfl) (fun _ _ => by rfl) (fun _ => by kernel_rfl) (by kernel_rfl) (fun x => by kernel_rfl)
noncomputable def c_law12_num : Con Tt := ⟨13, (sh [.i64]), (sh [.i64]), 1, [], [], fun x => law12_num x⟩
theorem law12_num_ok : ConOk Tryz.prog tbl c_law12_num := fn_ok (cs := []) (an := []) (fn := Tryz.f13) tOk conNil (by rfl) Tryz.func13 (by kernel_rfl) (fun _ _ => by rfl) (fun _ => by kernel_rfl) (by kernel_rfl) (fun x => by kernel_rfl)
noncomputable def c_law12_made : Con Tt := ⟨8, (sh [(.sl 2)]), (sh [(.alt .nilp (.own 106 (sh [(.sl 6), (.row 12 107)]))), (.agg (sh [(.sl 6)])), .bool]), 3, [], [], fun x => law12_made x⟩
theorem law12_made_ok : ConOk Tryz.prog tbl c_law12_made := fn_ok (cs := [c_ref11_Much, c_ref11_Check, c_ref11_Canon, c_model_New, c_law12_num]) (an := [([1, 1, 1, 1, 1, 1, 0], .lock [1])]) (fn := Tryz.f8) tOk (conCons ref11_Much_ok (conCons ref11_Check_ok (conCons ref11_Canon_ok (conCons model_New_ok (conCons law12_num_ok conNil))))) (by rfl) Tryz.func8 (by kernel_rfl) (fun _ _ => by rfl) (fun _ => by kernel_rfl) (by kernel_rfl) (fun x => by kernel_rfl)
noncomputable def c_law12_fails : Con Tt := ⟨9, (sh [(.sl 2)]), (sh [.bool]), 1, [], [], fun x => law12_fails x⟩
theorem law12_fails_ok : ConOk Tryz.prog tbl c_law12_fails := fn_ok (cs := [c_ref11_Much, c_ref11_Check]) (an := []) (fn := Tryz.f9) tOk (conCons ref11_Much_ok (conCons ref11_Check_ok conNil)) (by rfl) Tryz.func9 (by kernel_rfl) (fun _ _ => by rfl) (fun _ => by kernel_rfl) (by kernel_rfl) (fun x => by kernel_rfl)
noncomputable def cat_model_caught : Cat := ⟨33, 1, 1, fun l => [(0, .num (l.headD 0))]⟩
theorem cat_model_caught_idle (p : Value) (w : World) : CallsDIn (Fr none) 0 Tryz.prog 33 #[p] .returning w fun e u' w' => e = .returned (.tuple #[]) ∧ u' = .returning ∧ w' = w := by
  refine callsDIn_of_wpSIn Tryz.func33 rfl (by simp [Fr]) fun c₀ cs hu => ?_
  apply wpSIn_seq
  apply wpSIn_region
  simp [wpOpsSIn, go_sem, recoverD, hu, Tryz.ntmps33, Exit.thenS]
  apply wpSIn_seq
  apply wpSIn_seq
  apply wpSIn_region
  simp [wpOpsSIn, go_sem, recoverD, hu, Tryz.ntmps33, Exit.thenS]
  refine wpSIn_cond (t := true) (by simp [Act.eval, Array.replicate]) ?_
  simp only [if_true]
  refine wpSIn_of_wpIn rfl (wpIn_ret ?_)
  cases c₀
  simp_all [bodyPostS, results, Exit.thenS, Tryz.results33]
theorem cat_model_caught_as (x : Int) (w : World) : (Instr.typeAssert (.iface 111 (.agg #[.int .i64 x])) 20 111 true).run Tryz.prog w = .ok (.tuple #[.agg #[.int .i64 x], .bool true]) w := by kernel_rfl
theorem cat_model_caught_al (w : World) : (Instr.alloc 111 true (.tuple #[])).run Tryz.prog w = .ok (.pointer (some ⟨w.heap.size, 0, none⟩)) (w.alloc (.cells #[.int .i64 0] 111)) := by kernel_rfl
set_option maxRecDepth 8000 in
theorem cat_model_caught_catch (z : Int) (p : Addr) (x : Value) (w : World) (hp : w.cell? p = some x) (hpz : w.frozen? p = false) (hpb : p.block < w.heap.size) :
    CallsDIn (Fr none) 0 Tryz.prog 33 #[.pointer (some p)] (.panicking (pnV 111 [z])) w fun e u' w' => e = .returned (.tuple #[]) ∧ u' = .panicking [{ v := .iface 111 (.agg #[.int .i64 z]), recovered := true }] ∧
      w' = (w.alloc (.cells #[.int .i64 z] 111)).setCell p (.int .i64 z) := by
  refine callsDIn_of_wpSIn Tryz.func33 rfl (by simp [Fr]) fun c₀ cs hu => ?_
  have hu : c₀.mode = .panicking [{ v := .iface 111 (.agg #[.int .i64 z]), recovered := false }] := hu
  apply wpSIn_seq
  apply wpSIn_region
  simp [wpOpsSIn, go_sem, recoverD, hu, Tryz.ntmps33, Exit.thenS]
  apply wpSIn_seq
  apply wpSIn_seq
  apply wpSIn_region
  simp [wpOpsSIn, go_sem, recoverD, hu, Tryz.ntmps33, Exit.thenS]
  refine wpSIn_cond (t := false) (by simp [Act.eval, Array.replicate]) ?_
  simp only [Bool.false_eq_true, if_false]
  refine wpSIn_of_wpIn rfl (wpIn_skip ?_)
  simp only [Exit.thenS]
  have hb : w.heap[w.heap.size]? = none := by simp
  have ha : ∀ k, k < w.heap.size → (w.alloc (.cells #[.int .i64 z] 111)).heap[k]? = w.heap[k]? := fun k hk => heap_alloc_old w _ hk
  have hp1 : (w.alloc (.cells #[.int .i64 z] 111)).cell? p = some x := by unfold World.cell? at hp ⊢; rw [ha _ hpb]; exact hp
  have hp2 : (w.alloc (.cells #[.int .i64 z] 111)).frozen? p = false := by unfold World.frozen? at hpz ⊢; rw [ha _ hpb]; exact hpz
  apply wpSIn_seq
  apply wpSIn_region
  simp [wpOpsSIn, go_sem, recoverD, hu, Tryz.ntmps33, Exit.thenS, cat_model_caught_as, cat_model_caught_al]
  apply wpSIn_seq
  apply wpSIn_seq
  apply wpSIn_region
  simp [wpOpsSIn, go_sem, Tryz.ntmps33, Exit.thenS]
  refine wpSIn_cond (t := false) (by simp [Act.eval, Array.replicate]) ?_
  simp only [Bool.false_eq_true, if_false]
  refine wpSIn_of_wpIn rfl (wpIn_skip ?_)
  simp only [Exit.thenS]
  apply wpSIn_region
  have hz1 : (w.alloc (.cells #[.int .i64 z] 111)).cell? ⟨w.heap.size, 0, none⟩ = some (.int .i64 z) := by
    have hz0 : (w.alloc (.cells #[.int .i64 z] 111)).heap[w.heap.size]? = some (.cells #[.int .i64 z] 111) := by
      show (w.heap.push _)[w.heap.size]? = _
      simp
    unfold World.cell?
    simp only [hz0]
    rfl
  simp [wpOpsSIn, go_sem, hp1, hp2, hz1, bodyPostS, results, Tryz.results33]
set_option maxRecDepth 8000 in
theorem cat_model_caught_ok : CatOk Tryz.prog 111 cat_model_caught where
  call := fun args w => by first | exact Tryz.call33 args w | kernel_rfl
  idle vals w h := by
    match vals, h with
    | [p], _ => exact cat_model_caught_idle p w
  catch_ l vals w h hl hc := by
    match l, vals, h, hl, hc with
    | [z], [p], _, _, ⟨⟨a, x, h1, h2, h3, h4, _⟩, _⟩ =>
      have e1 : p = .pointer (some a) := Option.some.inj h1
      clear h1
      subst e1
      exact (cat_model_caught_catch z a x w h2 h3 h4).mono fun e u' w' ⟨e1, e2, e3⟩ => ⟨e1, by rw [e2]; rfl, _, ex_allocO _ _, e3⟩
noncomputable def c_model_fail : ConP 1 Tt := ⟨35, (sh [.i64]), (sh []), 0, [], [], fun x => model_fail x⟩
theorem model_fail_ok : ConPOk Tryz.prog tbl 111 c_model_fail := fnP_ok (cs := []) (an := []) (ps := []) (pt := 111) (fn := Tryz.f35) tOk conNil (by rfl) conPNil Tryz.func35 (by kernel_rfl) (fun _ _ => by rfl) (fun _ => by kernel_rfl) (by kernel_rfl) (fun x => by kernel_rfl)
noncomputable def c_model_Model_node : ConP 1 Tt := ⟨37, (sh [.nilp, .i64]), (sh []), 1, [], [], fun x => model_Model_node x.1 x.2⟩
theorem model_Model_node_ok : ConPOk Tryz.prog tbl 111 c_model_Model_node := fnP_ok (cs := []) (an := []) (ps := [c_model_fail]) (pt := 111) (fn := Tryz.f37) tOk conNil (by rfl) (conPCons model_fail_ok conPNil) Tryz.func37 (by kernel_rfl) (fun _ _ => by rfl) (fun _ => by kernel_rfl) (by kernel_rfl) (fun x => by kernel_rfl)
noncomputable def c_model_Model_Walk : Con Tt := ⟨32, (sh [.nilp, .i64, .str, .bool]), (sh [.i64, .i64]), 2, [], [], fun x => model_Model_Walk x.1 x.2.1 x.2.2.1 x.2.2.2⟩
theorem model_Model_Walk_ok : ConOk Tryz.prog tbl c_model_Model_Walk := fnD_ok (cs := []) (an := []) (ps := [c_model_Model_node]) (pt := 111) (ct := cat_model_caught) (fn := Tryz.f32) tOk conNil (by rfl) (conPCons model_Model_node_ok conPNil) cat_model_caught_ok Tryz.func32 (by kernel_rfl) (fun _ _ => by rfl) (fun _ => by kernel_rfl) (by kernel_rfl) (fun x => by kernel_rfl)
noncomputable def c_model_Model_of : ConP 1 Tt := ⟨34, (sh [.nilp, .i64, .i64]), (sh []), 1, [], [], fun x => model_Model_of x.1 x.2.1 x.2.2⟩
theorem model_Model_of_ok : ConPOk Tryz.prog tbl 111 c_model_Model_of := fnP_ok (cs := []) (an := []) (ps := [c_model_Model_node]) (pt := 111) (fn := Tryz.f34) tOk conNil (by rfl) (conPCons model_Model_node_ok conPNil) Tryz.func34 (by kernel_rfl) (fun _ _ => by rfl) (fun _ => by kernel_rfl) (by kernel_rfl) (fun x => by kernel_rfl)
noncomputable def c_model_Model_Read : Con Tt := ⟨11, (sh [.nilp, .i64, .i64, .i64]), (sh [(.row 1 5), .i64]), 2, [], [], fun x => model_Model_Read x.1 x.2.1 x.2.2.1 x.2.2.2⟩
theorem model_Model_Read_ok : ConOk Tryz.prog tbl c_model_Model_Read := fnD_ok (cs := []) (an := []) (ps := [c_model_Model_of]) (pt := 111) (ct := cat_model_caught) (fn := Tryz.f11) tOk conNil (by rfl) (conPCons model_Model_of_ok conPNil) cat_model_caught_ok Tryz.func11 (by kernel_rfl) (fun _ _ => by rfl) (fun _ => by kernel_rfl) (by kernel_rfl) (fun x => by kernel_rfl)
noncomputable def c_model_Model_node_2 : ConP 1 Tt := ⟨37, (sh [(.pt 14), .i64]), (sh [(.pt 6)]), 1, [], [], fun x => model_Model_node_2 x.1 x.2⟩
theorem model_Model_node_2_ok : ConPOk Tryz.prog tbl 111 c_model_Model_node_2 := fnP_ok (cs := []) (an := []) (ps := [c_model_fail]) (pt := 111) (fn := Tryz.f37) tOk conNil (by rfl) (conPCons model_fail_ok conPNil) Tryz.func37 (by kernel_rfl) (fun _ _ => by rfl) (fun _ => by kernel_rfl) (by kernel_rfl) (fun x => by kernel_rfl)
noncomputable def c_internal_stringslite_Cut : Con Tt := ⟨138, (sh [.str, (.lit [47])]), (sh [.str, .str, .bool]), 3, [], [], fun x => internal_stringslite_Cut x.1⟩
theorem internal_stringslite_Cut_ok : ConOk Tryz.prog tbl c_internal_stringslite_Cut := fn_ok (cs := [c_internal_stringslite_Index]) (an := []) (fn := Tryz.f138) tOk (conCons internal_stringslite_Index_ok conNil) (by rfl) Tryz.func138 (by kernel_rfl) (fun _ _ => by rfl) (fun _ => by kernel_rfl) (by kernel_rfl) (fun x => by kernel_rfl)
noncomputable def c_strings_Cut : Con Tt := ⟨112, (sh [.str, (.lit [47])]), (sh [.str, .str, .bool]), 3, [], [], fun x => strings_Cut x.1⟩
theorem strings_Cut_ok : ConOk Tryz.prog tbl c_strings_Cut := fn_ok (cs := [c_internal_stringslite_Cut]) (an := []) (fn := Tryz.f112) tOk (conCons internal_stringslite_Cut_ok conNil) (by rfl) Tryz.func112 (by kernel_rfl) (fun _ _ => by rfl) (fun _ => by kernel_rfl) (by kernel_rfl) (fun x => by kernel_rfl)
noncomputable def c_name_Split : Con Tt := ⟨69, (sh [.str]), (sh [(.row 4 9), .i64]), 2, [], [], fun x => name_Split x⟩
end Go.Proofs.YtkmhidggbnbaaaaGreatDoor.F
set_option linter.unusedVariables false
set_option linter.unusedSimpArgs false
namespace Go.Proofs.YtkmhidggbnbaaaaGreatDoor.K
open Go Go.RowKit
theorem app_ok {α : Type} {l x : List α} (h : l.length + x.length ≤ 137438953472) : app l x = some (l ++ x) := if_pos h
theorem cat_ok {l x : List UInt8} (h : l.length + x.length ≤ 9223372036854775807) : cat l x = some (l ++ x) := if_pos h
theorem slc_ok {α : Type} {l : List α} {a b : Int} (h : 0 ≤ a ∧ a ≤ b ∧ b ≤ l.length) : slc l a b = some ((l.take b.toNat).drop a.toNat) := if_pos h
theorem idx_ok {α : Type} {l : List α} {i : Nat} {x : α} (h : l[i]? = some x) : idx l (i : Int) = some x := by unfold idx; rw [if_pos (by omega)]; exact h
theorem idx_nat {α : Type} (l : List α) (i : Nat) : idx l (i : Int) = l[i]? := by unfold idx; rw [if_pos (by omega)]; rfl
theorem wI {x : Int} (h : -9223372036854775808 ≤ x ∧ x ≤ 9223372036854775807) : IntKind.i64.wrap x = x := w64 h
theorem loop_next {σ ρ : Type} {body : σ → Option (Sum σ ρ)} {s s' : σ} (h : body s = some (.inl s')) : loopO body s = loopO body s' := by rw [loopO_eq, h]
theorem loop_end {σ ρ : Type} {body : σ → Option (Sum σ ρ)} {s : σ} {r : ρ} (h : body s = some (.inr r)) : loopO body s = some r := by rw [loopO_eq, h]
end Go.Proofs.YtkmhidggbnbaaaaGreatDoor.K
set_option linter.unusedVariables false
set_option linter.unusedSimpArgs false
set_option linter.unusedSectionVars false
namespace Go.Proofs.YtkmhidggbnbaaaaGreatDoor.K
open Go Go.RowKit
section
variable {P : Program} {B : Code} {Q : Exit → Act → World → Prop} {J : Nat → Act → World → Prop} {n : Cx} {k : List It} {κ : Kn} {w : World} {p : List Nat}
theorem isRet_eq {B : Code} {p : List Nat} (hc : isRet B p = true) : cAt B p = .ret := by
  unfold isRet at hc
  split at hc
  · assumption
  · cases hc
theorem retQ [NPc Q] (hc : isRet B p = true) (h : ∀ a, Ag n κ a → Q .ret a w) : R P B Q J n (.co p :: k) κ w := by
  intro a ha
  simp only [Hd, Exit.then]
  rw [isRet_eq hc]
  exact wpIn_ret (Hd_ret a w (h a ha) k)
theorem retCM {N D : Nat} {fn : Func} {Rp : Ending → World → Prop} (vs : List Value) (hc : isRet B p = true) (hm : w.heap[D]? = some (.deferred (some []))) (hr : ResOk P κ (w.putObj D (.deferred none)) fn.results.toList vs)
    (h : Rp (.returned (packV vs)) (w.putObj D (.deferred none))) : R P B (bodyP P fn Rp) J ⟨N, none, [D], []⟩ (.co p :: k) κ w := by
  intro a ha
  simp only [Hd, Exit.then]
  rw [isRet_eq hc]
  refine wpIn_ret (Hd_ret a w ?_ k)
  show LeavesInM (Fr none) 0 P fn a.tmps Rp a.defers .returning w
  rw [ha.defers]
  exact leavesM (ds := [D]) ⟨hm, _, resultsC_run ha hr, h⟩
theorem retRC {N D : Nat} {fn : Func} {Rp : Ending → World → Prop} (vs : List Value) (hm : w.heap[D]? = some (.deferred (some []))) (hr : ResOk P κ (w.putObj D (.deferred none)) fn.results.toList vs)
    (h : Rp (.returned (packV vs)) (w.putObj D (.deferred none))) : RC P B (bodyP P fn Rp) J ⟨N, none, [D], []⟩ .ret k κ w := by
  intro a ha
  refine wpIn_ret (Hd_ret a w ?_ k)
  show LeavesInM (Fr none) 0 P fn a.tmps Rp a.defers .returning w
  rw [ha.defers]
  exact leavesM (ds := [D]) ⟨hm, _, resultsC_run ha hr, h⟩
end
end Go.Proofs.YtkmhidggbnbaaaaGreatDoor.K
namespace Go.Proofs.YtkmhidggbnbaaaaGreatDoor.F
open Go Go.RowKit Go.Proofs.YtkmhidggbnbaaaaGreatDoor Go.Proofs.YtkmhidggbnbaaaaGreatDoor.K
set_option maxRecDepth 100000
theorem ixb_lt {l : List UInt8} {c : UInt8} (h : 0 ≤ Lib.indexByte l c) : Lib.indexByte l c < l.length := by
  obtain ⟨o, ho⟩ := Int.eq_ofNat_of_zero_le h
  have h1 := (Lib.indexByte_some (o := o) ho).1
  have h2 := (List.getElem?_eq_some_iff.1 h1).1
  omega
theorem strings_Cut_eq {l : List UInt8} (h : l.length ≤ 9223372036854775807) : strings_Cut l = some (cutB l) := by
  have hi : internal_stringslite_Index l = some (Lib.indexByte l 47) := by
    unfold internal_stringslite_Index
    cases hb : (([47] : List UInt8) == l) with
    | true =>
      have := beq_iff_eq.1 hb
      subst this
      rfl
    | false => rfl
  unfold strings_Cut internal_stringslite_Cut cutB
  rw [hi]
  simp only [Option.bind_some]
  by_cases h0 : 0 ≤ Lib.indexByte l 47
  · have h1 := ixb_lt h0
    rw [show decide (Lib.indexByte l 47 ≥ 0) = true from decide_eq_true h0, if_pos h0]
    simp only [cond_true]
    rw [slc_ok ⟨by omega, h0, by omega⟩]
    simp only [Option.bind_some]
    rw [wI ⟨by omega, by omega⟩, slc_ok ⟨by omega, by omega, Int.le_refl _⟩]
    simp only [Option.bind_some, Int.toNat_natCast, List.take_length]
    rw [show (Lib.indexByte l 47 + 1).toNat = (Lib.indexByte l 47).toNat + 1 by omega]
    rfl
  · rw [show decide (Lib.indexByte l 47 ≥ 0) = false from decide_eq_false h0, if_neg h0]
    rfl
theorem cut_c {m : Mem} {w : World} (hm : Has m w) (l : List UInt8) (hl : l.length ≤ 9223372036854775807) :
    Calls Tryz.prog 112 #[.string ⟨l.toArray⟩, .string ⟨([47] : List UInt8).toArray⟩] w fun e w' => ∃ v, e = .returned v ∧ v = .tuple #[.string ⟨(cutB l).1.toArray⟩, .string ⟨(cutB l).2.1.toArray⟩, .bool (cutB l).2.2] ∧ Ex w w' :=
  E.ConOk.plain strings_Cut_ok Tryz.call112 hm glob_of (l, ()) [.string ⟨l.toArray⟩, .string ⟨([47] : List UInt8).toArray⟩] ⟨_, _, rfl, ⟨rfl, hl⟩, _, _, rfl, ⟨rfl, Nat.le_of_ble_eq_true rfl⟩, rfl⟩ rfl rfl (strings_Cut_eq hl)
    [.string ⟨(cutB l).1.toArray⟩, .string ⟨(cutB l).2.1.toArray⟩, .bool (cutB l).2.2] rfl (fun η m vs h => by
      obtain ⟨v1, r1, rfl, ⟨rfl, _⟩, v2, r2, rfl, ⟨rfl, _⟩, v3, r3, rfl, h3, h4⟩ := h
      have h3 : v3 = _ := h3
      have h4 : r3 = [] := h4
      subst h3 h4
      rfl)
theorem ixb82_c {m : Mem} {w : World} (hm : Has m w) (l : List UInt8) (hl : l.length ≤ 9223372036854775807) (c : UInt8) :
    Calls Tryz.prog 72 #[.string ⟨l.toArray⟩, .int .u8 (c.toNat : Int)] w fun e w' => ∃ v, e = .returned v ∧ v = .int .i64 (Lib.indexByte l c) ∧ Ex w w' :=
  E.ConOk.plain strings_IndexByte_ok Tryz.call72 hm glob_of (l, c) [.string ⟨l.toArray⟩, .int .u8 (c.toNat : Int)] ⟨_, _, rfl, ⟨rfl, hl⟩, _, _, rfl, rfl, rfl⟩ rfl rfl (y := Lib.indexByte l c) rfl
    [.int .i64 (Lib.indexByte l c)] rfl (fun η m vs h => by
      obtain ⟨v1, r1, rfl, h3, h4⟩ := h
      have h3 : v1 = _ := h3
      have h4 : r1 = [] := h4
      subst h3 h4
      rfl)
theorem name_parts_c {m : Mem} {w : World} (hm : Has m w) (path : (List UInt8)) (l0_0 : path.length ≤ 9223372036854775807) :
    Calls Tryz.prog 89 #[.string ⟨path.toArray⟩] w fun e w' => ∃ v, e = .returned v ∧ ∃ gz_0_0 : Nat, ∃ m' : Mem, v = .func (.func 111) #[] #[.pointer (some (⟨gz_0_0, 0, none⟩))] ∧ St w noF m m' [blkI gz_0_0 [.string ⟨(name_parts path).toArray⟩] 9] w' ∧ (name_parts path).length ≤ 9223372036854775807 := by
  generalize hf : name_parts path = r
  unfold name_parts at hf
  have H := St.start0 hm
  refine callsR Tryz.func89 (by kernel_rfl) (by kernel_rfl) ?_
  refine seg 2 [.op [0] 0, .co [1]] [(0, .string ⟨path.toArray⟩)] (by kernel_rfl) ?_
  refine st (newS (some 1) (fun g => .pointer (some ⟨g, 0, none⟩)) [.string ⟨path.toArray⟩] 9 H (by kernel_rfl) ?_)
  intro g1 w1 H
  refine seg 7 [.co [1, 1]] [(2, .func (.func 111) #[] #[.pointer (some (⟨g1, 0, none⟩))])] (by kernel_rfl) ?_
  refine retR [2] [.func (.func 111) #[] #[.pointer (some (⟨g1, 0, none⟩))]] (by kernel_rfl) (by kernel_rfl) (by kernel_rfl) ?_
  have hret := hf
  subst hret
  exact ⟨_, rfl, g1, m, rfl, H, l0_0⟩
theorem name_parts_1_c {m : Mem} {w : World} (hm : Has m w) {σs ρs : Type} {X : σs → K.Item} {Y : ρs → K.Item} {yld : σs → (List UInt8) → Option (Sum σs ρs)} (lY : Nat) (hY : Yld Tryz.prog lY m (fun (m : Mem) (args : Array Value) (x : (List UInt8)) => args = #[.string ⟨x.toArray⟩] ∧ x.length ≤ 9223372036854775807) X Y yld) (zs : σs) (gv0 : Nat) (v_ : (List UInt8)) (lv0_0 : v_.length ≤ 9223372036854775807) {F : Nat → Prop} (hsep : Sep m w [X zs, blkI gv0 [.string ⟨v_.toArray⟩] 9] F) (hF : ∀ k, F k → m k = none) {r : (Sum σs ρs)} (hf : name_parts_1 yld zs v_ = some r) :
    Calls Tryz.prog 111 #[.func (.yield lY) #[] #[], .pointer (some (⟨gv0, 0, none⟩))] w fun e w' => ∃ v, e = .returned v ∧ ∃ m' : Mem, v = .tuple #[] ∧ St w F m m' [Sum.elim X Y r] w' := by
  unfold name_parts_1 at hf
  have H := St.start hm hsep hF
  refine callsR Tryz.func111 (by kernel_rfl) (by kernel_rfl) ?_
  obtain ⟨y55, hp55, hfl55, hfr55⟩ := bndE hf
  refine joinR 0 (fun (x : (List UInt8) × σs × Mem) => []) (fun (x : (List UInt8) × σs × Mem) (wj55 : World) => y55 = .inl (x.1, x.2.1) ∧ St w F m x.2.2 [blkI gv0 [.string ⟨x.1.toArray⟩] 9, X x.2.1] wj55 ∧ Sub m x.2.2 ∧ x.1.length ≤ 9223372036854775807) (by kernel_rfl) ?_ ?_
  · refine seg 1 [.co [0], .bl 0, .le 0] [(0, .func (.yield lY) #[] #[]), (1, .pointer (some (⟨gv0, 0, none⟩)))] (by kernel_rfl) ?_
    obtain ⟨nn72, hR72⟩ := loopO_iff.1 hp55
    refine loopR 1 (fun (x : Nat × (List UInt8) × σs × Mem) => [(0, .func (.yield lY) #[] #[]), (1, .pointer (some (⟨gv0, 0, none⟩)))]) (fun (x : Nat × (List UInt8) × σs × Mem) (wl72 : World) => iter (fun s => name_parts_1_l1 (σs := σs) (ρs := ρs) yld s.1 s.2) x.1 (x.2.1, x.2.2.1) = some y55 ∧ St w F m x.2.2.2 [blkI gv0 [.string ⟨x.2.1.toArray⟩] 9, X x.2.2.1] wl72 ∧ Sub m x.2.2.2 ∧ x.2.1.length ≤ 9223372036854775807) (fun (x : Nat × (List UInt8) × σs × Mem) => x.1) (nn72, v_, zs, m) (by kernel_rfl) (by kernel_rfl) (by kernel_rfl) ?_ ?_
    · exact ⟨hR72, (H.pull 1 rfl), (Sub.refl _), lv0_0⟩
    rintro ⟨n72, t, zs1, mm73⟩ wl72 ⟨hR72, H, hsub73, hl73_0⟩
    try dsimp only at hR72
    try dsimp only at H
    try dsimp only at hsub73
    try dsimp only at hl73_0
    obtain ⟨nk72, q72, rfl, hb_72, hnx72, hfin72⟩ := iterE hR72
    replace hb_72 : name_parts_1_l1 (σs := σs) (ρs := ρs) yld t zs1 = some q72 := hb_72
    unfold name_parts_1_l1 at hb_72
    refine seg 3 [.op [0, 0, 0, 0] 0, .co [0, 0, 0, 1], .co [0, 0, 1], .le 1, .bl 0, .le 0] [(0, .func (.yield lY) #[] #[]), (1, .pointer (some (⟨gv0, 0, none⟩)))] (by kernel_rfl) ?_
    replace H : St w F m mm73 [blkI gv0 [.string ⟨t.toArray⟩] 9, X zs1] wl72 := H
    refine st (ldR (some 6) 9 (⟨gv0, 0, none⟩) (.string ⟨t.toArray⟩) (by kernel_rfl) (by kernel_rfl) (H.cellB 0 rfl rfl) ?_)
    refine seg 2 [.co [0, 0, 0, 1], .co [0, 0, 1], .le 1, .bl 0, .le 0] [(0, .func (.yield lY) #[] #[]), (1, .pointer (some (⟨gv0, 0, none⟩))), (7, .bool (!((ByteArray.toList ⟨t.toArray⟩) == (ByteArray.toList ⟨([] : List UInt8).toArray⟩))))] (by kernel_rfl) ?_
    rw [sne_raw t ([] : List UInt8)]
    rcases condT hb_72 with ⟨hb74, hb_72⟩ | ⟨hb74, hb_72⟩
    · rw [hb74]
      refine seg 5 [.op [0, 0, 1, 0, 0] 0, .co [0, 0, 1, 0, 1], .bl 1, .le 1, .bl 0, .le 0] [(0, .func (.yield lY) #[] #[]), (1, .pointer (some (⟨gv0, 0, none⟩)))] (by kernel_rfl) ?_
      refine st (ldR (some 9) 9 (⟨gv0, 0, none⟩) (.string ⟨t.toArray⟩) (by kernel_rfl) (by kernel_rfl) (H.cellB 0 rfl rfl) ?_)
      refine st (callR (some 10) 112 #[.string ⟨t.toArray⟩, .string ⟨([47] : List UInt8).toArray⟩] Tryz.call112 (cut_c H.has t hl73_0) (by kernel_rfl) ?_)
      rintro _ w75 ⟨rfl, hxw75⟩
      replace H := H.ex hxw75
      refine seg 11 [.op [0, 0, 1, 0, 1, 0] 1, .co [0, 0, 1, 0, 1, 1], .bl 1, .le 1, .bl 0, .le 0] [(0, .func (.yield lY) #[] #[]), (1, .pointer (some (⟨gv0, 0, none⟩))), (3, .string ⟨((cutB t).1).toArray⟩), (14, .string ⟨((cutB t).2.1).toArray⟩)] (by kernel_rfl) ?_
      refine st (stS none 9 0 gv0 0 (.string ⟨((cutB t).2.1).toArray⟩) [.string ⟨t.toArray⟩] 9 H rfl (by kernel_rfl) (by kernel_rfl) rfl (of_decide_eq_true rfl) ?_)
      intro w76 H
      refine seg 6 [.op [0, 0, 1, 0, 1, 1, 0] 3, .co [0, 0, 1, 0, 1, 1, 1], .bl 1, .le 1, .bl 0, .le 0] [(0, .func (.yield lY) #[] #[]), (1, .pointer (some (⟨gv0, 0, none⟩))), (3, .string ⟨((cutB t).1).toArray⟩), (17, .bool (!((ByteArray.toList ⟨((cutB t).1).toArray⟩) == (ByteArray.toList ⟨([] : List UInt8).toArray⟩))))] (by kernel_rfl) ?_
      rw [sne_raw ((cutB t).1) ([] : List UInt8)]
      rcases condT hb_72 with ⟨hb77, hb_72⟩ | ⟨hb77, hb_72⟩
      · rw [hb77]
        refine seg 4 [.op [0, 0, 1, 0, 1, 1, 0] 7, .co [0, 0, 1, 0, 1, 1, 1], .bl 1, .le 1, .bl 0, .le 0] [(0, .func (.yield lY) #[] #[]), (1, .pointer (some (⟨gv0, 0, none⟩))), (3, .string ⟨((cutB t).1).toArray⟩), (21, .bool (!((ByteArray.toList ⟨((cutB t).1).toArray⟩) == (ByteArray.toList ⟨([46] : List UInt8).toArray⟩))))] (by kernel_rfl) ?_
        rw [sne_raw ((cutB t).1) ([46] : List UInt8)]
        rcases condT hb_72 with ⟨hb78, hb_72⟩ | ⟨hb78, hb_72⟩
        · rw [hb78]
          refine seg 2 [.op [0, 0, 1, 0, 1, 1, 0] 9, .co [0, 0, 1, 0, 1, 1, 1], .bl 1, .le 1, .bl 0, .le 0] [(0, .func (.yield lY) #[] #[]), (1, .pointer (some (⟨gv0, 0, none⟩))), (21, .bool true), (22, .func (.yield lY) #[] #[]), (23, .string ⟨((cutB t).1).toArray⟩)] (by kernel_rfl) ?_
          obtain ⟨yy79, hyy79, hb_72⟩ := bindE hb_72
          refine stIn (yldS (some 24) lY #[.string ⟨((cutB t).1).toArray⟩] zs1 ((cutB t).1) yy79 hY (H.pull 1 rfl) hsub73 ⟨rfl, (cutB_1 hl73_0)⟩ hyy79 (by kernel_rfl) ?_)
          intro my79 w79 hsy79 H
          rcases sumE hb_72 with ⟨zs2, rfl, hb_72⟩ | ⟨q, rfl, hb_72⟩
          · replace H : St w F m my79 [X zs2, blkI gv0 [.string ⟨((cutB t).2.1).toArray⟩] 9] w79 := H
            refine seg 6 [.le 1, .bl 0, .le 0] [(0, .func (.yield lY) #[] #[]), (1, .pointer (some (⟨gv0, 0, none⟩)))] (by kernel_rfl) ?_
            refine leR (nk72, (cutB t).2.1, zs2, my79) (Nat.lt_succ_self _) ⟨hnx72 _ (Option.some.inj hb_72).symm, (H.pull 1 rfl), (hsub73.trans hsy79), (cutB_2 hl73_0)⟩ (by kernel_rfl)
          · replace H : St w F m my79 [Y q, blkI gv0 [.string ⟨((cutB t).2.1).toArray⟩] 9] w79 := H
            refine seg 4 [.co [0, 0, 1, 0, 1, 1, 1, 0], .bl 1, .le 1, .bl 0, .le 0] [] (by kernel_rfl) ?_
            refine retR [] [] (by kernel_rfl) (by kernel_rfl) (by kernel_rfl) ?_
            obtain rfl : .inr q = r := (hfr55 _ (hfin72 _ (Option.some.inj hb_72).symm).symm)
            exact ⟨_, rfl, my79, rfl, St.takeN 1 H⟩
        · rw [hb78]
          refine seg 9 [.le 1, .bl 0, .le 0] [(0, .func (.yield lY) #[] #[]), (1, .pointer (some (⟨gv0, 0, none⟩)))] (by kernel_rfl) ?_
          refine leR (nk72, (cutB t).2.1, zs1, mm73) (Nat.lt_succ_self _) ⟨hnx72 _ (Option.some.inj hb_72).symm, H, hsub73, (cutB_2 hl73_0)⟩ (by kernel_rfl)
      · rw [hb77]
        refine seg 13 [.le 1, .bl 0, .le 0] [(0, .func (.yield lY) #[] #[]), (1, .pointer (some (⟨gv0, 0, none⟩)))] (by kernel_rfl) ?_
        refine leR (nk72, (cutB t).2.1, zs1, mm73) (Nat.lt_succ_self _) ⟨hnx72 _ (Option.some.inj hb_72).symm, H, hsub73, (cutB_2 hl73_0)⟩ (by kernel_rfl)
    · rw [hb74]
      refine seg 2 [.le 0] [] (by kernel_rfl) ?_
      refine leR_up (k' := []) (by rfl) ?_
      refine leJ (t, zs1, mm73) ⟨(hfin72 _ (Option.some.inj hb_72).symm).symm, H, hsub73, hl73_0⟩ (by kernel_rfl)
  rintro ⟨v_1, zs1, mm56⟩ wj55 ⟨hy55, H, hsub56, hl56_0⟩
  try dsimp only at hy55
  try dsimp only at H
  try dsimp only at hsub56
  try dsimp only at hl56_0
  have hf := hfl55 _ hy55
  try dsimp only at hf
  refine endR [] [] (by kernel_rfl) (by kernel_rfl) ?_
  obtain rfl : .inl zs1 = r := (Option.some.inj hf)
  exact ⟨_, rfl, mm56, rfl, St.takeN 1 (H.pull 1 rfl)⟩
theorem name_Split_c {m : Mem} {w : World} (hm : Has m w) (path : (List UInt8)) (l0_0 : path.length ≤ 9223372036854775807) {r : ((List (List UInt8)) × Int)} (hf : name_Split path = some r) :
    Calls Tryz.prog 69 #[.string ⟨path.toArray⟩] w fun e w' => ∃ v, e = .returned v ∧ ∃ Az_0 : Option Addr, ∃ cz_0 : Nat, ∃ m' : Mem, v = .tuple #[.slice Az_0 r.1.length cz_0, .int .i64 r.2] ∧ St w noF m m' [rowI rStr 9 Az_0 cz_0 r.1] w' := by
  unfold name_Split at hf
  have H := St.start0 hm
  refine callsR Tryz.func69 (by kernel_rfl) (by kernel_rfl) ?_
  refine seg 2 [.op [0] 0, .co [1]] [(0, .string ⟨path.toArray⟩)] (by kernel_rfl) ?_
  refine st (newS (some 2) (fun g => .pointer (some ⟨g, 0, none⟩)) [.slice none 0 0] 39 H (by kernel_rfl) ?_)
  intro g1 w1 H
  refine st (newS (some 3) (fun g => .pointer (some ⟨g, 0, none⟩)) [.int .i64 0] 32 H (by kernel_rfl) ?_)
  intro g2 w2 H
  refine seg 10 [.co [1, 0, 0, 1], .bl 0, .co [1, 1]] [(0, .string ⟨path.toArray⟩), (2, .pointer (some (⟨g1, 0, none⟩))), (3, .pointer (some (⟨g2, 0, none⟩))), (6, .bool (decide ((path.length : Int) > 4096)))] (by kernel_rfl) ?_
  rcases condT hf with ⟨hb22, hf⟩ | ⟨hb22, hf⟩
  · rw [hb22]
    have p22 := of_decide_eq_true hb22
    refine seg 3 [.op [1, 0, 0, 1, 0, 0] 0, .co [1, 0, 0, 1, 0, 1], .bl 0, .co [1, 1]] [(2, .pointer (some (⟨g1, 0, none⟩))), (3, .pointer (some (⟨g2, 0, none⟩)))] (by kernel_rfl) ?_
    refine st (stS none 39 1 g1 0 (.slice none 0 0) [.slice none 0 0] 39 H rfl (by kernel_rfl) (by kernel_rfl) rfl (of_decide_eq_true rfl) ?_)
    intro w23 H
    refine st (stS none 32 0 g2 0 (.int .i64 2) [.int .i64 0] 32 H rfl (by kernel_rfl) (by kernel_rfl) rfl (of_decide_eq_true rfl) ?_)
    intro w24 H
    refine seg 1 [.co [1, 0, 0, 1, 0, 1], .bl 0, .co [1, 1]] [(2, .pointer (some (⟨g1, 0, none⟩))), (3, .pointer (some (⟨g2, 0, none⟩)))] (by kernel_rfl) ?_
    have H := H.nilR rStr 9
    refine retC [.slice none 0 0, .int .i64 2] (by kernel_rfl) ⟨⟨_, rfl, ldv_one 39 (⟨g1, 0, none⟩) (.slice none 0 0) (by kernel_rfl) (H.cellB 2 rfl rfl)⟩, ⟨_, rfl, ldv_one 32 (⟨g2, 0, none⟩) (.int .i64 2) (by kernel_rfl) (H.cellB 1 rfl rfl)⟩, trivial⟩ ?_
    obtain rfl : ([], 2) = r := (Option.some.inj hf)
    exact ⟨_, rfl, none, 0, m, rfl, (St.takeN 1 H)⟩
  · rw [hb22]
    have p22 := of_decide_eq_false hb22
    refine seg 4 [.op [1, 0, 0, 1, 1, 0] 1, .co [1, 0, 0, 1, 1, 1], .bl 0, .co [1, 1]] [(0, .string ⟨path.toArray⟩), (2, .pointer (some (⟨g1, 0, none⟩))), (3, .pointer (some (⟨g2, 0, none⟩))), (11, .string ⟨path.toArray⟩)] (by kernel_rfl) ?_
    replace H : St w noF m m [blkI g2 [.int .i64 0] 32, blkI g1 [.slice none 0 0] 39] w2 := H
    refine st (callR (some 12) 72 #[.string ⟨path.toArray⟩, .int .u8 0] Tryz.call72 (ixb82_c H.has path l0_0 (0 : UInt8)) (by kernel_rfl) ?_)
    rintro _ w25 ⟨rfl, hx25⟩
    replace H := H.ex hx25
    refine seg 3 [.co [1, 0, 0, 1, 1, 1], .bl 0, .co [1, 1]] [(0, .string ⟨path.toArray⟩), (2, .pointer (some (⟨g1, 0, none⟩))), (3, .pointer (some (⟨g2, 0, none⟩))), (10, .bool (decide ((Lib.indexByte path (0 : UInt8)) ≥ 0)))] (by kernel_rfl) ?_
    rcases condT hf with ⟨hb26, hf⟩ | ⟨hb26, hf⟩
    · rw [hb26]
      have p26 := of_decide_eq_true hb26
      refine seg 3 [.op [1, 0, 0, 1, 1, 1, 0, 0] 0, .co [1, 0, 0, 1, 1, 1, 0, 1], .bl 0, .co [1, 1]] [(2, .pointer (some (⟨g1, 0, none⟩))), (3, .pointer (some (⟨g2, 0, none⟩)))] (by kernel_rfl) ?_
      refine st (stS none 39 1 g1 0 (.slice none 0 0) [.slice none 0 0] 39 H rfl (by kernel_rfl) (by kernel_rfl) rfl (of_decide_eq_true rfl) ?_)
      intro w27 H
      refine st (stS none 32 0 g2 0 (.int .i64 6) [.int .i64 0] 32 H rfl (by kernel_rfl) (by kernel_rfl) rfl (of_decide_eq_true rfl) ?_)
      intro w28 H
      refine seg 1 [.co [1, 0, 0, 1, 1, 1, 0, 1], .bl 0, .co [1, 1]] [(2, .pointer (some (⟨g1, 0, none⟩))), (3, .pointer (some (⟨g2, 0, none⟩)))] (by kernel_rfl) ?_
      have H := H.nilR rStr 9
      refine retC [.slice none 0 0, .int .i64 6] (by kernel_rfl) ⟨⟨_, rfl, ldv_one 39 (⟨g1, 0, none⟩) (.slice none 0 0) (by kernel_rfl) (H.cellB 2 rfl rfl)⟩, ⟨_, rfl, ldv_one 32 (⟨g2, 0, none⟩) (.int .i64 6) (by kernel_rfl) (H.cellB 1 rfl rfl)⟩, trivial⟩ ?_
      obtain rfl : ([], 6) = r := (Option.some.inj hf)
      exact ⟨_, rfl, none, 0, m, rfl, (St.takeN 1 H)⟩
    · rw [hb26]
      have p26 := of_decide_eq_false hb26
      refine seg 5 [.op [1, 1, 0] 0, .co [1, 1, 1]] [(0, .string ⟨path.toArray⟩), (2, .pointer (some (⟨g1, 0, none⟩))), (3, .pointer (some (⟨g2, 0, none⟩)))] (by kernel_rfl) ?_
      refine st (newS (some 4) (fun g => .pointer (some ⟨g, 0, none⟩)) [.slice none 0 0] 39 H (by kernel_rfl) ?_)
      intro g29 w29 H
      refine seg 5 [.op [1, 1, 1, 0, 0] 1, .co [1, 1, 1, 0, 1], .co [1, 1, 1, 1]] [(2, .pointer (some (⟨g1, 0, none⟩))), (3, .pointer (some (⟨g2, 0, none⟩))), (4, .pointer (some (⟨g29, 0, none⟩))), (14, .string ⟨path.toArray⟩)] (by kernel_rfl) ?_
      replace H : St w noF m m [blkI g29 [.slice none 0 0] 39, blkI g2 [.int .i64 0] 32, blkI g1 [.slice none 0 0] 39] w29 := H
      refine st (callR (some 15) 89 #[.string ⟨path.toArray⟩] Tryz.call89 (name_parts_c H.has path l0_0) (by kernel_rfl) ?_)
      rintro _ w30 ⟨g30_0_0, mk30, rfl, hS30, hl30_0⟩
      have hsub30 := hS30.sub
      replace H := H.call0 hS30
      refine seg 2 [.co [1, 1, 1, 0, 1, 0], .bl 1, .co [1, 1, 1, 1]] [(2, .pointer (some (⟨g1, 0, none⟩))), (3, .pointer (some (⟨g2, 0, none⟩))), (4, .pointer (some (⟨g29, 0, none⟩))), (15, .func (.func 111) #[] #[.pointer (some (⟨g30_0_0, 0, none⟩))])] (by kernel_rfl) ?_
      have H := H.nilR rStr 9
      obtain ⟨yv93, hyv93, hf⟩ := bindE hf
      have Hr93 := (((((H.pull 1 rfl).pull 1 rfl).pull 2 rfl).pull 3 rfl).pull 4 rfl)
      refine rangeR (σ := []) (fun (x : List (List UInt8)) (b_ : Option Addr × Nat) => [blkI g1 [.slice none 0 0] 39, blkI g2 [.int .i64 0] 32, blkI g29 [.slice (b_.1) x.length (b_.2)] 39, rowI rStr 9 (b_.1) (b_.2) x]) (fun (q : Unit) (_ : Unit) => [blkI g1 [.slice none 0 0] 39, blkI g2 [.int .i64 1] 32]) (fun q => .ret) name_Split_r1 (fun (m : Mem) (args : Array Value) (x : (List UInt8)) => args = #[.string ⟨x.toArray⟩] ∧ x.length ≤ 9223372036854775807) [16] 15 111 #[.pointer (some (⟨g30_0_0, 0, none⟩))] [blkI g30_0_0 [.string ⟨(name_parts path).toArray⟩] 9] [] (none, 0) yv93 (by kernel_rfl) (by kernel_rfl) rfl Tryz.call111 (by intro m1 args x h; obtain ⟨rfl, _⟩ := h; rfl) Hr93 ?_ ?_ ?_ ?_
      · intro l X Y W F1 hm1 hY hse hF1
        exact (name_parts_1_c hm1 l hY [] g30_0_0 (name_parts path) hl30_0 hse hF1 hyv93).mono (fun e w' ⟨v, h1, m', h2, h3⟩ => ⟨v, h1, m', h3⟩)
      · rintro l l_ ⟨A_1_93, c_2_93⟩ s_ y args mr93 Fr93 Wr93 hsr93 ⟨rfl, ly93_0_0⟩ hbd H
        have hbr93 := hbd
        unfold name_Split_r1 at hbr93
        replace H : St Wr93 Fr93 mr93 mr93 [blkI g1 [.slice none 0 0] 39, blkI g2 [.int .i64 0] 32, blkI g29 [.slice (A_1_93) l_.length (c_2_93)] 39, rowI rStr 9 (A_1_93) (c_2_93) l_] Wr93 := H
        refine ⟨[(2, .pointer (some (⟨g1, 0, none⟩))), (3, .pointer (some (⟨g2, 0, none⟩))), (4, .pointer (some (⟨g29, 0, none⟩))), (5, .string ⟨s_.toArray⟩)], fun W' => ?_, ?_⟩
        · refine seg 3 [] [(2, .pointer (some (⟨g1, 0, none⟩))), (3, .pointer (some (⟨g2, 0, none⟩))), (4, .pointer (some (⟨g29, 0, none⟩))), (5, .string ⟨s_.toArray⟩)] (by kernel_rfl) ?_
          exact asgEnd
        · refine seg 8 [.co [1, 1, 1, 0, 1, 0, 1, 0, 0, 1], .co [1, 1, 1, 0, 1, 0, 1, 0, 1], .bl 2] [(2, .pointer (some (⟨g1, 0, none⟩))), (3, .pointer (some (⟨g2, 0, none⟩))), (4, .pointer (some (⟨g29, 0, none⟩))), (5, .string ⟨s_.toArray⟩), (19, .bool (decide ((s_.length : Int) > 255)))] (by kernel_rfl) ?_
          rcases condT hbr93 with ⟨hb94, hbr93⟩ | ⟨hb94, hbr93⟩
          · rw [hb94]
            have p94 := of_decide_eq_true hb94
            refine seg 3 [.op [1, 1, 1, 0, 1, 0, 1, 0, 0, 1, 0, 0] 0, .co [1, 1, 1, 0, 1, 0, 1, 0, 0, 1, 0, 1], .co [1, 1, 1, 0, 1, 0, 1, 0, 1], .bl 2] [(2, .pointer (some (⟨g1, 0, none⟩))), (3, .pointer (some (⟨g2, 0, none⟩))), (4, .pointer (some (⟨g29, 0, none⟩))), (5, .string ⟨s_.toArray⟩)] (by kernel_rfl) ?_
            refine st (stS none 39 0 g1 0 (.slice none 0 0) [.slice none 0 0] 39 H rfl (by kernel_rfl) (by kernel_rfl) rfl (of_decide_eq_true rfl) ?_)
            intro w95 H
            refine st (stS none 32 1 g2 0 (.int .i64 1) [.int .i64 0] 32 H rfl (by kernel_rfl) (by kernel_rfl) rfl (of_decide_eq_true rfl) ?_)
            intro w96 H
            refine seg 1 [.co [1, 1, 1, 0, 1, 0, 1, 0, 0, 1, 0, 1], .co [1, 1, 1, 0, 1, 0, 1, 0, 1], .bl 2] [] (by kernel_rfl) ?_
            refine retQ (by kernel_rfl) fun a ha => ?_
            exact ⟨(), (), mr93, (Option.some.inj hbr93).symm, rfl, St.takeN 2 H⟩
          · rw [hb94]
            have p94 := of_decide_eq_false hb94
            refine seg 3 [.op [1, 1, 1, 0, 1, 0, 1, 0, 1] 0, .bl 2] [(4, .pointer (some (⟨g29, 0, none⟩))), (5, .string ⟨s_.toArray⟩)] (by kernel_rfl) ?_
            refine st (ldR (some 20) 39 (⟨g29, 0, none⟩) (.slice A_1_93 l_.length c_2_93) (by kernel_rfl) (by kernel_rfl) (H.cellB 2 rfl rfl) ?_)
            refine seg 1 [.op [1, 1, 1, 0, 1, 0, 1, 0, 1] 2, .bl 2] [(4, .pointer (some (⟨g29, 0, none⟩))), (20, .slice A_1_93 l_.length c_2_93), (21, .string ⟨s_.toArray⟩)] (by kernel_rfl) ?_
            refine st (newS (some 22) (fun g => .slice (some ⟨g, 0, none⟩) 1 1) [.string ⟨s_.toArray⟩] 9 H (by kernel_rfl) ?_)
            intro g100 w100 H
            replace H : St Wr93 Fr93 mr93 mr93 [blkI g100 [.string ⟨s_.toArray⟩] 9, blkI g1 [.slice none 0 0] 39, blkI g2 [.int .i64 0] 32, blkI g29 [.slice A_1_93 l_.length c_2_93] 39, rowI rStr 9 A_1_93 c_2_93 l_] w100 := H
            obtain ⟨b1, h_b1, hbr93⟩ := bindE hbr93
            refine st (appS (r := rStr) (some 23) 39 9 16 (.string ⟨([] : List UInt8).toArray⟩) 39 4 A_1_93 (some ⟨g100, 0, none⟩) c_2_93 1 1 l_ [s_] b1 _ H rfl ⟨Tryz.underlying39, by kernel_rfl⟩ rfl (by decide) (by kernel_rfl) (Cs.of_blk (H.blk 0 rfl)) (Rows.cons (cs := [.string ⟨s_.toArray⟩]) ⟨rfl, ly93_0_0⟩ Rows.nil) rfl h_b1 (by decide) (by decide) ?_)
            intro A101 c101 w101 H
            replace H := H.drop 0 rfl
            refine st (stS none 39 2 g29 0 (.slice A101 b1.length c101) [.slice A_1_93 l_.length c_2_93] 39 H rfl (by kernel_rfl) (by kernel_rfl) rfl (of_decide_eq_true rfl) ?_)
            intro w102 H
            refine seg 2 [] [] (by kernel_rfl) ?_
            exact rndEnd b1 (A101, c101) mr93 (Option.some.inj hbr93).symm H
      · rintro l_ ⟨A_1_93, c_2_93⟩ md93 D93 wd93 hr hsd93 H
        subst hr
        try dsimp only [Sum.elim] at hf
        replace H : St w noF m md93 [objI D93 (.deferred (some [])), blkI g1 [.slice none 0 0] 39, blkI g2 [.int .i64 0] 32, blkI g29 [.slice (A_1_93) l_.length (c_2_93)] 39, rowI rStr 9 (A_1_93) (c_2_93) l_] wd93 := H
        refine seg 4 [.op [1, 1, 1, 1, 0, 0] 0, .co [1, 1, 1, 1, 0, 1], .co [1, 1, 1, 1, 1]] [(2, .pointer (some (⟨g1, 0, none⟩))), (3, .pointer (some (⟨g2, 0, none⟩))), (4, .pointer (some (⟨g29, 0, none⟩)))] (by kernel_rfl) ?_
        refine st (ldR (some 24) 39 (⟨g29, 0, none⟩) (.slice A_1_93 l_.length c_2_93) (by kernel_rfl) (by kernel_rfl) (H.cellB 3 rfl rfl) ?_)
        refine seg 3 [.co [1, 1, 1, 1, 0, 1], .co [1, 1, 1, 1, 1]] [(2, .pointer (some (⟨g1, 0, none⟩))), (3, .pointer (some (⟨g2, 0, none⟩))), (4, .pointer (some (⟨g29, 0, none⟩))), (26, .bool (decide ((l_.length : Int) > 128)))] (by kernel_rfl) ?_
        rcases condT hf with ⟨hb106, hf⟩ | ⟨hb106, hf⟩
        · rw [hb106]
          have p106 := of_decide_eq_true hb106
          refine seg 3 [.op [1, 1, 1, 1, 0, 1, 0, 0] 0, .co [1, 1, 1, 1, 0, 1, 0, 1], .co [1, 1, 1, 1, 1]] [(2, .pointer (some (⟨g1, 0, none⟩))), (3, .pointer (some (⟨g2, 0, none⟩)))] (by kernel_rfl) ?_
          replace H : St w noF m md93 [objI D93 (.deferred (some [])), blkI g1 [.slice none 0 0] 39, blkI g2 [.int .i64 0] 32] wd93 := ((H.drop 4 rfl).drop 3 rfl)
          refine st (stS none 39 1 g1 0 (.slice none 0 0) [.slice none 0 0] 39 H rfl (by kernel_rfl) (by kernel_rfl) rfl (of_decide_eq_true rfl) ?_)
          intro w107 H
          refine st (stS none 32 2 g2 0 (.int .i64 3) [.int .i64 0] 32 H rfl (by kernel_rfl) (by kernel_rfl) rfl (of_decide_eq_true rfl) ?_)
          intro w108 H
          refine seg 1 [.co [1, 1, 1, 1, 0, 1, 0, 1], .co [1, 1, 1, 1, 1]] [(2, .pointer (some (⟨g1, 0, none⟩))), (3, .pointer (some (⟨g2, 0, none⟩)))] (by kernel_rfl) ?_
          have H := H.nilR rStr 9
          have hmk := (H.pull 1 rfl).mark
          refine retCM [.slice none 0 0, .int .i64 3] (by kernel_rfl) hmk.1 ⟨⟨_, rfl, ldv_one 39 (⟨g1, 0, none⟩) (.slice none 0 0) (by kernel_rfl) (hmk.2.cellB 1 rfl rfl)⟩, ⟨_, rfl, ldv_one 32 (⟨g2, 0, none⟩) (.int .i64 3) (by kernel_rfl) (hmk.2.cellB 2 rfl rfl)⟩, trivial⟩ ?_
          obtain rfl : ([], 3) = r := (Option.some.inj hf)
          exact ⟨_, rfl, none, 0, md93, rfl, (St.takeN 1 hmk.2)⟩
        · rw [hb106]
          have p106 := of_decide_eq_false hb106
          refine seg 4 [.op [1, 1, 1, 1, 1, 0] 0, .co [1, 1, 1, 1, 1, 1]] [(2, .pointer (some (⟨g1, 0, none⟩))), (3, .pointer (some (⟨g2, 0, none⟩))), (4, .pointer (some (⟨g29, 0, none⟩)))] (by kernel_rfl) ?_
          refine st (ldR (some 27) 39 (⟨g29, 0, none⟩) (.slice A_1_93 l_.length c_2_93) (by kernel_rfl) (by kernel_rfl) (H.cellB 3 rfl rfl) ?_)
          refine st (stS none 39 1 g1 0 (.slice A_1_93 l_.length c_2_93) [.slice none 0 0] 39 H rfl (by kernel_rfl) (by kernel_rfl) rfl (of_decide_eq_true rfl) ?_)
          intro w109 H
          refine st (stS none 32 2 g2 0 (.int .i64 0) [.int .i64 0] 32 H rfl (by kernel_rfl) (by kernel_rfl) rfl (of_decide_eq_true rfl) ?_)
          intro w110 H
          refine seg 1 [.co [1, 1, 1, 1, 1, 1]] [(2, .pointer (some (⟨g1, 0, none⟩))), (3, .pointer (some (⟨g2, 0, none⟩)))] (by kernel_rfl) ?_
          have hmk := H.mark
          refine retCM [.slice A_1_93 l_.length c_2_93, .int .i64 0] (by kernel_rfl) hmk.1 ⟨⟨_, rfl, ldv_one 39 (⟨g1, 0, none⟩) (.slice A_1_93 l_.length c_2_93) (by kernel_rfl) (hmk.2.cellB 0 rfl rfl)⟩, ⟨_, rfl, ldv_one 32 (⟨g2, 0, none⟩) (.int .i64 0) (by kernel_rfl) (hmk.2.cellB 1 rfl rfl)⟩, trivial⟩ ?_
          obtain rfl : (l_, 0) = r := (Option.some.inj hf)
          exact ⟨_, rfl, A_1_93, c_2_93, md93, rfl, (St.takeN 1 (hmk.2.pull 3 rfl))⟩
      · rintro q c md D wd hr hsd H
        subst hr
        try dsimp only [Sum.elim] at hf
        have hmk := H.mark
        refine retRC [.slice none 0 0, .int .i64 1] hmk.1 ⟨⟨_, rfl, ldv_one 39 (⟨g1, 0, none⟩) (.slice none 0 0) (by kernel_rfl) (hmk.2.cellB 0 rfl rfl)⟩, ⟨_, rfl, ldv_one 32 (⟨g2, 0, none⟩) (.int .i64 1) (by kernel_rfl) (hmk.2.cellB 1 rfl rfl)⟩, trivial⟩ ?_
        obtain rfl : ([], 1) = r := (Option.some.inj hf)
        exact ⟨_, rfl, none, 0, md, rfl, St.takeN 1 (hmk.2.nilR rStr 9)⟩
theorem name_Split_ok : E.ConOk Tryz.prog tbl c_name_Split := by
  intro st x y hy η m w F vals hr hlen has gl hs hd
  have hr : E.RL tbl η m [.str x] vals := hr
  obtain ⟨v0, r0, rfl, ⟨rfl, hl⟩, e2⟩ := hr
  have e2 : r0 = [] := e2
  subst e2
  have hlen : η.length = 0 := hlen
  refine .inl ⟨Tryz.call69 _ _, (name_Split_c has x hl (r := y) hy).mono ?_⟩
  rintro e w' ⟨v, he, A, c, m', hv, hS⟩
  refine ⟨v, he, [.slice A y.1.length c], m', [.slice A y.1.length c, .int .i64 y.2], [], hv, rfl, ⟨_, _, rfl, ⟨?_, rfl⟩, _, _, rfl, rfl, rfl⟩, ?_, ?_, rfl⟩
  · rw [List.getElem?_append_right (Nat.le_refl _), Nat.sub_self]; rfl
  · rw [List.length_append]; rfl
  · have H := (St.start has hs hd).call0 hS
    refine E.St_conv H (fun F hF => ⟨A, c, ?_, hF⟩) (fun _ e => e)
    rw [List.getElem?_append_right (Nat.le_refl _), Nat.sub_self]; rfl
end Go.Proofs.YtkmhidggbnbaaaaGreatDoor.F
set_option linter.unusedVariables false
set_option linter.unusedSimpArgs false
namespace Go.Proofs.YtkmhidggbnbaaaaGreatDoor.F
open Go Go.RowKit Go.Proofs.YtkmhidggbnbaaaaGreatDoor Go.Proofs.YtkmhidggbnbaaaaGreatDoor.K Go.Proofs.YtkmhidggbnbaaaaGreatDoor.K.E
set_option maxRecDepth 100000
noncomputable def c_model_split : ConP 1 Tt := ⟨50, (sh [.str]), (sh [(.row 4 9)]), 1, [], [], fun x => model_split x⟩
theorem model_split_ok : ConPOk Tryz.prog tbl 111 c_model_split := fnP_ok (cs := [c_name_Split]) (an := []) (ps := [c_model_fail]) (pt := 111) (fn := Tryz.f50) tOk (conCons name_Split_ok conNil) (by rfl) (conPCons model_fail_ok conPNil) Tryz.func50 (by kernel_rfl) (fun _ _ => by rfl) (fun _ => by kernel_rfl) (by kernel_rfl) (fun x => by kernel_rfl)
noncomputable def c_internal_stringslite_HasPrefix : Con Tt := ⟨90, (sh [.str, .str]), (sh [.bool]), 1, [], [], fun x => internal_stringslite_HasPrefix x.1 x.2⟩
theorem internal_stringslite_HasPrefix_ok : ConOk Tryz.prog tbl c_internal_stringslite_HasPrefix := fn_ok (cs := []) (an := []) (fn := Tryz.f90) tOk conNil (by rfl) Tryz.func90 (by kernel_rfl) (fun _ _ => by rfl) (fun _ => by kernel_rfl) (by kernel_rfl) (fun x => by kernel_rfl)
noncomputable def c_strings_HasPrefix : Con Tt := ⟨70, (sh [.str, .str]), (sh [.bool]), 1, [], [], fun x => strings_HasPrefix x.1 x.2⟩
theorem strings_HasPrefix_ok : ConOk Tryz.prog tbl c_strings_HasPrefix := fn_ok (cs := [c_internal_stringslite_HasPrefix]) (an := []) (fn := Tryz.f70) tOk (conCons internal_stringslite_HasPrefix_ok conNil) (by rfl) Tryz.func70 (by kernel_rfl) (fun _ _ => by rfl) (fun _ => by kernel_rfl) (by kernel_rfl) (fun x => by kernel_rfl)
noncomputable def c_name_Absolute : Con Tt := ⟨51, (sh [.str]), (sh [.bool]), 1, [], [], fun x => name_Absolute x⟩
theorem name_Absolute_ok : ConOk Tryz.prog tbl c_name_Absolute := fn_ok (cs := [c_strings_HasPrefix]) (an := []) (fn := Tryz.f51) tOk (conCons strings_HasPrefix_ok conNil) (by rfl) Tryz.func51 (by kernel_rfl) (fun _ _ => by rfl) (fun _ => by kernel_rfl) (by kernel_rfl) (fun x => by kernel_rfl)
noncomputable def c_model_Model_of_2 : ConP 1 Tt := ⟨34, (sh [(.pt 14), .i64, .i64]), (sh [(.pt 6)]), 1, [], [], fun x => model_Model_of_2 x.1 x.2.1 x.2.2⟩
theorem model_Model_of_2_ok : ConPOk Tryz.prog tbl 111 c_model_Model_of_2 := fnP_ok (cs := []) (an := []) (ps := [c_model_Model_node_2, c_model_fail]) (pt := 111) (fn := Tryz.f34) tOk conNil (by rfl) (conPCons model_Model_node_2_ok (conPCons model_fail_ok conPNil)) Tryz.func34 (by kernel_rfl) (fun _ _ => by rfl) (fun _ => by kernel_rfl) (by kernel_rfl) (fun x => by kernel_rfl)
noncomputable def c_model_Model_look : ConP 1 Tt := ⟨39, (sh [(.pt 14), .i64, .str]), (sh [.i64]), 1, [], [], fun x => model_Model_look x.1 x.2.1 x.2.2⟩
theorem model_Model_look_ok : ConPOk Tryz.prog tbl 111 c_model_Model_look := fnP_ok (cs := [c_name_Valid]) (an := []) (ps := [c_model_Model_of_2, c_model_fail]) (pt := 111) (fn := Tryz.f39) tOk (conCons name_Valid_ok conNil) (by rfl) (conPCons model_Model_of_2_ok (conPCons model_fail_ok conPNil)) Tryz.func39 (by kernel_rfl) (fun _ _ => by rfl) (fun _ => by kernel_rfl) (by kernel_rfl) (fun x => by kernel_rfl)
noncomputable def c_slices_Grow_string : Con Tt := ⟨71, (sh [.nl, .i64]), (sh [(.row 4 9)]), 1, [], [], fun x => slices_Grow_string x.1 x.2⟩
end Go.Proofs.YtkmhidggbnbaaaaGreatDoor.F
