/- The code computes them: printed by e.py. -/
import Derived.Test.YtbldeodchhfjfaaGreatDoorProg
import Derived.Test.YtbldeodchhfjfaaGreatDoorE20
import Derived.Test.YtbldeodchhfjfaaGreatDoorTBP
import Derived.Test.YtbldeodchhfjfaaGreatDoorLays20
import Derived.Test.YtbldeodchhfjfaaGreatDoorE15D
set_option linter.unusedVariables false
set_option linter.unusedSimpArgs false
namespace Go.Proofs.YtbldeodchhfjfaaGreatDoor.F
open Go Go.RowKit Go.Proofs.YtbldeodchhfjfaaGreatDoor Go.Proofs.YtbldeodchhfjfaaGreatDoor.K Go.Proofs.YtbldeodchhfjfaaGreatDoor.K.E
set_option maxRecDepth 100000
def Tt : Nat → Type
  | 1 => UInt8
  | 2 => TApiEntry
  | 3 => TApiAttr
  | 4 => Int
  | 5 => List (List UInt8 × Int)
  | 6 => (List UInt8)
  | 7 => TApiKid
  | 8 => TTreeNamed
  | 9 => TApiNode
  | 10 => List TApiNode
  | 11 => List TApiNode × Int × TApiNode
  | 12 => Bool
  | 13 => List (Int × (List UInt8))
  | _ => Unit
def ex_1 (x : UInt8) : List (AV Tt) := [.u8 x]
def im_1 (l : List (AV Tt)) : Option UInt8 := match l with
  | [a0] => (gU8 a0).bind fun x0 => some x0
  | _ => none
def ex_2 (x : TApiEntry) : List (AV Tt) := [.str x.Path, .i64 x.Kind, .i64 x.Mode, .i64 x.Uid, .i64 x.Gid, .i64 x.Time, .i64 x.Size, .sl 1 x.Data, .str x.Target, .i64 x.Dev, .sl 3 x.Attrs]
def im_2 (l : List (AV Tt)) : Option TApiEntry := match l with
  | [a0, a1, a2, a3, a4, a5, a6, a7, a8, a9, a10] => (gStr a0).bind fun x0 => (gI64 a1).bind fun x1 => (gI64 a2).bind fun x2 => (gI64 a3).bind fun x3 => (gI64 a4).bind fun x4 => (gI64 a5).bind fun x5 => (gI64 a6).bind fun x6 => (gSl 1 a7).bind fun x7 => (gStr a8).bind fun x8 => (gI64 a9).bind fun x9 => (gSl 3 a10).bind fun x10 => some ⟨x0, x1, x2, x3, x4, x5, x6, x7, x8, x9, x10⟩
  | _ => none
def ex_3 (x : TApiAttr) : List (AV Tt) := [.str x.Name, .sl 1 x.Value]
def im_3 (l : List (AV Tt)) : Option TApiAttr := match l with
  | [a0, a1] => (gStr a0).bind fun x0 => (gSl 1 a1).bind fun x1 => some ⟨x0, x1⟩
  | _ => none
def ex_4 (x : Int) : List (AV Tt) := [.i64 x]
def im_4 (l : List (AV Tt)) : Option Int := match l with
  | [a0] => (gI64 a0).bind fun x0 => some x0
  | _ => none
def ex_6 (x : (List UInt8)) : List (AV Tt) := [.str x]
def im_6 (l : List (AV Tt)) : Option (List UInt8) := match l with
  | [a0] => (gStr a0).bind fun x0 => some x0
  | _ => none
def ex_7 (x : TApiKid) : List (AV Tt) := [.str x.Name, .i64 x.Ino]
def im_7 (l : List (AV Tt)) : Option TApiKid := match l with
  | [a0, a1] => (gStr a0).bind fun x0 => (gI64 a1).bind fun x1 => some ⟨x0, x1⟩
  | _ => none
def ex_8 (x : TTreeNamed) : List (AV Tt) := [.sl 6 x.f_parts, .str x.f_path, .str x.f_of]
def im_8 (l : List (AV Tt)) : Option TTreeNamed := match l with
  | [a0, a1, a2] => (gSl 6 a0).bind fun x0 => (gStr a1).bind fun x1 => (gStr a2).bind fun x2 => some ⟨x0, x1, x2⟩
  | _ => none
def ex_9 (x : TApiNode) : List (AV Tt) := [.i64 x.Kind, .i64 x.Mode, .i64 x.Uid, .i64 x.Gid, .i64 x.Time, .i64 x.Size, .sl 1 x.Data, .str x.Target, .i64 x.Dev, .sl 3 x.Attrs, .sl 7 x.Kids, .i64 x.Parent, .i64 x.Links]
def im_9 (l : List (AV Tt)) : Option TApiNode := match l with
  | [a0, a1, a2, a3, a4, a5, a6, a7, a8, a9, a10, a11, a12] => (gI64 a0).bind fun x0 => (gI64 a1).bind fun x1 => (gI64 a2).bind fun x2 => (gI64 a3).bind fun x3 => (gI64 a4).bind fun x4 => (gI64 a5).bind fun x5 => (gSl 1 a6).bind fun x6 => (gStr a7).bind fun x7 => (gI64 a8).bind fun x8 => (gSl 3 a9).bind fun x9 => (gSl 7 a10).bind fun x10 => (gI64 a11).bind fun x11 => (gI64 a12).bind fun x12 => some ⟨x0, x1, x2, x3, x4, x5, x6, x7, x8, x9, x10, x11, x12⟩
  | _ => none
def ex_12 (x : Bool) : List (AV Tt) := [.bool x]
def im_12 (l : List (AV Tt)) : Option Bool := match l with
  | [a0] => (gBool a0).bind fun x0 => some x0
  | _ => none
def repT : ∀ n, Rep (Tt n)
  | 1 => rU8
  | 2 => rApiEntry
  | 3 => rApiAttr
  | 4 => rI64
  | 5 => rNone _
  | 6 => rStr
  | 7 => rApiKid
  | 8 => rTreeNamed
  | 9 => rApiNode
  | 10 => rNone _
  | 11 => rNone _
  | 12 => rBool
  | 13 => rNone _
  | 0 => rNo
  | _ + 14 => rNo
def exT : ∀ n, Tt n → List (AV Tt)
  | 1 => ex_1
  | 2 => ex_2
  | 3 => ex_3
  | 4 => ex_4
  | 5 => fun _ => []
  | 6 => ex_6
  | 7 => ex_7
  | 8 => ex_8
  | 9 => ex_9
  | 10 => fun _ => []
  | 11 => fun _ => []
  | 12 => ex_12
  | 13 => fun _ => []
  | 0 => fun _ => [.bool true]
  | _ + 14 => fun _ => [.bool true]
def imT : ∀ n, List (AV Tt) → Option (Tt n)
  | 1 => im_1
  | 2 => im_2
  | 3 => im_3
  | 4 => im_4
  | 5 => fun _ => none
  | 6 => im_6
  | 7 => im_7
  | 8 => im_8
  | 9 => im_9
  | 10 => fun _ => none
  | 11 => fun _ => none
  | 12 => im_12
  | 13 => fun _ => none
  | 0 => fun _ => none
  | _ + 14 => fun _ => none
def deep_10 : Deep TApiNode TApiKid rApiNode rApiKid 10 where
  getk x := x.Kids
  setk x l := { x with Kids := l }
  gs _ _ := rfl
  ss _ _ _ := rfl
  sg _ := rfl
  lt := by decide
  fill := by
    intro m cs x A c h0 h1 h2
    obtain ⟨A6, c6, A9, c9, A10, c10, h, s6, s7, s9, s10⟩ := h0
    have e := set_back (u := .slice none 0 0) h1
    rw [h] at e
    exact ⟨A6, c6, A9, c9, A, c, e, s6, s7, s9, h2⟩
  empt := by
    intro m cs x h0
    obtain ⟨A6, c6, A9, c9, A10, c10, h, s6, s7, s9, s10⟩ := h0
    rw [h]
    exact ⟨A6, c6, A9, c9, none, 0, rfl, s6, s7, s9, SlI.nil _ _⟩
def giT : ∀ n, Tt n → Value → Value → K.Item
  | 1 => fun _ _ _ => emp
  | 2 => fun _ _ _ => emp
  | 3 => fun _ _ _ => emp
  | 4 => fun _ _ _ => emp
  | 5 => fun x v _ => mapG kStr wfS (repT 4) false x v
  | 6 => fun _ _ _ => emp
  | 7 => fun _ _ _ => emp
  | 8 => fun _ _ _ => emp
  | 9 => fun _ _ _ => emp
  | 10 => fun x v _ => deepI deep_10 53 49 x v
  | 11 => fun x v u => holeI deep_10 53 49 x v u
  | 12 => fun _ _ _ => emp
  | 13 => fun x v _ => mapG kI64 wfI (repT 6) false x v
  | 0 => fun _ _ _ => emp
  | _ + 14 => fun _ _ _ => emp
def dpT : ∀ k, Option (DP Tt repT k)
  | 1 => none
  | 2 => none
  | 3 => none
  | 4 => none
  | 5 => none
  | 6 => none
  | 7 => none
  | 8 => none
  | 9 => none
  | 10 => some { n := 9, nk := 7, t := 49, tk := 53, off := 10, hk := 11, D := deep_10, to := fun x => x, of := fun x => x, toh := fun x => x, ofh := fun x => x }
  | 11 => none
  | 12 => none
  | 13 => none
  | 0 => none
  | _ + 14 => none
def mpT : ∀ k, Option (MP Tt repT k)
  | 1 => none
  | 2 => none
  | 3 => none
  | 4 => none
  | 5 => some (mpStr 5 4 false (fun x => x) (fun x => x))
  | 6 => none
  | 7 => none
  | 8 => none
  | 9 => none
  | 10 => none
  | 11 => none
  | 12 => none
  | 13 => some (mpInt 13 6 false (fun x => x) (fun x => x))
  | 0 => none
  | _ + 14 => none
def glT : Nat → Option ((n : Nat) × List (Tt n))
  | _ => none
def tbl : Tab where
  T := Tt
  rep := repT
  ex := exT
  im := imT
  code t := (([(3, 4), (4, 12), (5, 1), (9, 6), (30, 2), (49, 9), (51, 3), (53, 7), (97, 8)] : List (Nat × Nat)).find? (fun p => Nat.beq p.1 t)).map (·.2)
  gl := glT
  u8c := 1
  tou8 n := match n with | 1 => fun l => some l | 0 => fun _ => none | _ + 2 => fun _ => none
  ofu8 l := l
  gi := giT
  dp := dpT
  hd h := (([(11, 10)] : List (Nat × Nat)).find? (fun p => Nat.beq p.1 h)).map (·.2)
  mp := mpT
  gcode t := (([(49, 10), (93, 5), (110, 13)] : List (Nat × Nat)).find? (fun p => Nat.beq p.1 t)).map (·.2)
theorem imok_1 {av : List (AV Tt)} {x : UInt8} {η : List Value} {m : Mem} {vs : List Value} (h : im_1 av = some x) (hr : RL tbl η m av vs) : rU8.im m vs x := by
  unfold im_1 at h
  split at h
  · obtain ⟨v0, r, rfl, h0, hr⟩ := hr
    cases hr
    obtain ⟨x0, e0, h⟩ := bindE h
    have q0 := gU8_ok (tb := tbl) e0 h0
    subst q0
    cases h
    exact rfl
  · cases h
theorem exok_1 {x : UInt8} {η : List Value} {m : Mem} {vs : List Value} (h : rU8.im m vs x) : RL tbl η m (ex_1 x) vs := by
  have h : vs = _ := h
  subst h
  exact ⟨_, _, rfl, rfl, rfl⟩
theorem imok_2 {av : List (AV Tt)} {x : TApiEntry} {η : List Value} {m : Mem} {vs : List Value} (h : im_2 av = some x) (hr : RL tbl η m av vs) : rApiEntry.im m vs x := by
  unfold im_2 at h
  split at h
  · obtain ⟨v0, r, rfl, h0, hr⟩ := hr
    obtain ⟨v1, r, rfl, h1, hr⟩ := hr
    obtain ⟨v2, r, rfl, h2, hr⟩ := hr
    obtain ⟨v3, r, rfl, h3, hr⟩ := hr
    obtain ⟨v4, r, rfl, h4, hr⟩ := hr
    obtain ⟨v5, r, rfl, h5, hr⟩ := hr
    obtain ⟨v6, r, rfl, h6, hr⟩ := hr
    obtain ⟨v7, r, rfl, h7, hr⟩ := hr
    obtain ⟨v8, r, rfl, h8, hr⟩ := hr
    obtain ⟨v9, r, rfl, h9, hr⟩ := hr
    obtain ⟨v10, r, rfl, h10, hr⟩ := hr
    cases hr
    obtain ⟨x0, e0, h⟩ := bindE h
    obtain ⟨rfl, s0⟩ := gStr_ok (tb := tbl) e0 h0
    obtain ⟨x1, e1, h⟩ := bindE h
    have q1 := gI64_ok (tb := tbl) e1 h1
    subst q1
    obtain ⟨x2, e2, h⟩ := bindE h
    have q2 := gI64_ok (tb := tbl) e2 h2
    subst q2
    obtain ⟨x3, e3, h⟩ := bindE h
    have q3 := gI64_ok (tb := tbl) e3 h3
    subst q3
    obtain ⟨x4, e4, h⟩ := bindE h
    have q4 := gI64_ok (tb := tbl) e4 h4
    subst q4
    obtain ⟨x5, e5, h⟩ := bindE h
    have q5 := gI64_ok (tb := tbl) e5 h5
    subst q5
    obtain ⟨x6, e6, h⟩ := bindE h
    have q6 := gI64_ok (tb := tbl) e6 h6
    subst q6
    obtain ⟨x7, e7, h⟩ := bindE h
    obtain ⟨A7, c7, rfl, s7⟩ := gSl_ok (tb := tbl) (n := 1) e7 h7
    obtain ⟨x8, e8, h⟩ := bindE h
    obtain ⟨rfl, s8⟩ := gStr_ok (tb := tbl) e8 h8
    obtain ⟨x9, e9, h⟩ := bindE h
    have q9 := gI64_ok (tb := tbl) e9 h9
    subst q9
    obtain ⟨x10, e10, h⟩ := bindE h
    obtain ⟨A10, c10, rfl, s10⟩ := gSl_ok (tb := tbl) (n := 3) e10 h10
    cases h
    exact ⟨A7, c7, A10, c10, rfl, s0, s7, s8, s10⟩
  · cases h
theorem exok_2 {x : TApiEntry} {η : List Value} {m : Mem} {vs : List Value} (h : rApiEntry.im m vs x) : RL tbl η m (ex_2 x) vs := by
  obtain ⟨A7, c7, A10, c10, rfl, s0, s7, s8, s10⟩ := h
  exact ⟨_, _, rfl, ⟨rfl, s0⟩, ⟨_, _, rfl, rfl, ⟨_, _, rfl, rfl, ⟨_, _, rfl, rfl, ⟨_, _, rfl, rfl, ⟨_, _, rfl, rfl, ⟨_, _, rfl, rfl, ⟨_, _, rfl, ⟨A7, c7, rfl, s7⟩, ⟨_, _, rfl, ⟨rfl, s8⟩, ⟨_, _, rfl, rfl, ⟨_, _, rfl, ⟨A10, c10, rfl, s10⟩, rfl⟩⟩⟩⟩⟩⟩⟩⟩⟩⟩⟩
theorem imok_3 {av : List (AV Tt)} {x : TApiAttr} {η : List Value} {m : Mem} {vs : List Value} (h : im_3 av = some x) (hr : RL tbl η m av vs) : rApiAttr.im m vs x := by
  unfold im_3 at h
  split at h
  · obtain ⟨v0, r, rfl, h0, hr⟩ := hr
    obtain ⟨v1, r, rfl, h1, hr⟩ := hr
    cases hr
    obtain ⟨x0, e0, h⟩ := bindE h
    obtain ⟨rfl, s0⟩ := gStr_ok (tb := tbl) e0 h0
    obtain ⟨x1, e1, h⟩ := bindE h
    obtain ⟨A1, c1, rfl, s1⟩ := gSl_ok (tb := tbl) (n := 1) e1 h1
    cases h
    exact ⟨A1, c1, rfl, s0, s1⟩
  · cases h
theorem exok_3 {x : TApiAttr} {η : List Value} {m : Mem} {vs : List Value} (h : rApiAttr.im m vs x) : RL tbl η m (ex_3 x) vs := by
  obtain ⟨A1, c1, rfl, s0, s1⟩ := h
  exact ⟨_, _, rfl, ⟨rfl, s0⟩, ⟨_, _, rfl, ⟨A1, c1, rfl, s1⟩, rfl⟩⟩
theorem imok_4 {av : List (AV Tt)} {x : Int} {η : List Value} {m : Mem} {vs : List Value} (h : im_4 av = some x) (hr : RL tbl η m av vs) : rI64.im m vs x := by
  unfold im_4 at h
  split at h
  · obtain ⟨v0, r, rfl, h0, hr⟩ := hr
    cases hr
    obtain ⟨x0, e0, h⟩ := bindE h
    have q0 := gI64_ok (tb := tbl) e0 h0
    subst q0
    cases h
    exact rfl
  · cases h
theorem exok_4 {x : Int} {η : List Value} {m : Mem} {vs : List Value} (h : rI64.im m vs x) : RL tbl η m (ex_4 x) vs := by
  have h : vs = _ := h
  subst h
  exact ⟨_, _, rfl, rfl, rfl⟩
theorem imok_6 {av : List (AV Tt)} {x : (List UInt8)} {η : List Value} {m : Mem} {vs : List Value} (h : im_6 av = some x) (hr : RL tbl η m av vs) : rStr.im m vs x := by
  unfold im_6 at h
  split at h
  · obtain ⟨v0, r, rfl, h0, hr⟩ := hr
    cases hr
    obtain ⟨x0, e0, h⟩ := bindE h
    obtain ⟨rfl, s0⟩ := gStr_ok (tb := tbl) e0 h0
    cases h
    exact ⟨rfl, s0⟩
  · cases h
theorem exok_6 {x : (List UInt8)} {η : List Value} {m : Mem} {vs : List Value} (h : rStr.im m vs x) : RL tbl η m (ex_6 x) vs := by
  obtain ⟨rfl, s0⟩ := h
  exact ⟨_, _, rfl, ⟨rfl, s0⟩, rfl⟩
theorem imok_7 {av : List (AV Tt)} {x : TApiKid} {η : List Value} {m : Mem} {vs : List Value} (h : im_7 av = some x) (hr : RL tbl η m av vs) : rApiKid.im m vs x := by
  unfold im_7 at h
  split at h
  · obtain ⟨v0, r, rfl, h0, hr⟩ := hr
    obtain ⟨v1, r, rfl, h1, hr⟩ := hr
    cases hr
    obtain ⟨x0, e0, h⟩ := bindE h
    obtain ⟨rfl, s0⟩ := gStr_ok (tb := tbl) e0 h0
    obtain ⟨x1, e1, h⟩ := bindE h
    have q1 := gI64_ok (tb := tbl) e1 h1
    subst q1
    cases h
    exact ⟨rfl, s0⟩
  · cases h
theorem exok_7 {x : TApiKid} {η : List Value} {m : Mem} {vs : List Value} (h : rApiKid.im m vs x) : RL tbl η m (ex_7 x) vs := by
  obtain ⟨rfl, s0⟩ := h
  exact ⟨_, _, rfl, ⟨rfl, s0⟩, ⟨_, _, rfl, rfl, rfl⟩⟩
theorem imok_8 {av : List (AV Tt)} {x : TTreeNamed} {η : List Value} {m : Mem} {vs : List Value} (h : im_8 av = some x) (hr : RL tbl η m av vs) : rTreeNamed.im m vs x := by
  unfold im_8 at h
  split at h
  · obtain ⟨v0, r, rfl, h0, hr⟩ := hr
    obtain ⟨v1, r, rfl, h1, hr⟩ := hr
    obtain ⟨v2, r, rfl, h2, hr⟩ := hr
    cases hr
    obtain ⟨x0, e0, h⟩ := bindE h
    obtain ⟨A0, c0, rfl, s0⟩ := gSl_ok (tb := tbl) (n := 6) e0 h0
    obtain ⟨x1, e1, h⟩ := bindE h
    obtain ⟨rfl, s1⟩ := gStr_ok (tb := tbl) e1 h1
    obtain ⟨x2, e2, h⟩ := bindE h
    obtain ⟨rfl, s2⟩ := gStr_ok (tb := tbl) e2 h2
    cases h
    exact ⟨A0, c0, rfl, s0, s1, s2⟩
  · cases h
theorem exok_8 {x : TTreeNamed} {η : List Value} {m : Mem} {vs : List Value} (h : rTreeNamed.im m vs x) : RL tbl η m (ex_8 x) vs := by
  obtain ⟨A0, c0, rfl, s0, s1, s2⟩ := h
  exact ⟨_, _, rfl, ⟨A0, c0, rfl, s0⟩, ⟨_, _, rfl, ⟨rfl, s1⟩, ⟨_, _, rfl, ⟨rfl, s2⟩, rfl⟩⟩⟩
theorem imok_9 {av : List (AV Tt)} {x : TApiNode} {η : List Value} {m : Mem} {vs : List Value} (h : im_9 av = some x) (hr : RL tbl η m av vs) : rApiNode.im m vs x := by
  unfold im_9 at h
  split at h
  · obtain ⟨v0, r, rfl, h0, hr⟩ := hr
    obtain ⟨v1, r, rfl, h1, hr⟩ := hr
    obtain ⟨v2, r, rfl, h2, hr⟩ := hr
    obtain ⟨v3, r, rfl, h3, hr⟩ := hr
    obtain ⟨v4, r, rfl, h4, hr⟩ := hr
    obtain ⟨v5, r, rfl, h5, hr⟩ := hr
    obtain ⟨v6, r, rfl, h6, hr⟩ := hr
    obtain ⟨v7, r, rfl, h7, hr⟩ := hr
    obtain ⟨v8, r, rfl, h8, hr⟩ := hr
    obtain ⟨v9, r, rfl, h9, hr⟩ := hr
    obtain ⟨v10, r, rfl, h10, hr⟩ := hr
    obtain ⟨v11, r, rfl, h11, hr⟩ := hr
    obtain ⟨v12, r, rfl, h12, hr⟩ := hr
    cases hr
    obtain ⟨x0, e0, h⟩ := bindE h
    have q0 := gI64_ok (tb := tbl) e0 h0
    subst q0
    obtain ⟨x1, e1, h⟩ := bindE h
    have q1 := gI64_ok (tb := tbl) e1 h1
    subst q1
    obtain ⟨x2, e2, h⟩ := bindE h
    have q2 := gI64_ok (tb := tbl) e2 h2
    subst q2
    obtain ⟨x3, e3, h⟩ := bindE h
    have q3 := gI64_ok (tb := tbl) e3 h3
    subst q3
    obtain ⟨x4, e4, h⟩ := bindE h
    have q4 := gI64_ok (tb := tbl) e4 h4
    subst q4
    obtain ⟨x5, e5, h⟩ := bindE h
    have q5 := gI64_ok (tb := tbl) e5 h5
    subst q5
    obtain ⟨x6, e6, h⟩ := bindE h
    obtain ⟨A6, c6, rfl, s6⟩ := gSl_ok (tb := tbl) (n := 1) e6 h6
    obtain ⟨x7, e7, h⟩ := bindE h
    obtain ⟨rfl, s7⟩ := gStr_ok (tb := tbl) e7 h7
    obtain ⟨x8, e8, h⟩ := bindE h
    have q8 := gI64_ok (tb := tbl) e8 h8
    subst q8
    obtain ⟨x9, e9, h⟩ := bindE h
    obtain ⟨A9, c9, rfl, s9⟩ := gSl_ok (tb := tbl) (n := 3) e9 h9
    obtain ⟨x10, e10, h⟩ := bindE h
    obtain ⟨A10, c10, rfl, s10⟩ := gSl_ok (tb := tbl) (n := 7) e10 h10
    obtain ⟨x11, e11, h⟩ := bindE h
    have q11 := gI64_ok (tb := tbl) e11 h11
    subst q11
    obtain ⟨x12, e12, h⟩ := bindE h
    have q12 := gI64_ok (tb := tbl) e12 h12
    subst q12
    cases h
    exact ⟨A6, c6, A9, c9, A10, c10, rfl, s6, s7, s9, s10⟩
  · cases h
theorem exok_9 {x : TApiNode} {η : List Value} {m : Mem} {vs : List Value} (h : rApiNode.im m vs x) : RL tbl η m (ex_9 x) vs := by
  obtain ⟨A6, c6, A9, c9, A10, c10, rfl, s6, s7, s9, s10⟩ := h
  exact ⟨_, _, rfl, rfl, ⟨_, _, rfl, rfl, ⟨_, _, rfl, rfl, ⟨_, _, rfl, rfl, ⟨_, _, rfl, rfl, ⟨_, _, rfl, rfl, ⟨_, _, rfl, ⟨A6, c6, rfl, s6⟩, ⟨_, _, rfl, ⟨rfl, s7⟩, ⟨_, _, rfl, rfl, ⟨_, _, rfl, ⟨A9, c9, rfl, s9⟩, ⟨_, _, rfl, ⟨A10, c10, rfl, s10⟩, ⟨_, _, rfl, rfl, ⟨_, _, rfl, rfl, rfl⟩⟩⟩⟩⟩⟩⟩⟩⟩⟩⟩⟩⟩
theorem imok_12 {av : List (AV Tt)} {x : Bool} {η : List Value} {m : Mem} {vs : List Value} (h : im_12 av = some x) (hr : RL tbl η m av vs) : rBool.im m vs x := by
  unfold im_12 at h
  split at h
  · obtain ⟨v0, r, rfl, h0, hr⟩ := hr
    cases hr
    obtain ⟨x0, e0, h⟩ := bindE h
    have q0 := gBool_ok (tb := tbl) e0 h0
    subst q0
    cases h
    exact rfl
  · cases h
theorem exok_12 {x : Bool} {η : List Value} {m : Mem} {vs : List Value} (h : rBool.im m vs x) : RL tbl η m (ex_12 x) vs := by
  have h : vs = _ := h
  subst h
  exact ⟨_, _, rfl, rfl, rfl⟩
theorem kOk : KindOk tbl where
  dgi := by
    intro k d h
    match k, d, h with
    | 0, d, h => cases h
    | 1, d, h => cases h
    | 2, d, h => cases h
    | 3, d, h => cases h
    | 4, d, h => cases h
    | 5, d, h => cases h
    | 6, d, h => cases h
    | 7, d, h => cases h
    | 8, d, h => cases h
    | 9, d, h => cases h
    | 10, d, h => cases h; exact ⟨fun _ _ _ => rfl, fun _ _ _ => rfl, fun _ => rfl, fun _ => rfl⟩
    | 11, d, h => cases h
    | 12, d, h => cases h
    | 13, d, h => cases h
    | k + 14, d, h => cases h
  mgi := by
    intro k d h
    match k, d, h with
    | 0, d, h => cases h
    | 1, d, h => cases h
    | 2, d, h => cases h
    | 3, d, h => cases h
    | 4, d, h => cases h
    | 5, d, h => exact mpStr_ok (tb := tbl) (fun _ _ _ => rfl) (fun _ => rfl) d (Option.some.inj h).symm
    | 6, d, h => cases h
    | 7, d, h => cases h
    | 8, d, h => cases h
    | 9, d, h => cases h
    | 10, d, h => cases h
    | 11, d, h => cases h
    | 12, d, h => cases h
    | 13, d, h => exact mpInt_ok (tb := tbl) (fun _ _ _ => rfl) (fun _ => rfl) d (Option.some.inj h).symm
    | k + 14, d, h => cases h
theorem tOk : TabOk tbl where
  im := by
    intro n av x η m vs h hr
    match n, x, h with
    | 0, x, h => cases h
    | 1, x, h => exact imok_1 h hr
    | 2, x, h => exact imok_2 h hr
    | 3, x, h => exact imok_3 h hr
    | 4, x, h => exact imok_4 h hr
    | 5, x, h => cases h
    | 6, x, h => exact imok_6 h hr
    | 7, x, h => exact imok_7 h hr
    | 8, x, h => exact imok_8 h hr
    | 9, x, h => exact imok_9 h hr
    | 10, x, h => cases h
    | 11, x, h => cases h
    | 12, x, h => exact imok_12 h hr
    | 13, x, h => cases h
    | k + 14, x, h => cases h
  ex := by
    intro n x η m vs h
    match n, x, h with
    | 0, x, h => exact ⟨_, _, h, rfl, rfl⟩
    | 1, x, h => exact exok_1 h
    | 2, x, h => exact exok_2 h
    | 3, x, h => exact exok_3 h
    | 4, x, h => exact exok_4 h
    | 5, x, h => exact h.elim
    | 6, x, h => exact exok_6 h
    | 7, x, h => exact exok_7 h
    | 8, x, h => exact exok_8 h
    | 9, x, h => exact exok_9 h
    | 10, x, h => exact h.elim
    | 11, x, h => exact h.elim
    | 12, x, h => exact exok_12 h
    | 13, x, h => exact h.elim
    | k + 14, x, h => exact ⟨_, _, h, rfl, rfl⟩
  fl := by
    intro n x η ζ m vs h
    match n, x, h with
    | 0, x, h => exact h
    | 1, x, h => exact h
    | 2, x, h => exact h
    | 3, x, h => exact h
    | 4, x, h => exact h
    | 5, x, h => exact h
    | 6, x, h => exact h
    | 7, x, h => exact h
    | 8, x, h => exact h
    | 9, x, h => exact h
    | 10, x, h => exact h
    | 11, x, h => exact h
    | 12, x, h => exact h
    | 13, x, h => exact h
    | k + 14, x, h => exact h
  tou8 := by
    intro n l x h M hm
    match n, l, h, hm with
    | 1, l, h, hm => cases h; exact hm
    | 0, l, h, hm => cases h
    | k + 2, l, h, hm => cases h
  ofu8 := fun M hm => hm
  kd := kOk
theorem glob_of {m : Mem} : Glob tbl m := fun h => by cases h
noncomputable def c_ref11_Much : Con Tt := ⟨15, (sh [(.sl 2)]), (sh [.bool]), 1, [], [], fun x => ref11_Much x⟩
theorem ref11_Much_ok : ConOk Tryz.prog tbl c_ref11_Much := fn_ok (cs := []) (an := [([1, 1, 1, 0, 1, 0], .loop 0 ⟨[3, 4], [], (sh [.i64, .i64]), [0], []⟩ ⟨[], [], (sh []), [], []⟩), ([1, 1, 1, 0, 1, 0, 0, 1, 0, 0, 0, 0], .join ⟨[48], [], (sh [.bool]), [0, 3, 4], []⟩), ([1, 1, 1, 0, 1, 0, 0, 1, 0, 0, 1, 1, 0], .loop 2 ⟨[3, 5], [], (sh [.i64, .i64]), [0, 4], []⟩ ⟨[3], [], (sh [.i64]), [0, 4], []⟩)]) (fn := Tryz.f15) tOk conNil (by rfl) Tryz.func15 (by kernel_rfl) (fun _ _ => by rfl) (fun _ => by kernel_rfl) (by kernel_rfl) (fun x => by kernel_rfl)
noncomputable def c_tree_index : Con Tt := ⟨50, (sh [(.sl 2)]), (sh [(.own 100 (sh [(.sl 2), (.gen 5), (.gen 5), (.gen 5)]))]), 1, [], [], fun x => tree_index x⟩
theorem tree_index_ok : ConOk Tryz.prog tbl c_tree_index := fn_ok (cs := []) (an := [([1, 1, 0, 1, 0], .loop 0 ⟨[16], [(3, 100)], (sh [.i64, (.agg (sh [(.sl 2), (.gen 5), (.gen 5), (.gen 5)]))]), [3, 14, 15], []⟩ ⟨[], [(3, 100)], (sh [(.agg (sh [(.sl 2), (.gen 5), (.gen 5), (.gen 5)]))]), [3], []⟩), ([1, 1, 0, 1, 0, 0, 1, 1, 0, 0, 1, 0, 0], .lock [3, 7]), ([1, 1, 0, 1, 0, 0, 1, 1, 0, 0, 1, 0, 1, 1], .join ⟨[], [(3, 100)], (sh [(.agg (sh [(.sl 2), (.gen 5), (.gen 5), (.gen 5)]))]), [3, 5, 14, 15, 16], [7]⟩), ([1, 1, 0, 1, 0, 0, 1, 1, 0, 0, 1, 0, 1, 1, 0], .lock [3, 7]), ([1, 1, 0, 1, 0, 0, 1, 1, 0, 0, 1, 1, 0, 1, 0], .lock [3, 7]), ([1, 1, 0, 1, 0, 0, 1, 1, 0, 0, 1, 1, 0, 1, 1, 1, 0], .lock [3, 7])]) (fn := Tryz.f50) tOk conNil (by rfl) Tryz.func50 (by kernel_rfl) (fun _ _ => by rfl) (fun _ => by kernel_rfl) (by kernel_rfl) (fun x => by kernel_rfl)
noncomputable def c_tree_between : Con Tt := ⟨128, (sh [.i64, .i64, .i64]), (sh [.bool]), 1, [], [], fun x => tree_between x.1 x.2.1 x.2.2⟩
theorem tree_between_ok : ConOk Tryz.prog tbl c_tree_between := fn_ok (cs := []) (an := []) (fn := Tryz.f128) tOk conNil (by rfl) Tryz.func128 (by kernel_rfl) (fun _ _ => by rfl) (fun _ => by kernel_rfl) (by kernel_rfl) (fun x => by kernel_rfl)
noncomputable def c_ctb : Con Tt := ⟨195, (sh [.str, .u8]), (sh [.i64]), 1, [], [], fun x => ctb x.1 x.2⟩
theorem ctbC_ok : ConOk Tryz.prog tbl c_ctb := E.ctb_ok Tryz.func195 (by kernel_rfl) (by kernel_rfl) (by kernel_rfl) (by kernel_rfl)
noncomputable def c_strings_Count : Con Tt := ⟨160, (sh [.str, (.lit [47])]), (sh [.i64]), 1, [], [], fun x => strings_Count x.1⟩
theorem strings_Count_ok : ConOk Tryz.prog tbl c_strings_Count := fn_ok (cs := [c_ctb]) (an := []) (fn := Tryz.f160) tOk (conCons ctbC_ok conNil) (by rfl) Tryz.func160 (by kernel_rfl) (fun _ _ => by rfl) (fun _ => by kernel_rfl) (by kernel_rfl) (fun x => by kernel_rfl)
noncomputable def c_ixb : Con Tt := ⟨216, (sh [.str, .u8]), (sh [.i64]), 1, [], [], fun x => ixb x.1 x.2⟩
theorem ixbC_ok : ConOk Tryz.prog tbl c_ixb := E.ixb_ok Tryz.func216 (by kernel_rfl) (by kernel_rfl) (by kernel_rfl) (by kernel_rfl)
noncomputable def c_internal_stringslite_IndexByte : Con Tt := ⟨205, (sh [.str, .u8]), (sh [.i64]), 1, [], [], fun x => internal_stringslite_IndexByte x.1 x.2⟩
theorem internal_stringslite_IndexByte_ok : ConOk Tryz.prog tbl c_internal_stringslite_IndexByte := fn_ok (cs := [c_ixb]) (an := []) (fn := Tryz.f205) tOk (conCons ixbC_ok conNil) (by rfl) Tryz.func205 (by kernel_rfl) (fun _ _ => by rfl) (fun _ => by kernel_rfl) (by kernel_rfl) (fun x => by kernel_rfl)
noncomputable def c_internal_stringslite_Index : Con Tt := ⟨196, (sh [.str, (.lit [47])]), (sh [.i64]), 1, [], [], fun x => internal_stringslite_Index x.1⟩
theorem internal_stringslite_Index_ok : ConOk Tryz.prog tbl c_internal_stringslite_Index := fn_ok (cs := [c_internal_stringslite_IndexByte]) (an := []) (fn := Tryz.f196) tOk (conCons internal_stringslite_IndexByte_ok conNil) (by rfl) Tryz.func196 (by kernel_rfl) (fun _ _ => by rfl) (fun _ => by kernel_rfl) (by kernel_rfl) (fun x => by kernel_rfl)
noncomputable def c_strings_Index : Con Tt := ⟨161, (sh [.str, (.lit [47])]), (sh [.i64]), 1, [], [], fun x => strings_Index x.1⟩
theorem strings_Index_ok : ConOk Tryz.prog tbl c_strings_Index := fn_ok (cs := [c_internal_stringslite_Index]) (an := []) (fn := Tryz.f161) tOk (conCons internal_stringslite_Index_ok conNil) (by rfl) Tryz.func161 (by kernel_rfl) (fun _ _ => by rfl) (fun _ => by kernel_rfl) (by kernel_rfl) (fun x => by kernel_rfl)
noncomputable def c_strings_genSplit : Con Tt := ⟨138, (sh [.str, (.lit [47]), .i64, .i64]), (sh [(.sl 6)]), 1, [], [], fun x => strings_genSplit x.1 x.2.2.1 x.2.2.2⟩
theorem strings_genSplit_ok : ConOk Tryz.prog tbl c_strings_genSplit := fn_ok (cs := [c_strings_Count, c_strings_Index]) (an := [([1, 1, 1, 0, 1], .join ⟨[3], [], (sh [.i64]), [0, 1, 2], []⟩), ([1, 1, 1, 1, 1, 1, 1, 1, 0, 0], .loop 0 ⟨[0, 9, 10], [], (sh [.str, (.row 6 9), .i64]), [1, 2, 3], []⟩ ⟨[0, 9, 10], [], (sh [.str, (.row 6 9), .i64]), [], []⟩)]) (fn := Tryz.f138) tOk (conCons strings_Count_ok (conCons strings_Index_ok conNil)) (by rfl) Tryz.func138 (by kernel_rfl) (fun _ _ => by rfl) (fun _ => by kernel_rfl) (by kernel_rfl) (fun x => by kernel_rfl)
noncomputable def c_strings_Split : Con Tt := ⟨91, (sh [.str, (.lit [47])]), (sh [(.sl 6)]), 1, [], [], fun x => strings_Split x.1⟩
theorem strings_Split_ok : ConOk Tryz.prog tbl c_strings_Split := fn_ok (cs := [c_strings_genSplit]) (an := []) (fn := Tryz.f91) tOk (conCons strings_genSplit_ok conNil) (by rfl) Tryz.func91 (by kernel_rfl) (fun _ _ => by rfl) (fun _ => by kernel_rfl) (by kernel_rfl) (fun x => by kernel_rfl)
noncomputable def c_strings_IndexByte : Con Tt := ⟨181, (sh [.str, .u8]), (sh [.i64]), 1, [], [], fun x => strings_IndexByte x.1 x.2⟩
theorem strings_IndexByte_ok : ConOk Tryz.prog tbl c_strings_IndexByte := fn_ok (cs := [c_internal_stringslite_IndexByte]) (an := []) (fn := Tryz.f181) tOk (conCons internal_stringslite_IndexByte_ok conNil) (by rfl) Tryz.func181 (by kernel_rfl) (fun _ _ => by rfl) (fun _ => by kernel_rfl) (by kernel_rfl) (fun x => by kernel_rfl)
noncomputable def c_name_Valid : Con Tt := ⟨149, (sh [.str]), (sh [.bool]), 1, [], [], fun x => name_Valid x⟩
theorem name_Valid_ok : ConOk Tryz.prog tbl c_name_Valid := fn_ok (cs := [c_strings_IndexByte]) (an := []) (fn := Tryz.f149) tOk (conCons strings_IndexByte_ok conNil) (by rfl) Tryz.func149 (by kernel_rfl) (fun _ _ => by rfl) (fun _ => by kernel_rfl) (by kernel_rfl) (fun x => by kernel_rfl)
noncomputable def c_tree_path_1 : Con Tt := ⟨148, (sh [.str]), (sh [.bool]), 1, [], [], fun x => tree_path_1 x⟩
theorem tree_path_1_ok : ConOk Tryz.prog tbl c_tree_path_1 := fn_ok (cs := [c_name_Valid]) (an := []) (fn := Tryz.f148) tOk (conCons name_Valid_ok conNil) (by rfl) Tryz.func148 (by kernel_rfl) (fun _ _ => by rfl) (fun _ => by kernel_rfl) (by kernel_rfl) (fun x => by kernel_rfl)
noncomputable def c_slices_IndexFunc_string_string : Con Tt := ⟨180, (sh [(.sl 6), (.fn 148 0 (sh []))]), (sh [.i64]), 1, [], [], fun x => slices_IndexFunc_string_string x.1⟩
theorem slices_IndexFunc_string_string_ok : ConOk Tryz.prog tbl c_slices_IndexFunc_string_string := fn_ok (cs := [c_tree_path_1]) (an := [([1, 0, 1, 0], .loop 0 ⟨[8], [], (sh [.i64]), [0, 1, 7], []⟩ ⟨[], [], (sh []), [], []⟩)]) (fn := Tryz.f180) tOk (conCons tree_path_1_ok conNil) (by rfl) Tryz.func180 (by kernel_rfl) (fun _ _ => by rfl) (fun _ => by kernel_rfl) (by kernel_rfl) (fun x => by kernel_rfl)
noncomputable def c_slices_ContainsFunc_string_string : Con Tt := ⟨147, (sh [(.sl 6), (.fn 148 0 (sh []))]), (sh [.bool]), 1, [], [], fun x => slices_ContainsFunc_string_string x.1⟩
theorem slices_ContainsFunc_string_string_ok : ConOk Tryz.prog tbl c_slices_ContainsFunc_string_string := fn_ok (cs := [c_slices_IndexFunc_string_string]) (an := []) (fn := Tryz.f147) tOk (conCons slices_IndexFunc_string_string_ok conNil) (by rfl) Tryz.func147 (by kernel_rfl) (fun _ _ => by rfl) (fun _ => by kernel_rfl) (by kernel_rfl) (fun x => by kernel_rfl)
noncomputable def c_tree_path : Con Tt := ⟨129, (sh [(.agg (sh [.str, .i64, .i64, .i64, .i64, .i64, .i64, (.sl 1), .str, .i64, (.sl 3)]))]), (sh [.i64]), 1, [], [], fun x => tree_path x.1 x.2.1 x.2.2.1 x.2.2.2.1 x.2.2.2.2.1 x.2.2.2.2.2.1 x.2.2.2.2.2.2.1 x.2.2.2.2.2.2.2.1 x.2.2.2.2.2.2.2.2.1 x.2.2.2.2.2.2.2.2.2.1 x.2.2.2.2.2.2.2.2.2.2⟩
theorem tree_path_ok : ConOk Tryz.prog tbl c_tree_path := fn_ok (cs := [c_strings_Split, c_slices_ContainsFunc_string_string]) (an := []) (fn := Tryz.f129) tOk (conCons strings_Split_ok (conCons slices_ContainsFunc_string_string_ok conNil)) (by rfl) Tryz.func129 (by kernel_rfl) (fun _ _ => by rfl) (fun _ => by kernel_rfl) (by kernel_rfl) (fun x => by kernel_rfl)
noncomputable def c_internal_bytealg_LastIndexByteString : Con Tt := ⟨142, (sh [.str, .u8]), (sh [.i64]), 1, [], [], fun x => internal_bytealg_LastIndexByteString x.1 x.2⟩
theorem internal_bytealg_LastIndexByteString_ok : ConOk Tryz.prog tbl c_internal_bytealg_LastIndexByteString := fn_ok (cs := []) (an := [([1, 0, 1, 0], .loop 0 ⟨[5], [], (sh [.i64]), [0, 1], []⟩ ⟨[], [], (sh []), [], []⟩)]) (fn := Tryz.f142) tOk conNil (by rfl) Tryz.func142 (by kernel_rfl) (fun _ _ => by rfl) (fun _ => by kernel_rfl) (by kernel_rfl) (fun x => by kernel_rfl)
noncomputable def c_strings_LastIndexByte : Con Tt := ⟨95, (sh [.str, .u8]), (sh [.i64]), 1, [], [], fun x => strings_LastIndexByte x.1 x.2⟩
theorem strings_LastIndexByte_ok : ConOk Tryz.prog tbl c_strings_LastIndexByte := fn_ok (cs := [c_internal_bytealg_LastIndexByteString]) (an := []) (fn := Tryz.f95) tOk (conCons internal_bytealg_LastIndexByteString_ok conNil) (by rfl) Tryz.func95 (by kernel_rfl) (fun _ _ => by rfl) (fun _ => by kernel_rfl) (by kernel_rfl) (fun x => by kernel_rfl)
noncomputable def c_tree_above : Con Tt := ⟨54, (sh [.str]), (sh [.str, .bool]), 2, [], [], fun x => tree_above x⟩
theorem tree_above_ok : ConOk Tryz.prog tbl c_tree_above := fn_ok (cs := [c_strings_LastIndexByte]) (an := []) (fn := Tryz.f54) tOk (conCons strings_LastIndexByte_ok conNil) (by rfl) Tryz.func54 (by kernel_rfl) (fun _ _ => by rfl) (fun _ => by kernel_rfl) (by kernel_rfl) (fun x => by kernel_rfl)
noncomputable def c_tree_text : Con Tt := ⟨150, (sh [.str, .i64, .i64]), (sh [.bool]), 1, [], [], fun x => tree_text x.1 x.2.1 x.2.2⟩
theorem tree_text_ok : ConOk Tryz.prog tbl c_tree_text := fn_ok (cs := [c_tree_between, c_strings_IndexByte]) (an := []) (fn := Tryz.f150) tOk (conCons tree_between_ok (conCons strings_IndexByte_ok conNil)) (by rfl) Tryz.func150 (by kernel_rfl) (fun _ _ => by rfl) (fun _ => by kernel_rfl) (by kernel_rfl) (fun x => by kernel_rfl)
noncomputable def c_tree_fields_1 : Con Tt := ⟨152, (sh [(.agg (sh [.str, (.sl 1)]))]), (sh [.bool]), 1, [], [], fun x => tree_fields_1 x.1 x.2⟩
theorem tree_fields_1_ok : ConOk Tryz.prog tbl c_tree_fields_1 := fn_ok (cs := [c_tree_text]) (an := []) (fn := Tryz.f152) tOk (conCons tree_text_ok conNil) (by rfl) Tryz.func152 (by kernel_rfl) (fun _ _ => by rfl) (fun _ => by kernel_rfl) (by kernel_rfl) (fun x => by kernel_rfl)
noncomputable def c_slices_IndexFunc_portmanteau_api_Attr_portmanteau_api_Attr : Con Tt := ⟨182, (sh [(.sl 3), (.fn 152 0 (sh []))]), (sh [.i64]), 1, [], [], fun x => slices_IndexFunc_portmanteau_api_Attr_portmanteau_api_Attr x.1⟩
theorem slices_IndexFunc_portmanteau_api_Attr_portmanteau_api_Attr_ok : ConOk Tryz.prog tbl c_slices_IndexFunc_portmanteau_api_Attr_portmanteau_api_Attr := fn_ok (cs := [c_tree_fields_1]) (an := [([1, 0, 1, 0], .loop 0 ⟨[8], [], (sh [.i64]), [0, 1, 7], []⟩ ⟨[], [], (sh []), [], []⟩)]) (fn := Tryz.f182) tOk (conCons tree_fields_1_ok conNil) (by rfl) Tryz.func182 (by kernel_rfl) (fun _ _ => by rfl) (fun _ => by kernel_rfl) (by kernel_rfl) (fun x => by kernel_rfl)
noncomputable def c_slices_ContainsFunc_portmanteau_api_Attr_portmanteau_api_Attr : Con Tt := ⟨151, (sh [(.sl 3), (.fn 152 0 (sh []))]), (sh [.bool]), 1, [], [], fun x => slices_ContainsFunc_portmanteau_api_Attr_portmanteau_api_Attr x.1⟩
theorem slices_ContainsFunc_portmanteau_api_Attr_portmanteau_api_Attr_ok : ConOk Tryz.prog tbl c_slices_ContainsFunc_portmanteau_api_Attr_portmanteau_api_Attr := fn_ok (cs := [c_slices_IndexFunc_portmanteau_api_Attr_portmanteau_api_Attr]) (an := []) (fn := Tryz.f151) tOk (conCons slices_IndexFunc_portmanteau_api_Attr_portmanteau_api_Attr_ok conNil) (by rfl) Tryz.func151 (by kernel_rfl) (fun _ _ => by rfl) (fun _ => by kernel_rfl) (by kernel_rfl) (fun x => by kernel_rfl)
noncomputable def c_tree_fields_2 : Con Tt := ⟨153, (sh [(.agg (sh [.str, (.sl 1)])), (.own 51 (sh [.str, (.sl 1)]))]), (sh [.bool, (.agg (sh [.str, (.sl 1)]))]), 1, [(1, 51)], [], fun x => tree_fields_2 x.1.1 x.1.2 x.2.1 x.2.2⟩
theorem tree_fields_2_ok : ConOk Tryz.prog tbl c_tree_fields_2 := fn_ok (cs := []) (an := []) (fn := Tryz.f153) tOk conNil (by rfl) Tryz.func153 (by kernel_rfl) (fun _ _ => by rfl) (fun _ => by kernel_rfl) (by kernel_rfl) (fun x => by kernel_rfl)
noncomputable def c_slices_IndexFunc_portmanteau_api_Attr_portmanteau_api_Attr_2 : Con Tt := ⟨182, (sh [(.sl 3), (.fn 153 0 (sh [(.own 51 (sh [.str, (.sl 1)]))]))]), (sh [.i64]), 1, [], [], fun x => slices_IndexFunc_portmanteau_api_Attr_portmanteau_api_Attr_2 x.1 x.2.1 x.2.2⟩
theorem slices_IndexFunc_portmanteau_api_Attr_portmanteau_api_Attr_2_ok : ConOk Tryz.prog tbl c_slices_IndexFunc_portmanteau_api_Attr_portmanteau_api_Attr_2 := fn_ok (cs := [c_tree_fields_2]) (an := [([1, 0, 1, 0], .loop 0 ⟨[8], [(0, 51)], (sh [.i64, (.agg (sh [.str, (.sl 1)]))]), [0, 1, 7], []⟩ ⟨[], [], (sh []), [], []⟩)]) (fn := Tryz.f182) tOk (conCons tree_fields_2_ok conNil) (by rfl) Tryz.func182 (by kernel_rfl) (fun _ _ => by rfl) (fun _ => by kernel_rfl) (by kernel_rfl) (fun x => by kernel_rfl)
noncomputable def c_slices_ContainsFunc_portmanteau_api_Attr_portmanteau_api_Attr_2 : Con Tt := ⟨151, (sh [(.sl 3), (.fn 153 0 (sh [(.own 51 (sh [.str, (.sl 1)]))]))]), (sh [.bool]), 1, [], [], fun x => slices_ContainsFunc_portmanteau_api_Attr_portmanteau_api_Attr_2 x.1 x.2.1 x.2.2⟩
theorem slices_ContainsFunc_portmanteau_api_Attr_portmanteau_api_Attr_2_ok : ConOk Tryz.prog tbl c_slices_ContainsFunc_portmanteau_api_Attr_portmanteau_api_Attr_2 := fn_ok (cs := [c_slices_IndexFunc_portmanteau_api_Attr_portmanteau_api_Attr_2]) (an := []) (fn := Tryz.f151) tOk (conCons slices_IndexFunc_portmanteau_api_Attr_portmanteau_api_Attr_2_ok conNil) (by rfl) Tryz.func151 (by kernel_rfl) (fun _ _ => by rfl) (fun _ => by kernel_rfl) (by kernel_rfl) (fun x => by kernel_rfl)
noncomputable def c_tree_fields : Con Tt := ⟨130, (sh [(.agg (sh [.str, .i64, .i64, .i64, .i64, .i64, .i64, (.sl 1), .str, .i64, (.sl 3)]))]), (sh [.i64]), 1, [], [], fun x => tree_fields x.1 x.2.1 x.2.2.1 x.2.2.2.1 x.2.2.2.2.1 x.2.2.2.2.2.1 x.2.2.2.2.2.2.1 x.2.2.2.2.2.2.2.1 x.2.2.2.2.2.2.2.2.1 x.2.2.2.2.2.2.2.2.2.1 x.2.2.2.2.2.2.2.2.2.2⟩
theorem tree_fields_ok : ConOk Tryz.prog tbl c_tree_fields := fn_ok (cs := [c_tree_between, c_tree_text, c_slices_ContainsFunc_portmanteau_api_Attr_portmanteau_api_Attr, c_slices_ContainsFunc_portmanteau_api_Attr_portmanteau_api_Attr_2]) (an := [([1, 0], .join ⟨[3], [], (sh [.bool]), [1], [0]⟩), ([1, 1, 0, 1, 0, 1], .join ⟨[3], [], (sh [.bool]), [1], [0]⟩), ([1, 1, 0, 1, 0, 1, 0], .join ⟨[3], [], (sh [.bool]), [1], [0]⟩), ([1, 1, 0, 1, 0, 1, 1, 1], .join ⟨[3], [], (sh [.bool]), [1], [0]⟩), ([1, 1, 0, 1, 0, 1, 1, 1, 0], .join ⟨[3], [], (sh [.bool]), [1], [0]⟩), ([1, 1, 0, 1, 0, 1, 1, 1, 1, 0, 1], .join ⟨[45], [], (sh [.bool]), [1, 3], [0]⟩), ([1, 1, 0, 1, 0, 1, 1, 1, 1, 1], .join ⟨[3], [], (sh [.bool]), [1], [0]⟩), ([1, 1, 0, 1, 0, 1, 1, 1, 1, 1, 0], .join ⟨[3], [], (sh [.bool]), [1], [0]⟩), ([1, 1, 1, 0], .join ⟨[3], [], (sh [.bool]), [1], [0]⟩), ([1, 1, 1, 1, 0, 0], .join ⟨[67], [], (sh [.bool]), [1], [0]⟩), ([1, 1, 1, 1, 1, 0, 1, 0], .loop 1 ⟨[71], [], (sh [.i64]), [1, 69, 70], [0]⟩ ⟨[], [], (sh []), [], [0]⟩)]) (fn := Tryz.f130) tOk (conCons tree_between_ok (conCons tree_text_ok (conCons slices_ContainsFunc_portmanteau_api_Attr_portmanteau_api_Attr_ok (conCons slices_ContainsFunc_portmanteau_api_Attr_portmanteau_api_Attr_2_ok conNil)))) (by rfl) Tryz.func130 (by kernel_rfl) (fun _ _ => by rfl) (fun _ => by kernel_rfl) (by kernel_rfl) (fun x => by kernel_rfl)
noncomputable def c_tree_checker_entry : Con Tt := ⟨85, (sh [(.own 100 (sh [(.sl 2), (.gen 5), (.gen 5), (.gen 5)])), .i64]), (sh [.i64, (.agg (sh [(.sl 2), (.gen 5), (.gen 5), (.gen 5)]))]), 1, [(0, 100)], [], fun x => tree_checker_entry x.1.1 x.1.2.1 x.1.2.2.1 x.1.2.2.2 x.2⟩
theorem tree_checker_entry_ok : ConOk Tryz.prog tbl c_tree_checker_entry := fn_ok (cs := [c_tree_between, c_tree_path, c_tree_above, c_tree_fields]) (an := [([1, 1, 1, 1, 0, 0], .lock [0, 4]), ([1, 1, 1, 1, 1, 0, 1, 0], .join ⟨[49], [], (sh [.bool]), [0, 5], [0, 1, 2, 3, 4]⟩), ([1, 1, 1, 1, 1, 1, 0, 1, 0, 0, 0], .lock [0, 4])]) (fn := Tryz.f85) tOk (conCons tree_between_ok (conCons tree_path_ok (conCons tree_above_ok (conCons tree_fields_ok conNil)))) (by rfl) Tryz.func85 (by kernel_rfl) (fun _ _ => by rfl) (fun _ => by kernel_rfl) (by kernel_rfl) (fun x => by kernel_rfl)
noncomputable def c_tree_Check : Con Tt := ⟨49, (sh [(.sl 2)]), (sh [.i64, .i64]), 2, [], [], fun x => tree_Check x⟩
theorem tree_Check_ok : ConOk Tryz.prog tbl c_tree_Check := fn_ok (cs := [c_tree_index, c_tree_checker_entry]) (an := [([1, 1, 1, 0, 1, 0], .loop 0 ⟨[4, 15], [], (sh [.i64, .i64]), [0, 13, 14], []⟩ ⟨[], [], (sh []), [0], []⟩), ([1, 1, 1, 0, 1, 0, 0, 1, 1, 0, 0, 1, 0, 0], .join ⟨[28], [], (sh [.bool]), [0, 4, 6, 13, 14, 15], [0]⟩), ([1, 1, 1, 1, 1, 0, 1, 0], .loop 2 ⟨[42], [(0, 100)], (sh [.i64, (.agg (sh [(.sl 2), (.gen 5), (.gen 5), (.gen 5)]))]), [7, 41], []⟩ ⟨[], [], (sh []), [], []⟩)]) (fn := Tryz.f49) tOk (conCons tree_index_ok (conCons tree_checker_entry_ok conNil)) (by rfl) Tryz.func49 (by kernel_rfl) (fun _ _ => by rfl) (fun _ => by kernel_rfl) (by kernel_rfl) (fun x => by kernel_rfl)
noncomputable def c_tree_root_1 : Con Tt := ⟨90, (sh [(.agg (sh [.str, .i64, .i64, .i64, .i64, .i64, .i64, (.sl 1), .str, .i64, (.sl 3)]))]), (sh [.bool]), 1, [], [], fun x => tree_root_1 x.1 x.2.1 x.2.2.1 x.2.2.2.1 x.2.2.2.2.1 x.2.2.2.2.2.1 x.2.2.2.2.2.2.1 x.2.2.2.2.2.2.2.1 x.2.2.2.2.2.2.2.2.1 x.2.2.2.2.2.2.2.2.2.1 x.2.2.2.2.2.2.2.2.2.2⟩
theorem tree_root_1_ok : ConOk Tryz.prog tbl c_tree_root_1 := fn_ok (cs := []) (an := []) (fn := Tryz.f90) tOk conNil (by rfl) Tryz.func90 (by kernel_rfl) (fun _ _ => by rfl) (fun _ => by kernel_rfl) (by kernel_rfl) (fun x => by kernel_rfl)
noncomputable def c_slices_IndexFunc_portmanteau_api_Entry_portmanteau_api_Entry : Con Tt := ⟨89, (sh [(.sl 2), (.fn 90 0 (sh []))]), (sh [.i64]), 1, [], [], fun x => slices_IndexFunc_portmanteau_api_Entry_portmanteau_api_Entry x.1⟩
theorem slices_IndexFunc_portmanteau_api_Entry_portmanteau_api_Entry_ok : ConOk Tryz.prog tbl c_slices_IndexFunc_portmanteau_api_Entry_portmanteau_api_Entry := fn_ok (cs := [c_tree_root_1]) (an := [([1, 0, 1, 0], .loop 0 ⟨[8], [], (sh [.i64]), [0, 1, 7], []⟩ ⟨[], [], (sh []), [], []⟩)]) (fn := Tryz.f89) tOk (conCons tree_root_1_ok conNil) (by rfl) Tryz.func89 (by kernel_rfl) (fun _ _ => by rfl) (fun _ => by kernel_rfl) (by kernel_rfl) (fun x => by kernel_rfl)
noncomputable def c_tree_root : Con Tt := ⟨52, (sh [(.sl 2)]), (sh [(.agg (sh [.str, .i64, .i64, .i64, .i64, .i64, .i64, (.sl 1), .str, .i64, (.sl 3)]))]), 1, [], [], fun x => tree_root x⟩
theorem tree_root_ok : ConOk Tryz.prog tbl c_tree_root := fn_ok (cs := [c_slices_IndexFunc_portmanteau_api_Entry_portmanteau_api_Entry]) (an := []) (fn := Tryz.f52) tOk (conCons slices_IndexFunc_portmanteau_api_Entry_portmanteau_api_Entry_ok conNil) (by rfl) Tryz.func52 (by kernel_rfl) (fun _ _ => by rfl) (fun _ => by kernel_rfl) (by kernel_rfl) (fun x => by kernel_rfl)
noncomputable def c_bytes_Clone_w : Con Tt := ⟨87, (sh [(.sl 1)]), (sh [(.row 1 5)]), 1, [], [], fun x => bytes_Clone_w x⟩
theorem bytes_Clone_w_ok : ConOk Tryz.prog tbl c_bytes_Clone_w := fn_ok (cs := []) (an := []) (fn := Tryz.f87) tOk conNil (by rfl) Tryz.func87 (by kernel_rfl) (fun _ _ => by rfl) (fun _ => by kernel_rfl) (by kernel_rfl) (fun x => by kernel_rfl)
noncomputable def c_bytes_Clone : Con Tt := ⟨87, (sh [(.sl 1)]), (sh [(.row 1 5)]), 1, [], [], fun x => bytes_Clone x⟩
theorem bytes_Clone_ok : ConOk Tryz.prog tbl c_bytes_Clone := ConOk.congr bytes_Clone_w_ok (fun x => clone_eq x)
noncomputable def c_cmp_isNaN_string : Con Tt := ⟨155, (sh [.str]), (sh [.bool]), 1, [], [], fun x => cmp_isNaN_string x⟩
theorem cmp_isNaN_string_ok : ConOk Tryz.prog tbl c_cmp_isNaN_string := fn_ok (cs := []) (an := []) (fn := Tryz.f155) tOk conNil (by rfl) Tryz.func155 (by kernel_rfl) (fun _ _ => by rfl) (fun _ => by kernel_rfl) (by kernel_rfl) (fun x => by kernel_rfl)
noncomputable def c_cmp_Compare_string : Con Tt := ⟨133, (sh [.str, .str]), (sh [.i64]), 1, [], [], fun x => cmp_Compare_string x.1 x.2⟩
theorem cmp_Compare_string_ok : ConOk Tryz.prog tbl c_cmp_Compare_string := fn_ok (cs := [c_cmp_isNaN_string]) (an := []) (fn := Tryz.f133) tOk (conCons cmp_isNaN_string_ok conNil) (by rfl) Tryz.func133 (by kernel_rfl) (fun _ _ => by rfl) (fun _ => by kernel_rfl) (by kernel_rfl) (fun x => by kernel_rfl)
noncomputable def c_tree_attrs_1 : Con Tt := ⟨132, (sh [(.agg (sh [.str, (.sl 1)])), (.agg (sh [.str, (.sl 1)]))]), (sh [.i64]), 1, [], [], fun x => tree_attrs_1 x.1.1 x.1.2 x.2.1 x.2.2⟩
theorem tree_attrs_1_ok : ConOk Tryz.prog tbl c_tree_attrs_1 := fn_ok (cs := [c_cmp_Compare_string]) (an := []) (fn := Tryz.f132) tOk (conCons cmp_Compare_string_ok conNil) (by rfl) Tryz.func132 (by kernel_rfl) (fun _ _ => by rfl) (fun _ => by kernel_rfl) (by kernel_rfl) (fun x => by kernel_rfl)
noncomputable def c_sort_Attr : Con Tt := ⟨131, (sh [(.row 3 51), (.fn 132 0 (sh []))]), (sh [(.row 3 51)]), 0, [], [0], fun x => sort_Attr x.1⟩
theorem sort_Attr_cmp : CmpOk Tryz.prog tbl 132 3 (fun x y => tree_attrs_1 x.Name x.Value y.Name y.Value) := fun x y v h m w cs ds hm hg hx hy => by
  refine (ConOk.plain tree_attrs_1_ok Tryz.call132 hm hg ((x.Name, x.Value), (y.Name, y.Value)) [.agg cs.toArray, .agg ds.toArray] ⟨_, _, rfl, ⟨cs, rfl, tOk.ex hx⟩, _, _, rfl, ⟨ds, rfl, tOk.ex hy⟩, rfl⟩ rfl rfl h [.int .i64 v] rfl (fun η m vs hr => ?_)).mono ?_
  · obtain ⟨u, rfl, e⟩ := RL.one (show RL tbl η m [.i64 v] vs from hr)
    rw [show u = _ from e]
  · rintro e w' ⟨u, rfl, rfl, hex⟩
    exact ⟨rfl, hex⟩
theorem sort_Attr_ok : ConOk Tryz.prog tbl c_sort_Attr := sort_ok (n := 3) tOk laysAttr (by rfl) Tryz.isAgg51 Tryz.sizeOf51 (by decide) (fun _ _ => by rfl) (fun _ _ => by rfl) (fun l l' h => sortBy_spec (α := TApiAttr) h) sort_Attr_cmp
noncomputable def c_tree_attrs : Con Tt := ⟨86, (sh [(.sl 3)]), (sh [(.row 3 51)]), 1, [], [], fun x => tree_attrs x⟩
theorem tree_attrs_ok : ConOk Tryz.prog tbl c_tree_attrs := fn_ok (cs := [c_bytes_Clone, c_sort_Attr]) (an := [([1, 1, 0, 1, 0], .loop 0 ⟨[3, 8], [], (sh [(.row 3 51), .i64]), [6, 7], []⟩ ⟨[3], [], (sh [(.row 3 51)]), [], []⟩), ([1, 1, 0, 1, 0, 0, 1, 1, 0, 0, 1], .lock [1])]) (fn := Tryz.f86) tOk (conCons bytes_Clone_ok (conCons sort_Attr_ok conNil)) (by rfl) Tryz.func86 (by kernel_rfl) (fun _ _ => by rfl) (fun _ => by kernel_rfl) (by kernel_rfl) (fun x => by kernel_rfl)
noncomputable def c_bytes_trimRightByte : Con Tt := ⟨134, (sh [(.sl 1), .u8]), (sh [(.sl 1)]), 1, [], [], fun x => bytes_trimRightByte x.1 x.2⟩
theorem bytes_trimRightByte_ok : ConOk Tryz.prog tbl c_bytes_trimRightByte := fn_ok (cs := []) (an := [([1, 0, 0], .loop 0 ⟨[0], [], (sh [(.sl 1)]), [1], []⟩ ⟨[0], [], (sh [(.sl 1)]), [], []⟩)]) (fn := Tryz.f134) tOk conNil (by rfl) Tryz.func134 (by kernel_rfl) (fun _ _ => by rfl) (fun _ => by kernel_rfl) (by kernel_rfl) (fun x => by kernel_rfl)
noncomputable def c_bytes_TrimRight : Con Tt := ⟨88, (sh [(.sl 1), (.lit [0])]), (sh [(.sl 1)]), 1, [], [], fun x => bytes_TrimRight x.1⟩
theorem bytes_TrimRight_ok : ConOk Tryz.prog tbl c_bytes_TrimRight := fn_ok (cs := [c_bytes_trimRightByte]) (an := [([1, 0, 0], .join ⟨[13], [], (sh [.bool]), [0, 1], []⟩)]) (fn := Tryz.f88) tOk (conCons bytes_trimRightByte_ok conNil) (by rfl) Tryz.func88 (by kernel_rfl) (fun _ _ => by rfl) (fun _ => by kernel_rfl) (by kernel_rfl) (fun x => by kernel_rfl)
noncomputable def c_tree_node : Con Tt := ⟨51, (sh [(.agg (sh [.str, .i64, .i64, .i64, .i64, .i64, .i64, (.sl 1), .str, .i64, (.sl 3)]))]), (sh [(.agg (sh [.i64, .i64, .i64, .i64, .i64, .i64, (.sl 1), .str, .i64, (.sl 3), (.row 7 53), .i64, .i64]))]), 1, [], [], fun x => tree_node x.1 x.2.1 x.2.2.1 x.2.2.2.1 x.2.2.2.2.1 x.2.2.2.2.2.1 x.2.2.2.2.2.2.1 x.2.2.2.2.2.2.2.1 x.2.2.2.2.2.2.2.2.1 x.2.2.2.2.2.2.2.2.2.1 x.2.2.2.2.2.2.2.2.2.2⟩
theorem tree_node_ok : ConOk Tryz.prog tbl c_tree_node := fn_ok (cs := [c_tree_attrs, c_bytes_TrimRight, c_bytes_Clone]) (an := [([1, 0], .lockJ [0] ⟨[3], [], (sh [(.own 49 (sh [.i64, .i64, .i64, .i64, .i64, .i64, (.row 1 5), .str, .i64, (.row 3 51), (.row 7 53), .i64, .i64]))]), [1, 2], [0, 1]⟩)]) (fn := Tryz.f51) tOk (conCons tree_attrs_ok (conCons bytes_TrimRight_ok (conCons bytes_Clone_ok conNil))) (by rfl) Tryz.func51 (by kernel_rfl) (fun _ _ => by rfl) (fun _ => by kernel_rfl) (by kernel_rfl) (fun x => by kernel_rfl)
noncomputable def c_slices_Compare_string_string : Con Tt := ⟨141, (sh [(.sl 6), (.sl 6)]), (sh [.i64]), 1, [], [], fun x => slices_Compare_string_string x.1 x.2⟩
theorem slices_Compare_string_string_ok : ConOk Tryz.prog tbl c_slices_Compare_string_string := fn_ok (cs := [c_cmp_Compare_string]) (an := [([1, 0, 1, 0], .loop 0 ⟨[11], [], (sh [.i64]), [0, 1, 9, 10], []⟩ ⟨[], [], (sh []), [0, 1], []⟩)]) (fn := Tryz.f141) tOk (conCons cmp_Compare_string_ok conNil) (by rfl) Tryz.func141 (by kernel_rfl) (fun _ _ => by rfl) (fun _ => by kernel_rfl) (by kernel_rfl) (fun x => by kernel_rfl)
noncomputable def c_name_Order : Con Tt := ⟨94, (sh [(.sl 6), (.sl 6)]), (sh [.i64]), 1, [], [], fun x => name_Order x.1 x.2⟩
theorem name_Order_ok : ConOk Tryz.prog tbl c_name_Order := fn_ok (cs := [c_slices_Compare_string_string]) (an := []) (fn := Tryz.f94) tOk (conCons slices_Compare_string_string_ok conNil) (by rfl) Tryz.func94 (by kernel_rfl) (fun _ _ => by rfl) (fun _ => by kernel_rfl) (by kernel_rfl) (fun x => by kernel_rfl)
noncomputable def c_tree_names_1 : Con Tt := ⟨93, (sh [(.agg (sh [(.sl 6), .str, .str])), (.agg (sh [(.sl 6), .str, .str]))]), (sh [.i64]), 1, [], [], fun x => tree_names_1 x.1.1 x.1.2.1 x.1.2.2 x.2.1 x.2.2.1 x.2.2.2⟩
theorem tree_names_1_ok : ConOk Tryz.prog tbl c_tree_names_1 := fn_ok (cs := [c_name_Order]) (an := []) (fn := Tryz.f93) tOk (conCons name_Order_ok conNil) (by rfl) Tryz.func93 (by kernel_rfl) (fun _ _ => by rfl) (fun _ => by kernel_rfl) (by kernel_rfl) (fun x => by kernel_rfl)
noncomputable def c_sort_Named : Con Tt := ⟨92, (sh [(.row 8 97), (.fn 93 0 (sh []))]), (sh [(.row 8 97)]), 0, [], [0], fun x => sort_Named x.1⟩
theorem sort_Named_cmp : CmpOk Tryz.prog tbl 93 8 (fun x y => tree_names_1 x.f_parts x.f_path x.f_of y.f_parts y.f_path y.f_of) := fun x y v h m w cs ds hm hg hx hy => by
  refine (ConOk.plain tree_names_1_ok Tryz.call93 hm hg ((x.f_parts, x.f_path, x.f_of), (y.f_parts, y.f_path, y.f_of)) [.agg cs.toArray, .agg ds.toArray] ⟨_, _, rfl, ⟨cs, rfl, tOk.ex hx⟩, _, _, rfl, ⟨ds, rfl, tOk.ex hy⟩, rfl⟩ rfl rfl h [.int .i64 v] rfl (fun η m vs hr => ?_)).mono ?_
  · obtain ⟨u, rfl, e⟩ := RL.one (show RL tbl η m [.i64 v] vs from hr)
    rw [show u = _ from e]
  · rintro e w' ⟨u, rfl, rfl, hex⟩
    exact ⟨rfl, hex⟩
theorem sort_Named_ok : ConOk Tryz.prog tbl c_sort_Named := sort_ok (n := 8) tOk laysNamed (by rfl) Tryz.isAgg97 Tryz.sizeOf97 (by decide) (fun _ _ => by rfl) (fun _ _ => by rfl) (fun l l' h => sortBy_spec (α := TTreeNamed) h) sort_Named_cmp
noncomputable def c_tree_names : Con Tt := ⟨53, (sh [(.sl 2)]), (sh [(.row 8 97)]), 1, [], [], fun x => tree_names x⟩
theorem tree_names_ok : ConOk Tryz.prog tbl c_tree_names := fn_ok (cs := [c_strings_Split, c_sort_Named]) (an := [([1, 1, 0, 1, 0], .loop 0 ⟨[3, 9], [], (sh [(.row 8 97), .i64]), [7, 8], []⟩ ⟨[3], [], (sh [(.row 8 97)]), [], []⟩), ([1, 1, 0, 1, 0, 0, 1, 1, 0, 0, 1, 1, 0], .lockJ [1] ⟨[6], [], (sh [(.own 97 (sh [(.sl 6), .str, .str]))]), [3, 5, 7, 8, 9], [0, 1]⟩)]) (fn := Tryz.f53) tOk (conCons strings_Split_ok (conCons sort_Named_ok conNil)) (by rfl) Tryz.func53 (by kernel_rfl) (fun _ _ => by rfl) (fun _ => by kernel_rfl) (by kernel_rfl) (fun x => by kernel_rfl)
noncomputable def c_tree_Canon : Con Tt := ⟨18, (sh [(.sl 2)]), (sh [(.agg (sh [(.sl 9)])), .i64]), 2, [], [], fun x => tree_Canon x⟩
theorem tree_Canon_ok : ConOk Tryz.prog tbl c_tree_Canon := fn_ok (cs := [c_tree_Check, c_tree_index, c_tree_root, c_tree_node, c_tree_names, c_tree_above]) (an := [([1, 1, 1, 1, 1, 0, 1, 0], .loop 0 ⟨[8, 37], [(7, 33)], (sh [(.gen 5), .i64, (.agg (sh [(.gen 10)]))]), [0, 2, 6, 7, 35, 36], [0, 1, 2, 3, 4, 9]⟩ ⟨[], [(7, 33)], (sh [(.agg (sh [(.gen 10)]))]), [2, 7], [0, 1, 2, 3, 4, 9]⟩), ([1, 1, 1, 1, 1, 0, 1, 0, 0, 1, 1, 0, 0, 1, 1, 0, 1], .join ⟨[8, 11], [(7, 33)], (sh [(.gen 5), .i64, (.agg (sh [(.gen 10)]))]), [0, 2, 6, 7, 10, 35, 36, 37], [0, 1, 2, 3, 4, 9, 12]⟩), ([1, 1, 1, 1, 1, 0, 1, 0, 0, 1, 1, 0, 0, 1, 1, 0, 1, 0, 1, 1], .lockJ [1, 12] ⟨[], [(7, 33)], (sh [(.agg (sh [(.gen 10)]))]), [0, 2, 6, 7, 8, 10, 11, 35, 36, 37], [0, 1, 2, 3, 4, 9, 10, 12]⟩), ([1, 1, 1, 1, 1, 0, 1, 0, 0, 1, 1, 0, 0, 1, 1, 1, 1, 1, 0], .lockJ [7, 12] ⟨[], [(7, 33)], (sh [(.agg (sh [(.gen 10)]))]), [0, 2, 6, 7, 8, 11, 15, 35, 36, 37], [0, 1, 2, 3, 4, 9, 12, 13]⟩)]) (fn := Tryz.f18) tOk (conCons tree_Check_ok (conCons tree_index_ok (conCons tree_root_ok (conCons tree_node_ok (conCons tree_names_ok (conCons tree_above_ok conNil)))))) (by rfl) Tryz.func18 (by kernel_rfl) (fun _ _ => by rfl) (fun _ => by kernel_rfl) (by kernel_rfl) (fun x => by kernel_rfl)
noncomputable def c_law11_num : Con Tt := ⟨19, (sh [.i64]), (sh [.i64]), 1, [], [], fun x => law11_num x⟩
theorem law11_num_ok : ConOk Tryz.prog tbl c_law11_num := fn_ok (cs := []) (an := []) (fn := Tryz.f19) tOk conNil (by rfl) Tryz.func19 (by kernel_rfl) (fun _ _ => by rfl) (fun _ => by kernel_rfl) (by kernel_rfl) (fun x => by kernel_rfl)
noncomputable def c_ref11_SameKids : Con Tt := ⟨47, (sh [(.sl 7), (.sl 7)]), (sh [.bool]), 1, [], [], fun x => ref11_SameKids x.1 x.2⟩
theorem ref11_SameKids_ok : ConOk Tryz.prog tbl c_ref11_SameKids := fn_ok (cs := []) (an := [([1, 1, 0, 1, 0], .loop 0 ⟨[5], [], (sh [.i64]), [0, 1], []⟩ ⟨[], [], (sh []), [], []⟩)]) (fn := Tryz.f47) tOk conNil (by rfl) Tryz.func47 (by kernel_rfl) (fun _ _ => by rfl) (fun _ => by kernel_rfl) (by kernel_rfl) (fun x => by kernel_rfl)
noncomputable def c_law11_live : Con Tt := ⟨16, (sh []), (sh [.bool]), 1, [], [], fun x => law11_live⟩
theorem law11_live_ok : ConOk Tryz.prog tbl c_law11_live := fn_ok (cs := [c_tree_Canon, c_law11_num, c_ref11_SameKids]) (an := [([1, 1, 0, 0], .join ⟨[20], [], (sh [.bool]), [1], [1]⟩)]) (fn := Tryz.f16) tOk (conCons tree_Canon_ok (conCons law11_num_ok (conCons ref11_SameKids_ok conNil))) (by rfl) Tryz.func16 (by kernel_rfl) (fun _ _ => by rfl) (fun _ => by kernel_rfl) (by kernel_rfl) (fun x => by kernel_rfl)
noncomputable def c_ref11_in : Con Tt := ⟨82, (sh [.i64, .i64, .i64]), (sh [.bool]), 1, [], [], fun x => ref11_in x.1 x.2.1 x.2.2⟩
theorem ref11_in_ok : ConOk Tryz.prog tbl c_ref11_in := fn_ok (cs := []) (an := []) (fn := Tryz.f82) tOk conNil (by rfl) Tryz.func82 (by kernel_rfl) (fun _ _ => by rfl) (fun _ => by kernel_rfl) (by kernel_rfl) (fun x => by kernel_rfl)
noncomputable def c_ref10_Split : Con Tt := ⟨64, (sh [.str]), (sh [(.row 6 9), .i64]), 2, [], [], fun x => ref10_Split x⟩
theorem ref10_Split_ok : ConOk Tryz.prog tbl c_ref10_Split := fn_ok (cs := []) (an := [([1, 1, 0, 1, 0], .loop 0 ⟨[4], [], (sh [.i64]), [0], []⟩ ⟨[], [], (sh []), [0], []⟩), ([1, 1, 1, 1, 1, 0, 1, 0], .loop 2 ⟨[5, 6, 7], [], (sh [(.row 6 9), .i64, .i64]), [0], []⟩ ⟨[5], [], (sh [(.row 6 9)]), [], []⟩), ([1, 1, 1, 1, 1, 0, 1, 0, 0, 1, 0, 0, 0, 0], .join ⟨[37], [], (sh [.bool]), [0, 5, 6, 7], [0]⟩)]) (fn := Tryz.f64) tOk conNil (by rfl) Tryz.func64 (by kernel_rfl) (fun _ _ => by rfl) (fun _ => by kernel_rfl) (by kernel_rfl) (fun x => by kernel_rfl)
noncomputable def c_ref10_Valid : Con Tt := ⟨125, (sh [.str]), (sh [.bool]), 1, [], [], fun x => ref10_Valid x⟩
theorem ref10_Valid_ok : ConOk Tryz.prog tbl c_ref10_Valid := fn_ok (cs := []) (an := [([1, 0, 0], .join ⟨[19], [], (sh [.bool]), [0], []⟩), ([1, 1, 0, 1, 0], .loop 0 ⟨[3], [], (sh [.i64]), [0], []⟩ ⟨[], [], (sh []), [], []⟩)]) (fn := Tryz.f125) tOk conNil (by rfl) Tryz.func125 (by kernel_rfl) (fun _ _ => by rfl) (fun _ => by kernel_rfl) (by kernel_rfl) (fun x => by kernel_rfl)
noncomputable def c_ref10_Join : Con Tt := ⟨126, (sh [(.sl 6)]), (sh [.str, .i64]), 2, [], [], fun x => ref10_Join x⟩
theorem ref10_Join_ok : ConOk Tryz.prog tbl c_ref10_Join := fn_ok (cs := [c_ref10_Valid]) (an := [([1, 1, 1, 0, 1, 0], .loop 0 ⟨[4, 5], [], (sh [.str, .i64]), [0], []⟩ ⟨[4], [], (sh [.str]), [], []⟩), ([1, 1, 1, 0, 1, 0, 0, 1, 0, 0, 0, 0], .join ⟨[27], [], (sh [.bool]), [0, 4, 5], []⟩)]) (fn := Tryz.f126) tOk (conCons ref10_Valid_ok conNil) (by rfl) Tryz.func126 (by kernel_rfl) (fun _ _ => by rfl) (fun _ => by kernel_rfl) (by kernel_rfl) (fun x => by kernel_rfl)
noncomputable def c_ref11_path : Con Tt := ⟨83, (sh [(.agg (sh [.str, .i64, .i64, .i64, .i64, .i64, .i64, (.sl 1), .str, .i64, (.sl 3)]))]), (sh [.i64]), 1, [], [], fun x => ref11_path x.1 x.2.1 x.2.2.1 x.2.2.2.1 x.2.2.2.2.1 x.2.2.2.2.2.1 x.2.2.2.2.2.2.1 x.2.2.2.2.2.2.2.1 x.2.2.2.2.2.2.2.2.1 x.2.2.2.2.2.2.2.2.2.1 x.2.2.2.2.2.2.2.2.2.2⟩
theorem ref11_path_ok : ConOk Tryz.prog tbl c_ref11_path := fn_ok (cs := [c_ref10_Split, c_ref10_Valid, c_ref10_Join]) (an := [([1, 1, 1, 1, 0, 1, 0], .loop 0 ⟨[5], [], (sh [.i64]), [1, 3], [0, 1]⟩ ⟨[], [], (sh []), [1, 3], [0, 1]⟩)]) (fn := Tryz.f83) tOk (conCons ref10_Split_ok (conCons ref10_Valid_ok (conCons ref10_Join_ok conNil))) (by rfl) Tryz.func83 (by kernel_rfl) (fun _ _ => by rfl) (fun _ => by kernel_rfl) (by kernel_rfl) (fun x => by kernel_rfl)
noncomputable def c_ref11_Up : Con Tt := ⟨62, (sh [.str]), (sh [.str]), 1, [], [], fun x => ref11_Up x⟩
theorem ref11_Up_ok : ConOk Tryz.prog tbl c_ref11_Up := fn_ok (cs := []) (an := [([1, 0, 1, 0], .loop 0 ⟨[3], [], (sh [.i64]), [0], []⟩ ⟨[], [], (sh []), [], []⟩)]) (fn := Tryz.f62) tOk conNil (by rfl) Tryz.func62 (by kernel_rfl) (fun _ _ => by rfl) (fun _ => by kernel_rfl) (by kernel_rfl) (fun x => by kernel_rfl)
noncomputable def c_ref11_text : Con Tt := ⟨127, (sh [.str, .i64, .i64]), (sh [.bool]), 1, [], [], fun x => ref11_text x.1 x.2.1 x.2.2⟩
theorem ref11_text_ok : ConOk Tryz.prog tbl c_ref11_text := fn_ok (cs := [c_ref11_in]) (an := [([1, 1, 0, 1, 0], .loop 0 ⟨[7], [], (sh [.i64]), [0], []⟩ ⟨[], [], (sh []), [], []⟩)]) (fn := Tryz.f127) tOk (conCons ref11_in_ok conNil) (by rfl) Tryz.func127 (by kernel_rfl) (fun _ _ => by rfl) (fun _ => by kernel_rfl) (by kernel_rfl) (fun x => by kernel_rfl)
noncomputable def c_ref11_fields : Con Tt := ⟨84, (sh [(.agg (sh [.str, .i64, .i64, .i64, .i64, .i64, .i64, (.sl 1), .str, .i64, (.sl 3)]))]), (sh [.i64]), 1, [], [], fun x => ref11_fields x.1 x.2.1 x.2.2.1 x.2.2.2.1 x.2.2.2.2.1 x.2.2.2.2.2.1 x.2.2.2.2.2.2.1 x.2.2.2.2.2.2.2.1 x.2.2.2.2.2.2.2.2.1 x.2.2.2.2.2.2.2.2.2.1 x.2.2.2.2.2.2.2.2.2.2⟩
theorem ref11_fields_ok : ConOk Tryz.prog tbl c_ref11_fields := fn_ok (cs := [c_ref11_in, c_ref11_text]) (an := [([1, 0, 0], .join ⟨[27], [], (sh [.bool]), [1], [0]⟩), ([1, 1, 0, 0], .join ⟨[67], [], (sh [.bool]), [1], [0]⟩), ([1, 1, 1, 0, 1, 0], .loop 0 ⟨[3], [], (sh [.i64]), [1], [0]⟩ ⟨[], [], (sh []), [1], [0]⟩), ([1, 1, 1, 1, 0, 1, 0], .loop 2 ⟨[4], [], (sh [.i64]), [1], [0]⟩ ⟨[], [], (sh []), [], [0]⟩), ([1, 1, 1, 1, 0, 1, 0, 0, 1, 0, 0, 1, 0], .loop 4 ⟨[5], [], (sh [.i64]), [1, 4], [0]⟩ ⟨[], [], (sh []), [1, 4], [0]⟩), ([1, 1, 1, 1, 0, 1, 0, 0, 1, 0, 0, 1, 0, 0, 1, 0, 0, 0], .lock [0])]) (fn := Tryz.f84) tOk (conCons ref11_in_ok (conCons ref11_text_ok conNil)) (by rfl) Tryz.func84 (by kernel_rfl) (fun _ _ => by rfl) (fun _ => by kernel_rfl) (by kernel_rfl) (fun x => by kernel_rfl)
noncomputable def c_ref11_entry : Con Tt := ⟨48, (sh [(.sl 2), .i64]), (sh [.i64]), 1, [], [], fun x => ref11_entry x.1 x.2⟩
theorem ref11_entry_ok : ConOk Tryz.prog tbl c_ref11_entry := fn_ok (cs := [c_ref11_in, c_ref11_path, c_ref11_Up, c_ref11_fields]) (an := [([1, 1, 1, 1, 1, 0, 1, 0], .loop 0 ⟨[7], [], (sh [.i64]), [0, 1, 5], [0]⟩ ⟨[], [], (sh []), [0, 5], [0]⟩), ([1, 1, 1, 1, 1, 0, 1, 0, 0, 1, 0, 0, 0], .lock [0]), ([1, 1, 1, 1, 1, 1, 1, 0, 1, 0], .loop 2 ⟨[8, 9, 10], [], (sh [.bool, .bool, .i64]), [0, 5], [0]⟩ ⟨[8, 9], [], (sh [.bool, .bool]), [5], [0]⟩), ([1, 1, 1, 1, 1, 1, 1, 0, 1, 0, 0, 1, 0, 0, 0], .lockJ [0] ⟨[8], [], (sh [.bool]), [0, 5, 9, 10], [0]⟩), ([1, 1, 1, 1, 1, 1, 1, 0, 1, 0, 0, 1, 0, 0, 1], .lock [0]), ([1, 1, 1, 1, 1, 1, 1, 1, 0, 0], .join ⟨[104], [], (sh [.bool]), [5], [0]⟩)]) (fn := Tryz.f48) tOk (conCons ref11_in_ok (conCons ref11_path_ok (conCons ref11_Up_ok (conCons ref11_fields_ok conNil)))) (by rfl) Tryz.func48 (by kernel_rfl) (fun _ _ => by rfl) (fun _ => by kernel_rfl) (by kernel_rfl) (fun x => by kernel_rfl)
noncomputable def c_ref11_Check : Con Tt := ⟨17, (sh [(.sl 2)]), (sh [.i64, .i64]), 2, [], [], fun x => ref11_Check x⟩
theorem ref11_Check_ok : ConOk Tryz.prog tbl c_ref11_Check := fn_ok (cs := [c_ref11_entry]) (an := [([1, 1, 1, 0, 1, 0], .loop 0 ⟨[4, 5], [], (sh [.i64, .i64]), [0], []⟩ ⟨[], [], (sh []), [0], []⟩), ([1, 1, 1, 1, 0, 1, 0], .loop 2 ⟨[6], [], (sh [.i64]), [0], []⟩ ⟨[], [], (sh []), [], []⟩)]) (fn := Tryz.f17) tOk (conCons ref11_entry_ok conNil) (by rfl) Tryz.func17 (by kernel_rfl) (fun _ _ => by rfl) (fun _ => by kernel_rfl) (by kernel_rfl) (fun x => by kernel_rfl)
noncomputable def c_ref11_Attrs : Con Tt := ⟨100, (sh [(.sl 3)]), (sh [(.row 3 51)]), 1, [], [], fun x => ref11_Attrs x⟩
theorem ref11_Attrs_ok : ConOk Tryz.prog tbl c_ref11_Attrs := fn_ok (cs := []) (an := [([1, 1, 0, 0], .loop 0 ⟨[3], [], (sh [(.row 3 51)]), [0], []⟩ ⟨[3], [], (sh [(.row 3 51)]), [], []⟩), ([1, 1, 0, 0, 0, 1, 0, 1, 0, 1, 0], .loop 2 ⟨[4, 5], [], (sh [.i64, .i64]), [0, 3], [0]⟩ ⟨[4], [], (sh [.i64]), [0, 3], [0]⟩), ([1, 1, 0, 0, 0, 1, 0, 1, 0, 1, 0, 0, 1, 0, 0, 1, 0, 1, 0], .loop 4 ⟨[6, 7], [], (sh [.bool, .i64]), [0, 3, 4, 5], [0]⟩ ⟨[6], [], (sh [.bool]), [0, 3, 4, 5], [0]⟩)]) (fn := Tryz.f100) tOk conNil (by rfl) Tryz.func100 (by kernel_rfl) (fun _ _ => by rfl) (fun _ => by kernel_rfl) (by kernel_rfl) (fun x => by kernel_rfl)
noncomputable def c_ref11_Node : Con Tt := ⟨60, (sh [(.agg (sh [.str, .i64, .i64, .i64, .i64, .i64, .i64, (.sl 1), .str, .i64, (.sl 3)]))]), (sh [(.agg (sh [.i64, .i64, .i64, .i64, .i64, .i64, (.sl 1), .str, .i64, (.sl 3), (.row 7 53), .i64, .i64]))]), 1, [], [], fun x => ref11_Node x.1 x.2.1 x.2.2.1 x.2.2.2.1 x.2.2.2.2.1 x.2.2.2.2.2.1 x.2.2.2.2.2.2.1 x.2.2.2.2.2.2.2.1 x.2.2.2.2.2.2.2.2.1 x.2.2.2.2.2.2.2.2.2.1 x.2.2.2.2.2.2.2.2.2.2⟩
theorem ref11_Node_ok : ConOk Tryz.prog tbl c_ref11_Node := fn_ok (cs := [c_ref11_Attrs]) (an := [([1, 0], .lockJ [0] ⟨[3], [], (sh [(.own 49 (sh [.i64, .i64, .i64, .i64, .i64, .i64, (.row 1 5), .str, .i64, (.row 3 51), (.row 7 53), .i64, .i64]))]), [1, 2], [0, 1]⟩), ([1, 1, 0, 1], .join ⟨[], [(2, 49)], (sh [(.agg (sh [.i64, .i64, .i64, .i64, .i64, .i64, (.sl 1), .str, .i64, (.row 3 51), (.row 7 53), .i64, .i64]))]), [1, 2, 3], [0, 1]⟩), ([1, 1, 0, 1, 0, 0], .lock [0]), ([1, 1, 0, 1, 0, 1, 0], .loop 0 ⟨[], [(2, 49)], (sh [(.agg (sh [.i64, .i64, .i64, .i64, .i64, .i64, (.sl 1), .str, .i64, (.row 3 51), (.row 7 53), .i64, .i64]))]), [1, 2, 3], [0, 1, 3]⟩ ⟨[], [(2, 49)], (sh [(.agg (sh [.i64, .i64, .i64, .i64, .i64, .i64, (.sl 1), .str, .i64, (.row 3 51), (.row 7 53), .i64, .i64]))]), [1, 2, 3], [0, 1, 3]⟩), ([1, 1, 1, 0, 1], .join ⟨[], [(2, 49)], (sh [(.agg (sh [.i64, .i64, .i64, .i64, .i64, .i64, (.sl 1), .str, .i64, (.row 3 51), (.row 7 53), .i64, .i64]))]), [1, 2, 3], [0, 1]⟩)]) (fn := Tryz.f60) tOk (conCons ref11_Attrs_ok conNil) (by rfl) Tryz.func60 (by kernel_rfl) (fun _ _ => by rfl) (fun _ => by kernel_rfl) (by kernel_rfl) (fun x => by kernel_rfl)
noncomputable def c_ref10_length : Con Tt := ⟨102, (sh [.i64, .i64]), (sh [.i64]), 1, [], [], fun x => ref10_length x.1 x.2⟩
theorem ref10_length_ok : ConOk Tryz.prog tbl c_ref10_length := fn_ok (cs := []) (an := []) (fn := Tryz.f102) tOk conNil (by rfl) Tryz.func102 (by kernel_rfl) (fun _ _ => by rfl) (fun _ => by kernel_rfl) (by kernel_rfl) (fun x => by kernel_rfl)
noncomputable def c_ref10_text : Con Tt := ⟨101, (sh [.str, .str]), (sh [.i64]), 1, [], [], fun x => ref10_text x.1 x.2⟩
theorem ref10_text_ok : ConOk Tryz.prog tbl c_ref10_text := fn_ok (cs := [c_ref10_length]) (an := [([1, 0, 1, 0], .loop 0 ⟨[5], [], (sh [.i64]), [0, 1], []⟩ ⟨[], [], (sh []), [0, 1], []⟩), ([1, 0, 1, 0, 0, 0, 0], .join ⟨[15], [], (sh [.bool]), [0, 1, 5], []⟩)]) (fn := Tryz.f101) tOk (conCons ref10_length_ok conNil) (by rfl) Tryz.func101 (by kernel_rfl) (fun _ _ => by rfl) (fun _ => by kernel_rfl) (by kernel_rfl) (fun x => by kernel_rfl)
noncomputable def c_ref10_Order : Con Tt := ⟨65, (sh [(.sl 6), (.sl 6)]), (sh [.i64]), 1, [], [], fun x => ref10_Order x.1 x.2⟩
theorem ref10_Order_ok : ConOk Tryz.prog tbl c_ref10_Order := fn_ok (cs := [c_ref10_text, c_ref10_length]) (an := [([1, 0, 1, 0], .loop 0 ⟨[5], [], (sh [.i64]), [0, 1], []⟩ ⟨[], [], (sh []), [0, 1], []⟩), ([1, 0, 1, 0, 0, 0, 0], .join ⟨[16], [], (sh [.bool]), [0, 1, 5], []⟩)]) (fn := Tryz.f65) tOk (conCons ref10_text_ok (conCons ref10_length_ok conNil)) (by rfl) Tryz.func65 (by kernel_rfl) (fun _ _ => by rfl) (fun _ => by kernel_rfl) (by kernel_rfl) (fun x => by kernel_rfl)
noncomputable def c_ref11_Order : Con Tt := ⟨25, (sh [(.sl 2)]), (sh [(.row 4 3)]), 1, [], [], fun x => ref11_Order x⟩
theorem ref11_Order_ok : ConOk Tryz.prog tbl c_ref11_Order := fn_ok (cs := [c_ref10_Split, c_ref10_Order]) (an := [([1, 1, 1, 0], .loop 0 ⟨[3, 4], [], (sh [(.row 4 3), (.row 12 4)]), [0], []⟩ ⟨[], [], (sh []), [], []⟩), ([1, 1, 1, 0, 0, 0, 1, 1, 0, 1, 0], .loop 2 ⟨[5, 6, 7], [], (sh [.i64, (.sl 6), .i64]), [0, 3, 4], [1, 2]⟩ ⟨[5], [], (sh [.i64]), [0, 3, 4], [1, 2]⟩), ([1, 1, 1, 0, 0, 0, 1, 1, 0, 1, 0, 0, 1, 0, 0, 0, 0], .join ⟨[30], [], (sh [.bool]), [0, 3, 4, 5, 6, 7], [1, 2]⟩)]) (fn := Tryz.f25) tOk (conCons ref10_Split_ok (conCons ref10_Order_ok conNil)) (by rfl) Tryz.func25 (by kernel_rfl) (fun _ _ => by rfl) (fun _ => by kernel_rfl) (by kernel_rfl) (fun x => by kernel_rfl)
noncomputable def c_ref11_owner : Con Tt := ⟨61, (sh [(.sl 2), .i64]), (sh [.i64]), 1, [], [], fun x => ref11_owner x.1 x.2⟩
theorem ref11_owner_ok : ConOk Tryz.prog tbl c_ref11_owner := fn_ok (cs := []) (an := [([1, 1, 0, 1, 0], .loop 0 ⟨[5], [], (sh [.i64]), [0, 1], []⟩ ⟨[], [], (sh []), [1], []⟩)]) (fn := Tryz.f61) tOk conNil (by rfl) Tryz.func61 (by kernel_rfl) (fun _ _ => by rfl) (fun _ => by kernel_rfl) (by kernel_rfl) (fun x => by kernel_rfl)
noncomputable def c_ref11_Last : Con Tt := ⟨63, (sh [.str]), (sh [.str]), 1, [], [], fun x => ref11_Last x⟩
theorem ref11_Last_ok : ConOk Tryz.prog tbl c_ref11_Last := fn_ok (cs := []) (an := [([1, 0, 1, 0], .loop 0 ⟨[3], [], (sh [.i64]), [0], []⟩ ⟨[], [], (sh []), [0], []⟩)]) (fn := Tryz.f63) tOk conNil (by rfl) Tryz.func63 (by kernel_rfl) (fun _ _ => by rfl) (fun _ => by kernel_rfl) (by kernel_rfl) (fun x => by kernel_rfl)
noncomputable def c_ref11_Canon : Con Tt := ⟨24, (sh [(.sl 2)]), (sh [(.agg (sh [(.sl 9)]))]), 1, [], [], fun x => ref11_Canon x⟩
theorem ref11_Canon_ok : ConOk Tryz.prog tbl c_ref11_Canon := fn_ok (cs := [c_ref11_Node, c_ref11_Order, c_ref11_owner, c_ref11_Up, c_ref11_Last]) (an := [([1, 1, 0, 1, 0], .loop 0 ⟨[4], [(1, 30)], (sh [.i64, (.agg (sh [.str, .i64, .i64, .i64, .i64, .i64, .i64, (.sl 1), .str, .i64, (.sl 3)]))]), [0, 2, 3], [0]⟩ ⟨[], [(1, 30)], (sh [(.agg (sh [.str, .i64, .i64, .i64, .i64, .i64, .i64, (.sl 1), .str, .i64, (.sl 3)]))]), [0, 2, 3], [0]⟩), ([1, 1, 1, 1, 1, 1, 1, 0, 1, 0], .loop 2 ⟨[6, 8], [(4, 33)], (sh [(.row 4 3), .i64, (.agg (sh [(.gen 10)]))]), [0, 2, 5, 7], [0, 1, 5]⟩ ⟨[], [(4, 33)], (sh [(.agg (sh [(.gen 10)]))]), [2, 5], [0, 1, 5]⟩), ([1, 1, 1, 1, 1, 1, 1, 0, 1, 0, 0, 1, 0, 0, 1, 1, 1, 0, 1, 0], .loop 4 ⟨[11, 12], [], (sh [.i64, .i64]), [0, 2, 5, 6, 7, 8, 9, 10], [0, 1, 4, 5, 6, 7]⟩ ⟨[11], [], (sh [.i64]), [0, 2, 5, 6, 7, 8, 9, 10], [0, 1, 4, 5, 6, 7]⟩), ([1, 1, 1, 1, 1, 1, 1, 0, 1, 0, 0, 1, 0, 0, 1, 1, 1, 1, 0, 1], .join ⟨[6, 11], [(4, 33)], (sh [(.row 4 3), .i64, (.agg (sh [(.gen 10)]))]), [0, 2, 5, 7, 8, 9, 10], [0, 1, 5]⟩), ([1, 1, 1, 1, 1, 1, 1, 0, 1, 0, 0, 1, 0, 0, 1, 1, 1, 1, 0, 1, 0, 1, 1, 0], .join ⟨[], [(4, 33)], (sh [(.agg (sh [(.gen 10)]))]), [0, 2, 5, 6, 7, 8, 9, 10, 11], [0, 1, 5, 9]⟩), ([1, 1, 1, 1, 1, 1, 1, 0, 1, 0, 0, 1, 0, 0, 1, 1, 1, 1, 0, 1, 0, 1, 1, 1, 1], .join ⟨[], [(4, 33)], (sh [(.agg (sh [(.gen 10)]))]), [0, 2, 5, 6, 7, 8, 9, 10, 11], [0, 1, 5, 9]⟩), ([1, 1, 1, 1, 1, 1, 1, 0, 1, 0, 0, 1, 0, 0, 1, 1, 1, 1, 1, 1, 0, 1, 0], .loop 6 ⟨[13, 14], [], (sh [.i64, .i64]), [0, 2, 5, 6, 7, 8, 9, 10, 11], [0, 1, 4, 5, 8, 9]⟩ ⟨[13], [], (sh [.i64]), [0, 2, 5, 6, 7, 8, 9, 10, 11], [0, 1, 4, 5, 8, 9]⟩), ([1, 1, 1, 1, 1, 1, 1, 0, 1, 0, 0, 1, 0, 0, 1, 1, 1, 1, 1, 1, 0, 1, 0, 0, 1, 0, 0, 0], .join ⟨[129], [], (sh [.bool]), [0, 2, 5, 6, 7, 8, 9, 10, 11, 13, 14], [0, 1, 4, 5, 8, 9]⟩), ([1, 1, 1, 1, 1, 1, 1, 0, 1, 0, 0, 1, 0, 0, 1, 1, 1, 1, 1, 1, 1, 0], .lockJ [4] ⟨[], [(4, 33)], (sh [(.agg (sh [(.gen 10)]))]), [0, 2, 5, 6, 7, 8, 10, 11, 13], [0, 1, 5, 8]⟩)]) (fn := Tryz.f24) tOk (conCons ref11_Node_ok (conCons ref11_Order_ok (conCons ref11_owner_ok (conCons ref11_Up_ok (conCons ref11_Last_ok conNil))))) (by rfl) Tryz.func24 (by kernel_rfl) (fun _ _ => by rfl) (fun _ => by kernel_rfl) (by kernel_rfl) (fun x => by kernel_rfl)
noncomputable def cat_List : Cat := ⟨58, 2, 0, fun _ => [(0, .nil), (1, .num 1)]⟩
theorem cat_List_idle (p q : Value) (w : World) : CallsDIn (Fr none) 0 Tryz.prog 58 #[p, q] .returning w fun e u' w' => e = .returned (.tuple #[]) ∧ u' = .returning ∧ w' = w := by
  refine callsDIn_of_wpSIn Tryz.func58 rfl (by simp [Fr]) fun c₀ cs hu => ?_
  apply wpSIn_seq
  apply wpSIn_region
  simp [wpOpsSIn, go_sem, recoverD, hu, Tryz.ntmps58, Exit.thenS]
  apply wpSIn_seq
  apply wpSIn_region
  simp [wpOpsSIn, go_sem, recoverD, hu, Tryz.ntmps58, Exit.thenS]
  refine wpSIn_cond (t := false) (by simp [Act.eval, Array.replicate]) ?_
  simp only [Bool.false_eq_true, if_false]
  refine wpSIn_of_wpIn rfl (wpIn_skip ?_)
  cases c₀
  simp_all [bodyPostS, results, Tryz.results58]
theorem cat_List_as (w : World) : (Instr.typeAssert (.iface 107 (.agg #[])) 20 107 true).run Tryz.prog w = .ok (.tuple #[.agg #[], .bool true]) w := by kernel_rfl
theorem cat_List_al (w : World) : (Instr.alloc 107 true (.tuple #[])).run Tryz.prog w = .ok (.pointer (some ⟨w.heap.size, 0, none⟩)) (w.alloc (.cells #[] 107)) := by kernel_rfl
set_option maxRecDepth 8000 in
theorem cat_List_catch (p q : Addr) (x y : Value) (w : World) (hp : w.cell? p = some x) (hq : w.cell? q = some y) (hpz : w.frozen? p = false) (hqz : w.frozen? q = false) (hpb : p.block < w.heap.size) (hqb : q.block < w.heap.size) (hpq : p.block ≠ q.block) :
    CallsDIn (Fr none) 0 Tryz.prog 58 #[.pointer (some p), .pointer (some q)] (.panicking (pnV 107 [])) w fun e u' w' => e = .returned (.tuple #[]) ∧ u' = .panicking [{ v := .iface 107 (.agg #[]), recovered := true }] ∧
      w' = ((w.alloc (.cells #[] 107)).setCell p (.slice none 0 0)).setCell q (.int .i64 1) := by
  refine callsDIn_of_wpSIn Tryz.func58 rfl (by simp [Fr]) fun c₀ cs hu => ?_
  have hu : c₀.mode = .panicking [{ v := .iface 107 (.agg #[]), recovered := false }] := hu
  apply wpSIn_seq
  apply wpSIn_region
  simp [wpOpsSIn, go_sem, recoverD, hu, Tryz.ntmps58, Exit.thenS]
  apply wpSIn_seq
  apply wpSIn_region
  simp [wpOpsSIn, go_sem, recoverD, hu, Tryz.ntmps58, Exit.thenS]
  refine wpSIn_cond (t := true) (by simp [Act.eval, Array.replicate]) ?_
  simp only [if_true]
  apply wpSIn_seq
  apply wpSIn_seq
  apply wpSIn_region
  simp [wpOpsSIn, go_sem, recoverD, hu, Tryz.ntmps58, Exit.thenS, cat_List_as, cat_List_al]
  apply wpSIn_seq
  apply wpSIn_region
  simp [wpOpsSIn, go_sem, Tryz.ntmps58, Exit.thenS]
  refine wpSIn_cond (t := false) (by simp [Act.eval, Array.replicate]) ?_
  simp only [Bool.false_eq_true, if_false]
  refine wpSIn_of_wpIn rfl (wpIn_skip ?_)
  simp only [Exit.thenS]
  apply wpSIn_region
  have ha : ∀ k, k < w.heap.size → (w.alloc (.cells #[] 107)).heap[k]? = w.heap[k]? := fun k hk => heap_alloc_old w _ hk
  have hp1 : (w.alloc (.cells #[] 107)).cell? p = some x := by unfold World.cell? at hp ⊢; rw [ha _ hpb]; exact hp
  have hp2 : (w.alloc (.cells #[] 107)).frozen? p = false := by unfold World.frozen? at hpz ⊢; rw [ha _ hpb]; exact hpz
  have hne : p ≠ q := fun e => hpq (by rw [e])
  have hq0 : (w.alloc (.cells #[] 107)).cell? q = some y := by unfold World.cell? at hq ⊢; rw [ha _ hqb]; exact hq
  have hq0' : (w.alloc (.cells #[] 107)).frozen? q = false := by unfold World.frozen? at hqz ⊢; rw [ha _ hqb]; exact hqz
  have hq1 : ((w.alloc (.cells #[] 107)).setCell p (.slice none 0 0)).cell? q = some y := by rw [World.cell?_setCell_other (h := by first | exact hne | exact fun e => hne e.symm)]; exact hq0
  have hq2 : ((w.alloc (.cells #[] 107)).setCell p (.slice none 0 0)).frozen? q = false := by rw [World.frozen?_setCell]; exact hq0'
  simp [wpOpsSIn, go_sem, hp1, hp2, hq1, hq2, bodyPostS, results, Tryz.results58]
theorem cat_List_ok : CatOk Tryz.prog 107 cat_List where
  call := fun _ _ => by rfl
  idle vals w h := by
    match vals, h with
    | [p, q], _ => exact cat_List_idle p q w
  catch_ l vals w h hl hc := by
    match l, vals, h, hl, hc with
    | [], [p, q], _, _, ⟨⟨a, x, h1, h2, h3, h4, h5⟩, ⟨b, y, k1, k2, k3, k4, _⟩, _⟩ =>
      have e1 : p = .pointer (some a) := Option.some.inj h1
      have e2 : q = .pointer (some b) := Option.some.inj k1
      clear h1 k1
      subst e1
      subst e2
      have hab : b.block ≠ a.block := h5 (1, .num 1) (List.mem_cons_self ..) b rfl
      exact (cat_List_catch a b x y w h2 k2 h3 k3 h4 k4 (Ne.symm hab)).mono fun e u' w' ⟨e1, e2, e3⟩ => ⟨e1, by rw [e2]; rfl, _, ex_allocO _ _, e3⟩


noncomputable def c_tree_lister_add (n : Nat) : ConP 0 Tt := ⟨59, (sh [(.own 112 (sh [(.sl 9), (.gen 13), (.row 2 30)])), .i64, .str, .i64]), (sh [(.agg (sh [(.sl 9), (.gen 13), (.row 2 30)]))]), 0, [(0, 112)], [], fun x => tree_lister_add n x.1.1 x.1.2.1 x.1.2.2 x.2.1 x.2.2.1 x.2.2.2⟩
theorem tree_lister_add_ok : ∀ n, ConPOk Tryz.prog tbl 107 (c_tree_lister_add n)
  | 0 => conP0 fun _ => rfl
  | n + 1 => fnP_ok (cs := [c_bytes_Clone, c_tree_attrs]) (an := [([0, 0], .join ⟨[36], [], (sh [.bool]), [0, 1, 2, 3], [0, 1, 2]⟩), ([1, 1, 1, 1, 0], .lockJ [3] ⟨[], [(0, 112)], (sh [(.agg (sh [(.sl 9), (.gen 13), (.row 2 30)]))]), [0, 2, 3, 8], [3]⟩), ([1, 1, 1, 1, 1, 1, 0], .loop 0 ⟨[116], [(0, 112)], (sh [.i64, (.agg (sh [(.sl 9), (.gen 13), (.row 2 30)]))]), [0, 2, 3, 114, 115], [3]⟩ ⟨[], [(0, 112)], (sh [(.agg (sh [(.sl 9), (.gen 13), (.row 2 30)]))]), [], [3]⟩)]) (ps := [c_tree_lister_add n]) (pt := 107) (fn := Tryz.f59) tOk (conCons bytes_Clone_ok (conCons tree_attrs_ok conNil)) (by rfl) (conPCons (tree_lister_add_ok n) conPNil) Tryz.func59 (by kernel_rfl) (fun _ _ => by rfl) (fun _ => by kernel_rfl) (by kernel_rfl) (fun x => by kernel_rfl)
noncomputable def c_bytes_Equal : Con Tt := ⟨96, (sh [(.sl 1), (.sl 1)]), (sh [.bool]), 1, [], [], fun x => bytes_Equal x.1 x.2⟩
theorem bytes_Equal_ok : ConOk Tryz.prog tbl c_bytes_Equal := fn_ok (cs := []) (an := []) (fn := Tryz.f96) tOk conNil (by rfl) Tryz.func96 (by kernel_rfl) (fun _ _ => by rfl) (fun _ => by kernel_rfl) (by kernel_rfl) (fun x => by kernel_rfl)
noncomputable def c_slices_Equal_portmanteau_api_Kid_portmanteau_api_Kid : Con Tt := ⟨97, (sh [(.sl 7), (.sl 7)]), (sh [.bool]), 1, [], [], fun x => slices_Equal_portmanteau_api_Kid_portmanteau_api_Kid x.1 x.2⟩
theorem slices_Equal_portmanteau_api_Kid_portmanteau_api_Kid_ok : ConOk Tryz.prog tbl c_slices_Equal_portmanteau_api_Kid_portmanteau_api_Kid := fn_ok (cs := []) (an := [([1, 1, 0, 1, 0], .loop 0 ⟨[13], [], (sh [.i64]), [0, 1, 12], []⟩ ⟨[], [], (sh []), [], []⟩)]) (fn := Tryz.f97) tOk conNil (by rfl) Tryz.func97 (by kernel_rfl) (fun _ _ => by rfl) (fun _ => by kernel_rfl) (by kernel_rfl) (fun x => by kernel_rfl)
noncomputable def c_tree_alike_1 : Con Tt := ⟨99, (sh [(.agg (sh [.str, (.sl 1)])), (.agg (sh [.str, (.sl 1)]))]), (sh [.bool]), 1, [], [], fun x => tree_alike_1 x.1.1 x.1.2 x.2.1 x.2.2⟩
theorem tree_alike_1_ok : ConOk Tryz.prog tbl c_tree_alike_1 := fn_ok (cs := [c_bytes_Equal]) (an := []) (fn := Tryz.f99) tOk (conCons bytes_Equal_ok conNil) (by rfl) Tryz.func99 (by kernel_rfl) (fun _ _ => by rfl) (fun _ => by kernel_rfl) (by kernel_rfl) (fun x => by kernel_rfl)
noncomputable def c_slices_EqualFunc_portmanteau_api_Attr_portmanteau_api_Attr_portmanteau_api_Attr_portmanteau_api_Attr : Con Tt := ⟨98, (sh [(.sl 3), (.sl 3), (.fn 99 0 (sh []))]), (sh [.bool]), 1, [], [], fun x => slices_EqualFunc_portmanteau_api_Attr_portmanteau_api_Attr_portmanteau_api_Attr_portmanteau_api_Attr x.1 x.2.1⟩
theorem slices_EqualFunc_portmanteau_api_Attr_portmanteau_api_Attr_portmanteau_api_Attr_portmanteau_api_Attr_ok : ConOk Tryz.prog tbl c_slices_EqualFunc_portmanteau_api_Attr_portmanteau_api_Attr_portmanteau_api_Attr_portmanteau_api_Attr := fn_ok (cs := [c_tree_alike_1]) (an := [([1, 1, 0, 1, 0], .loop 0 ⟨[17], [], (sh [.i64]), [1, 2, 15, 16], []⟩ ⟨[], [], (sh []), [], []⟩)]) (fn := Tryz.f98) tOk (conCons tree_alike_1_ok conNil) (by rfl) Tryz.func98 (by kernel_rfl) (fun _ _ => by rfl) (fun _ => by kernel_rfl) (by kernel_rfl) (fun x => by kernel_rfl)
noncomputable def c_tree_alike : Con Tt := ⟨57, (sh [(.agg (sh [.i64, .i64, .i64, .i64, .i64, .i64, (.sl 1), .str, .i64, (.sl 3), (.sl 7), .i64, .i64])), (.agg (sh [.i64, .i64, .i64, .i64, .i64, .i64, (.sl 1), .str, .i64, (.sl 3), (.sl 7), .i64, .i64]))]), (sh [.bool]), 1, [], [], fun x => tree_alike x.1.1 x.1.2.1 x.1.2.2.1 x.1.2.2.2.1 x.1.2.2.2.2.1 x.1.2.2.2.2.2.1 x.1.2.2.2.2.2.2.1 x.1.2.2.2.2.2.2.2.1 x.1.2.2.2.2.2.2.2.2.1 x.1.2.2.2.2.2.2.2.2.2.1 x.1.2.2.2.2.2.2.2.2.2.2.1 x.1.2.2.2.2.2.2.2.2.2.2.2.1 x.1.2.2.2.2.2.2.2.2.2.2.2.2 x.2.1 x.2.2.1 x.2.2.2.1 x.2.2.2.2.1 x.2.2.2.2.2.1 x.2.2.2.2.2.2.1 x.2.2.2.2.2.2.2.1 x.2.2.2.2.2.2.2.2.1 x.2.2.2.2.2.2.2.2.2.1 x.2.2.2.2.2.2.2.2.2.2.1 x.2.2.2.2.2.2.2.2.2.2.2.1 x.2.2.2.2.2.2.2.2.2.2.2.2.1 x.2.2.2.2.2.2.2.2.2.2.2.2.2⟩
theorem tree_alike_ok : ConOk Tryz.prog tbl c_tree_alike := fn_ok (cs := [c_bytes_Equal, c_slices_Equal_portmanteau_api_Kid_portmanteau_api_Kid, c_slices_EqualFunc_portmanteau_api_Attr_portmanteau_api_Attr_portmanteau_api_Attr_portmanteau_api_Attr]) (an := [([1, 0, 0], .join ⟨[72], [], (sh [.bool]), [2, 3], [0, 1]⟩)]) (fn := Tryz.f57) tOk (conCons bytes_Equal_ok (conCons slices_Equal_portmanteau_api_Kid_portmanteau_api_Kid_ok (conCons slices_EqualFunc_portmanteau_api_Attr_portmanteau_api_Attr_portmanteau_api_Attr_portmanteau_api_Attr_ok conNil))) (by rfl) Tryz.func57 (by kernel_rfl) (fun _ _ => by rfl) (fun _ => by kernel_rfl) (by kernel_rfl) (fun x => by kernel_rfl)
noncomputable def c_slices_EqualFunc_portmanteau_api_Node_portmanteau_api_Node_portmanteau_api_Node_portmanteau_api_Node : Con Tt := ⟨56, (sh [(.sl 9), (.sl 9), (.fn 57 0 (sh []))]), (sh [.bool]), 1, [], [], fun x => slices_EqualFunc_portmanteau_api_Node_portmanteau_api_Node_portmanteau_api_Node_portmanteau_api_Node x.1 x.2.1⟩
theorem slices_EqualFunc_portmanteau_api_Node_portmanteau_api_Node_portmanteau_api_Node_portmanteau_api_Node_ok : ConOk Tryz.prog tbl c_slices_EqualFunc_portmanteau_api_Node_portmanteau_api_Node_portmanteau_api_Node_portmanteau_api_Node := fn_ok (cs := [c_tree_alike]) (an := [([1, 1, 0, 1, 0], .loop 0 ⟨[17], [], (sh [.i64]), [1, 2, 15, 16], []⟩ ⟨[], [], (sh []), [], []⟩)]) (fn := Tryz.f56) tOk (conCons tree_alike_ok conNil) (by rfl) Tryz.func56 (by kernel_rfl) (fun _ _ => by rfl) (fun _ => by kernel_rfl) (by kernel_rfl) (fun x => by kernel_rfl)
noncomputable def c_tree_Same : Con Tt := ⟨21, (sh [(.agg (sh [(.sl 9)])), (.agg (sh [(.sl 9)]))]), (sh [.bool]), 1, [], [], fun x => tree_Same x.1 x.2⟩
theorem tree_Same_ok : ConOk Tryz.prog tbl c_tree_Same := fn_ok (cs := [c_slices_EqualFunc_portmanteau_api_Node_portmanteau_api_Node_portmanteau_api_Node_portmanteau_api_Node]) (an := []) (fn := Tryz.f21) tOk (conCons slices_EqualFunc_portmanteau_api_Node_portmanteau_api_Node_portmanteau_api_Node_portmanteau_api_Node_ok conNil) (by rfl) Tryz.func21 (by kernel_rfl) (fun _ _ => by rfl) (fun _ => by kernel_rfl) (by kernel_rfl) (fun x => by kernel_rfl)
noncomputable def c_tree_List : Con Tt := ⟨23, (sh [(.agg (sh [(.sl 9)]))]), (sh [(.sl 2), .i64]), 2, [], [], fun x => tree_List x⟩
theorem tree_List_ok : ConOk Tryz.prog tbl c_tree_List := fnD_ok (cs := [c_tree_Canon, c_tree_Same]) (an := []) (ps := [c_tree_lister_add 70]) (pt := 107) (ct := cat_List) (fn := Tryz.f23) tOk (conCons tree_Canon_ok (conCons tree_Same_ok conNil)) (by rfl) (conPCons (tree_lister_add_ok 70) conPNil) cat_List_ok Tryz.func23 (by kernel_rfl) (fun _ _ => by rfl) (fun _ => by kernel_rfl) (by kernel_rfl) (fun x => by kernel_rfl)
noncomputable def c_ref11_SameAttrs : Con Tt := ⟨55, (sh [(.sl 3), (.sl 3)]), (sh [.bool]), 1, [], [], fun x => ref11_SameAttrs x.1 x.2⟩
theorem ref11_SameAttrs_ok : ConOk Tryz.prog tbl c_ref11_SameAttrs := fn_ok (cs := []) (an := [([1, 1, 0, 1, 0], .loop 0 ⟨[5], [], (sh [.i64]), [0, 1], []⟩ ⟨[], [], (sh []), [], []⟩)]) (fn := Tryz.f55) tOk conNil (by rfl) Tryz.func55 (by kernel_rfl) (fun _ _ => by rfl) (fun _ => by kernel_rfl) (by kernel_rfl) (fun x => by kernel_rfl)
noncomputable def c_ref11_Same : Con Tt := ⟨20, (sh [(.agg (sh [(.sl 9)])), (.agg (sh [(.sl 9)]))]), (sh [.bool]), 1, [], [], fun x => ref11_Same x.1 x.2⟩
theorem ref11_Same_ok : ConOk Tryz.prog tbl c_ref11_Same := fn_ok (cs := [c_ref11_SameAttrs, c_ref11_SameKids]) (an := [([1, 1, 0, 1, 0], .loop 0 ⟨[5], [], (sh [.i64]), [2, 3], [0, 1]⟩ ⟨[], [], (sh []), [], [0, 1]⟩), ([1, 1, 0, 1, 0, 0, 1, 0, 0, 0], .lockJ [0, 1] ⟨[6, 7], [], (sh [(.own 49 (sh [.i64, .i64, .i64, .i64, .i64, .i64, (.sl 1), .str, .i64, (.sl 3), (.sl 7), .i64, .i64])), (.own 49 (sh [.i64, .i64, .i64, .i64, .i64, .i64, (.sl 1), .str, .i64, (.sl 3), (.sl 7), .i64, .i64]))]), [2, 3, 5], [0, 1]⟩), ([1, 1, 0, 1, 0, 0, 1, 0, 0, 1, 0], .join ⟨[124], [], (sh [.bool]), [2, 3, 5], [0, 1, 2, 3]⟩)]) (fn := Tryz.f20) tOk (conCons ref11_SameAttrs_ok (conCons ref11_SameKids_ok conNil)) (by rfl) Tryz.func20 (by kernel_rfl) (fun _ _ => by rfl) (fun _ => by kernel_rfl) (by kernel_rfl) (fun x => by kernel_rfl)
noncomputable def c_law11_TreeBack : Con Tt := ⟨6, (sh [(.sl 2)]), (sh [.bool]), 1, [], [], fun x => law11_TreeBack x⟩
theorem law11_TreeBack_ok : ConOk Tryz.prog tbl c_law11_TreeBack := fn_ok (cs := [c_ref11_Much, c_law11_live, c_ref11_Check, c_ref11_Canon, c_tree_List, c_law11_num, c_ref11_Order, c_tree_Canon, c_ref11_Same]) (an := [([1, 1, 1, 1, 1, 1, 0, 0], .join ⟨[46], [], (sh [.bool]), [5, 6], [0]⟩), ([1, 1, 1, 1, 1, 1, 1, 1, 0, 1, 0], .loop 0 ⟨[9], [], (sh [.i64]), [5, 6, 8], [0, 1]⟩ ⟨[], [], (sh []), [5, 6], [0, 1]⟩), ([1, 1, 1, 1, 1, 1, 1, 1, 0, 1, 0, 0, 1, 0, 0, 1, 1, 0, 1, 0, 1, 0], .loop 2 ⟨[10, 11], [], (sh [.bool, .i64]), [5, 6, 8, 9], [0, 1]⟩ ⟨[10], [], (sh [.bool]), [5, 6, 8, 9], [0, 1]⟩)]) (fn := Tryz.f6) tOk (conCons ref11_Much_ok (conCons law11_live_ok (conCons ref11_Check_ok (conCons ref11_Canon_ok (conCons tree_List_ok (conCons law11_num_ok (conCons ref11_Order_ok (conCons tree_Canon_ok (conCons ref11_Same_ok conNil))))))))) (by rfl) Tryz.func6 (by kernel_rfl) (fun _ _ => by rfl) (fun _ => by kernel_rfl) (by kernel_rfl) (fun x => by kernel_rfl)
theorem law11_TreeBack_c {m : Mem} {w : World} (hm : Has m w)  (a0 : List TApiEntry) (A0 : Option Addr) (c0 : Nat) (h0 : SlI rApiEntry m A0 c0 a0) {r : Bool} (hf : law11_TreeBack a0 = some r) :
    Calls Tryz.prog 6 #[.slice A0 a0.length c0] w fun e w' => ∃ v, e = .returned v ∧ v = .bool r ∧ Go.Proofs.YtbldeodchhfjfaaGreatDoor.K.Ex w w' :=
  ConOk.law law11_TreeBack_ok Tryz.call6 hm (glob_of ) (a0) [.slice A0 a0.length c0] ⟨_, _, rfl, ⟨A0, c0, rfl, h0⟩, rfl⟩ rfl rfl hf
end Go.Proofs.YtbldeodchhfjfaaGreatDoor.F
