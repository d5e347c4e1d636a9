/- Texts in one: E2 E3 E4 E5 E6. -/
import Derived.Test.YtkleajhiihbefaaGreatDoorBK1
set_option linter.unusedVariables false
set_option linter.unusedSimpArgs false
set_option linter.unusedSectionVars false
namespace Go.Proofs.YtkleajhiihbefaaGreatDoor.K.E
open Go Go.RowKit
inductive Sh where
 | i64 | u8 | u16 | u32 | u64 | bool | str | nilp | nl
 | sl (n : Nat)
 | row (n t : Nat)
 | own (t : Nat) (s : Sh)
 | agg (s : Sh)
 | fn (f k : Nat) (s : Sh)
 | alt (a b : Sh)
 | lit (l : List UInt8)
 | pt (n : Nat)
 | gen (n : Nat)
 | con (n : Nat)
 | nil
 | cons (h r : Sh)
def Sh.isNil : Sh → Bool
 | .nil => true
 | _ => false
def Sh.ty (T : Nat → Type) : Sh → Type
 | .i64 => Int
 | .u8 => UInt8
 | .u32 => UInt32
 | .u16 => UInt16
 | .u64 => UInt64
 | .bool => Bool
 | .str => List UInt8
 | .nilp => Unit
 | .nl => Unit
 | .sl n => List (T n)
 | .row n _ => List (T n)
 | .own _ s => s.ty T
 | .agg s => s.ty T
 | .fn _ _ s => s.ty T
 | .alt a b => a.ty T ⊕ b.ty T
 | .lit _ => Unit
 | .pt n => T n
 | .gen n => T n
 | .con n => List (T n)
 | .nil => Unit
 | .cons h r => cond r.isNil (h.ty T) (h.ty T × r.ty T)
def castL {T : Nat → Type} (n n' : Nat) (l : List (T n')) : Option (List (T n)) := match Nat.decEq n' n with
 | isTrue h => some (h ▸ l)
 | isFalse _ => none
def castT {T : Nat → Type} (n n' : Nat) (x : T n') : Option (T n) := match Nat.decEq n' n with
 | isTrue h => some (h ▸ x)
 | isFalse _ => none
theorem castT_some {T : Nat → Type} {n n' : Nat} {l : T n'} {x : T n} (h : castT n n' l = some x) : ∃ e : n' = n, x = e ▸ l := by
 unfold castT at h
 split at h
 ·rename_i e _; cases h; exact ⟨e, rfl⟩
 ·cases h
theorem castL_some {T : Nat → Type} {n n' : Nat} {l : List (T n')} {x : List (T n)} (h : castL n n' l = some x) : ∃ e : n' = n, x = e ▸ l := by
 unfold castL at h
 split at h
 ·rename_i e _; cases h; exact ⟨e, rfl⟩
 ·cases h
section
variable (tb : Tab)
def imL (n sz : Nat) : Nat → List (AV tb.T) → Option (List (tb.T n))
 | 0, cs => match cs with
  | [] => some []
  | _ => none
 | k + 1, cs => match tb.im n (cs.take sz) with
  | some x => match imL n sz k (cs.drop sz) with
   | some r => some (x :: r)
   | none => none
  | none => none
def pkC {A B X : Type} (i : Bool) (f : Option (A × X)) (e : Bool) (g : X → Option (B × X)) : Option (cond i A (A × B) × X) := match f with
 | none => none
 | some (x, σ) => match i with
  | true => cond e (some (x, σ)) none
  | false => match g σ with
   | none => none
   | some (y, σ') => some ((x, y), σ')
def pkOwn {X : Type} (t : Nat) (as : List (AV tb.T)) (σ : Sg tb.T) (g : List (AV tb.T) → Sg tb.T → Option X) : Option X := match as with
 | [.ptr id off] => cond (Nat.beq off 0) (match lk σ id with
  | some (_, .blk t' c) => cond (Nat.beq t' t) (g c (del σ id)) none
  | _ => none) none
 | _ => none
def pkAgg {X : Type} (as : List (AV tb.T)) (g : List (AV tb.T) → Option X) : Option X := match as with
 | [.agg c] => g c
 | _ => none
def pkFn {X : Type} (f k : Nat) (as : List (AV tb.T)) (g : List (AV tb.T) → Option X) : Option X := match as with
 | [.fn f' l c] => cond (Nat.beq f' f && Nat.beq l.length k) (g (l ++ c)) none
 | _ => none
def pkCons {A B : Type} (i : Bool) (as : List (AV tb.T)) (σ : Sg tb.T) (f : List (AV tb.T) → Sg tb.T → Option (A × Sg tb.T)) (g : List (AV tb.T) → Sg tb.T → Option (B × Sg tb.T)) : Option (cond i A (A × B) × Sg tb.T) := match as with
 | [] => none
 | a :: as => pkC i (f [a] σ) as.isEmpty (fun σ => g as σ)
theorem pkOwn_some {X : Type} {t : Nat} {as : List (AV tb.T)} {σ : Sg tb.T} {g : List (AV tb.T) → Sg tb.T → Option X} {y : X} (h : pkOwn tb t as σ g = some y) : ∃ id st c, as = [.ptr id 0] ∧ lk σ id = some (st, .blk t c) ∧ g c (del σ id) = some y := by
 unfold pkOwn at h
 split at h
 ·rename_i id off
  cases ho : Nat.beq off 0 with
  | false => rw [ho] at h; cases h
  | true =>
   have := beq_t ho
   subst this
   rw [ho] at h
   simp only [cond_true] at h
   split at h
   ·rename_i st t' c hl
    cases hb : Nat.beq t' t with
    | false => rw [hb] at h; cases h
    | true =>
     have := beq_t hb
     subst this
     rw [hb] at h
     exact ⟨id, st, c, rfl, hl, h⟩
   ·cases h
 ·cases h
theorem pkAgg_some {X : Type} {as : List (AV tb.T)} {g : List (AV tb.T) → Option X} {y : X} (h : pkAgg tb as g = some y) : ∃ c, as = [.agg c] ∧ g c = some y := by
 unfold pkAgg at h
 split at h
 ·exact ⟨_, rfl, h⟩
 ·cases h
theorem pkFn_some {X : Type} {f k : Nat} {as : List (AV tb.T)} {g : List (AV tb.T) → Option X} {y : X} (h : pkFn tb f k as g = some y) : ∃ l c, as = [.fn f l c] ∧ l.length = k ∧ g (l ++ c) = some y := by
 unfold pkFn at h
 split at h
 ·rename_i f' l c
  cases hb : (Nat.beq f' f && Nat.beq l.length k) with
  | false => rw [hb] at h; cases h
  | true =>
   have hb2 := hb
   rw [Bool.and_eq_true] at hb2
   have := beq_t hb2.1
   subst this
   rw [hb] at h
   exact ⟨l, c, rfl, beq_t hb2.2, h⟩
 ·cases h
theorem pkCons_some {A B : Type} {i : Bool} {as : List (AV tb.T)} {σ : Sg tb.T} {f : List (AV tb.T) → Sg tb.T → Option (A × Sg tb.T)} {g : List (AV tb.T) → Sg tb.T → Option (B × Sg tb.T)} {y : cond i A (A × B) × Sg tb.T} (h : pkCons tb i as σ f g = some y) :
  ∃ a r, as = a :: r ∧ pkC i (f [a] σ) r.isEmpty (fun σ => g r σ) = some y := by
 unfold pkCons at h
 split at h
 ·cases h
 ·exact ⟨_, _, rfl, h⟩
def pkAlt {A B X : Type} (f : Option (A × X)) (g : Unit → Option (B × X)) : Option ((A ⊕ B) × X) := match f with
 | some (x, σ) => some (.inl x, σ)
 | none => match g () with
  | some (x, σ) => some (.inr x, σ)
  | none => none
theorem pkAlt_some {A B X : Type} {f : Option (A × X)} {g : Unit → Option (B × X)} {y : (A ⊕ B) × X} (h : pkAlt f g = some y) : (∃ x, f = some (x, y.2) ∧ y.1 = .inl x) ∨ ∃ x, g () = some (x, y.2) ∧ y.1 = .inr x := by
 unfold pkAlt at h
 split at h
 ·cases h; exact .inl ⟨_, rfl, rfl⟩
 ·split at h
  ·rename_i e; cases h; exact .inr ⟨_, e, rfl⟩
  ·cases h
def pkPt (n : Nat) (as : List (AV tb.T)) (σ : Sg tb.T) : Option (tb.T n × Sg tb.T) := match as with
 | [.cells off l] => cond (Nat.beq off 0) (match tb.im n l with
  | some x => some (x, σ)
  | none => none) none
 | _ => none
theorem pkPt_some {n : Nat} {as : List (AV tb.T)} {σ : Sg tb.T} {y : tb.T n × Sg tb.T} (h : pkPt tb n as σ = some y) : ∃ l, as = [.cells 0 l] ∧ tb.im n l = some y.1 ∧ y.2 = σ := by
 unfold pkPt at h
 split at h
 ·rename_i off l
  cases hb : Nat.beq off 0 with
  | false => rw [hb] at h; cases h
  | true =>
   have := beq_t hb
   subst this
   rw [hb] at h
   simp only [cond_true] at h
   split at h
   ·rename_i e; cases h; exact ⟨l, rfl, e, rfl⟩
   ·cases h
 ·cases h
def castE {T : Nat → Type} (n n' : Nat) (x : T n') : Option (T n) := match Nat.decEq n' n with
 | isTrue h => some (h ▸ x)
 | isFalse _ => none
theorem castE_some {T : Nat → Type} {n n' : Nat} {y : T n'} {x : T n} (h : castE n n' y = some x) : ∃ e : n' = n, x = e ▸ y := by
 unfold castE at h
 split at h
 ·rename_i e _; cases h; exact ⟨e, rfl⟩
 ·cases h
def pkGen (n : Nat) (as : List (AV tb.T)) (σ : Sg tb.T) : Option (tb.T n × Sg tb.T) := match as with
 | [.row id] => match lk σ id with
  | some (_, .gen n' x j) => cond (Nat.beq j id) (match castE n n' x with
   | some x => some (x, del σ id)
   | none => none) none
  | _ => none
 | [.nils] => match tb.dp n with
  | some d => some (d.of [], σ)
  | none => none
 | _ => none
theorem pkGen_some {n : Nat} {as : List (AV tb.T)} {σ : Sg tb.T} {y : tb.T n × Sg tb.T} (h : pkGen tb n as σ = some y) : (∃ id st, as = [.row id] ∧ lk σ id = some (st, .gen n y.1 id) ∧ y.2 = del σ id) ∨ ∃ d, as = [.nils] ∧ tb.dp n = some d ∧ y.1 = d.of [] ∧ y.2 = σ := by
 unfold pkGen at h
 split at h
 ·rename_i id
  split at h
  ·rename_i st n' x j hl
   cases hb : Nat.beq j id with
   | false => rw [hb] at h; cases h
   | true =>
    have := beq_t hb
    subst this
    rw [hb] at h
    simp only [cond_true] at h
    split at h
    ·rename_i x' hx
     obtain ⟨e, rfl⟩ := castE_some hx
     subst e
     cases h
     exact .inl ⟨j, st, rfl, hl, rfl⟩
    ·cases h
  ·cases h
 ·split at h
  ·rename_i d hd; cases h; exact .inr ⟨d, rfl, hd, rfl, rfl⟩
  ·cases h
 ·cases h
def pk : (sh : Sh) → List (AV tb.T) → Sg tb.T → Option (sh.ty tb.T × Sg tb.T)
 | .i64, as, σ => match as with | [.i64 x] => some (x, σ) | _ => none
 | .u8, as, σ => match as with | [.u8 x] => some (x, σ) | _ => none
 | .u32, as, σ => match as with | [.u32 x] => some (x, σ) | _ => none
 | .u16, as, σ => match as with | [.u16 x] => some (x, σ) | _ => none
 | .u64, as, σ => match as with | [.u64 x] => some (x, σ) | _ => none
 | .bool, as, σ => match as with | [.bool x] => some (x, σ) | _ => none
 | .str, as, σ => match as with | [.str x] => some (x, σ) | _ => none
 | .nilp, as, σ => match as with | [.nilp] => some ((), σ) | _ => none
 | .nl, as, σ => match as with | [.nils] => some ((), σ) | _ => none
 | .sl n, as, σ => match as with
  | [.sl n' l] => match castL n n' l with | some x => some (x, σ) | none => none
  | [.nils] => some ([], σ)
  | _ => none
 | .row n t, as, σ => match as with
  | [.row id] => match lk σ id with
   | some (_, .row n' t' l) => cond (Nat.beq t' t) (match castL n n' l with | some x => some (x, del σ id) | none => none) none
   | some (_, .lit t' k c) => cond (Nat.beq t' t && Nat.ble k 137438953472) (match imL tb n (tb.rep n).sz k c with | some x => some (x, del σ id) | none => none) none
   | _ => none
  | [.nils] => some ([], σ)
  | _ => none
 | .own t s, as, σ => pkOwn tb t as σ (pk s)
 | .agg s, as, σ => pkAgg tb as (fun c => pk s c σ)
 | .fn f k s, as, σ => pkFn tb f k as (fun c => pk s c σ)
 | .alt a b, as, σ => pkAlt (pk a as σ) (fun _ => pk b as σ)
 | .lit l, as, σ => match as with | [.str x] => cond (x == l) (some ((), σ)) none | _ => none
 | .pt n, as, σ => pkPt tb n as σ
 | .gen n, as, σ => pkGen tb n as σ
 | .con n, as, σ => match as with
  | [.con n' l] => match castL n n' l with | some x => some (x, σ) | none => none
  | _ => none
 | .nil, as, σ => match as with | [] => some ((), σ) | _ => none
 | .cons h r, as, σ => pkCons tb r.isNil as σ (pk h) (pk r)
abbrev Up (T : Nat → Type) := List (AV T) × Sg T × Nat
def upC {A B : Type} {T : Nat → Type} (i : Bool) (f : A → Nat → Up T) (g : B → Nat → Up T) (x : cond i A (A × B)) (c : Nat) : Up T := match i, x with
 | true, x => f x c
 | false, (x, y) => match f x c with
  | (as, σ, c) => match g y c with
   | (bs, σ', c) => (as ++ bs, σ ++ σ', c)
def up (st : Nat) : (sh : Sh) → sh.ty tb.T → Nat → Up tb.T
 | .i64, x, c => ([.i64 x], [], c)
 | .u8, x, c => ([.u8 x], [], c)
 | .u32, x, c => ([.u32 x], [], c)
 | .u16, x, c => ([.u16 x], [], c)
 | .u64, x, c => ([.u64 x], [], c)
 | .bool, x, c => ([.bool x], [], c)
 | .str, x, c => ([.str x], [], c)
 | .nilp, _, c => ([.nilp], [], c)
 | .nl, _, c => ([.nils], [], c)
 | .sl n, x, c => ([.sl n x], [], c)
 | .row n t, x, c => ([.row c], [(c, st, .row n t x)], c + 1)
 | .own t s, x, c => match up st s x (c + 1) with
  | (as, σ, c') => ([.ptr c 0], (c, st, .blk t as) :: σ, c')
 | .agg s, x, c => match up st s x c with
  | (as, σ, c') => ([.agg as], σ, c')
 | .fn f k s, x, c => match up st s x c with
  | (as, σ, c') => ([.fn f (as.take k) (as.drop k)], σ, c')
 | .alt a b, x, c => match x with
  | .inl y => up st a y c
  | .inr y => up st b y c
 | .lit l, _, c => ([.str l], [], c)
 | .pt n, x, c => ([.cells 0 (tb.ex n x)], [], c)
 | .gen n, x, c => ([.row c], [(c, st, .gen n x c)], c + 1)
 | .con n, x, c => ([.con n x], [], c)
 | .nil, _, c => ([], [], c)
 | .cons h r, x, c => upC r.isNil (up st h) (up st r) x c
end
structure KindOk (tb : Tab) : Prop where
 dgi : ∀ {k : Nat} {d : DP tb.T tb.rep k}, tb.dp k = some d → (∀ x v u, tb.gi k x v u = deepI d.D d.tk d.t (d.to x) v) ∧ (∀ x v u, tb.gi d.hk x v u = holeI d.D d.tk d.t (d.toh x) v u) ∧ (∀ l, d.to (d.of l) = l) ∧ ∀ q, d.toh (d.ofh q) = q
 mgi : ∀ {k : Nat} {d : MP tb.T tb.rep k}, tb.mp k = some d → (∀ x v u, tb.gi k x v u = @mapG d.α (tb.T d.n) d.b d.K d.wf (tb.rep d.n) d.g (d.to x) v) ∧ (∀ l, d.to (d.of l) = l) ∧ (∀ (η : List Value) (m : Mem) (a : AV tb.T) (x : d.α) (v : Value), d.va a = some x → R tb η m a v → v = d.K.fk x ∧ d.wf x) ∧
  (∀ (η : List Value) (m : Mem) (x : d.α), d.wf x → R tb η m (d.av x) (d.K.fk x)) ∧ ∀ td, d.ktd td = true → td = d.K.td
 mre : ∀ {k : Nat} {d : MP tb.T tb.rep k}, tb.mp k = some d → ∀ (m : Mem) (v : Value) (x : tb.T k), (tb.rep k).im m [v] x ↔ @mapF d.α (tb.T d.n) d.b d.K d.wf (tb.rep d.n) d.g m (d.to x) v
structure TabOk (tb : Tab) : Prop where
 im : ∀ {n : Nat} {as : List (AV tb.T)} {x : tb.T n} {η : List Value} {m : Mem} {vs : List Value}, tb.im n as = some x → RL tb η m as vs → (tb.rep n).im m vs x
 ex : ∀ {n : Nat} {x : tb.T n} {η : List Value} {m : Mem} {vs : List Value}, (tb.rep n).im m vs x → RL tb η m (tb.ex n x) vs
 fl : ∀ {n : Nat} {x : tb.T n} {η η' : List Value} {m : Mem} {vs : List Value}, RL tb η m (tb.ex n x) vs → RL tb η' m (tb.ex n x) vs
 tou8 : ∀ {n : Nat} {l : List (tb.T n)} {x : List UInt8}, tb.tou8 n l = some x → ∀ M : (α : Type) → Rep α → List α → Prop, M (tb.T n) (tb.rep n) l → M UInt8 rU8 x
 ofu8 : ∀ {x : List UInt8} (M : (α : Type) → Rep α → List α → Prop), M UInt8 rU8 x → M (tb.T tb.u8c) (tb.rep tb.u8c) (tb.ofu8 x)
 kd : KindOk tb
def Glob (tb : Tab) (m : Mem) : Prop := ∀ {g n : Nat} {l : List (tb.T n)}, tb.gl g = some ⟨n, l⟩ → ∃ t fr xs, m g = some (.cells (xs : List Value).toArray t fr) ∧ Rows (tb.rep n) m xs l
theorem Glob.mono {tb : Tab} {m m' : Mem} (h : Glob tb m) (hs : Sub m m') : Glob tb m' := fun e => let ⟨t, fr, xs, h1, h2⟩ := h e; ⟨t, fr, xs, hs _ _ h1, h2.mono hs⟩
section
variable {tb : Tab} (ok : TabOk tb)
include ok
theorem imL_ok {n : Nat} {η : List Value} {m : Mem} : ∀ {k : Nat} {cs : List (AV tb.T)} {x : List (tb.T n)} {vs : List Value}, imL tb n (tb.rep n).sz k cs = some x → RL tb η m cs vs → Rows (tb.rep n) m vs x ∧ x.length = k
 | 0, cs, x, vs, h, hr => by
  simp only [imL] at h
  split at h
  ·cases h; rw [show vs = [] from hr]; exact ⟨rfl, rfl⟩
  ·cases h
 | k + 1, cs, x, vs, h, hr => by
  simp only [imL] at h
  cases h1 : tb.im n (cs.take (tb.rep n).sz) with
  | none => rw [h1] at h; cases h
  | some y =>
   rw [h1] at h
   simp only at h
   cases h2 : imL tb n (tb.rep n).sz k (cs.drop (tb.rep n).sz) with
   | none => rw [h2] at h; cases h
   | some r =>
    rw [h2] at h
    cases h
    obtain ⟨h3, h4⟩ := imL_ok h2 (hr.drop _)
    refine ⟨⟨vs.take (tb.rep n).sz, vs.drop (tb.rep n).sz, (List.take_append_drop _ _).symm, ok.im h1 (hr.take _), h3⟩, by rw [List.length_cons, h4]⟩
end
def PkPost (tb : Tab) (η : List Value) (m : Mem) (w : World) (vs : List Value) (σ' : Sg tb.T) (F : Nat → Prop) (η0 : List Value) (u : Up tb.T) : Prop :=
 ∃ η1, u.2.2 = (η0 ++ η1).length ∧ RL tb (η0 ++ η1) m u.1 vs ∧ ∃ F1 F2, Sep m w (its tb (η0 ++ η1) u.2.1) F1 ∧ Sep m w (its tb η σ') F2 ∧ (∀ k, F1 k → F2 k → False) ∧ ∀ k, F1 k ∨ F2 k → F k
theorem PkPost.pure {tb : Tab} {η : List Value} {m : Mem} {w : World} {σ : Sg tb.T} {F : Nat → Prop} {η0 : List Value} {as : List (AV tb.T)} {vs : List Value} (h : RL tb η0 m as vs) (hs : Sep m w (its tb η σ) F) : PkPost tb η m w vs σ F η0 (as, [], η0.length) :=
 ⟨[], by simp, by simpa using h, fun _ => False, F, fun _ e => e, hs, fun _ e => e.elim, fun k e => e.elim False.elim id⟩
theorem PkPost.item {tb : Tab} {η : List Value} {m : Mem} {w : World} {σ' : Sg tb.T} {F F1 F2 : Nat → Prop} {η0 : List Value} {a : AV tb.T} {v u : Value} {x : DI tb.T} {st : Nat} (h : R tb (η0 ++ [u]) m a v) (hx : (x.item tb (η0 ++ [u]) η0.length).P m w F1)
  (hs : Sep m w (its tb η σ') F2) (hd : ∀ k, F1 k → F2 k → False) (hF : ∀ k, F1 k ∨ F2 k → F k) : PkPost tb η m w [v] σ' F η0 ([a], [(η0.length, st, x)], η0.length + 1) :=
 ⟨[u], by simp, RL.mk1 h, F1, F2, Sep.one hx, hs, hd, hF⟩
theorem app_at (η0 : List Value) (u : Value) (r : List Value) : (η0 ++ u :: r)[η0.length]? = some u := by
 rw [List.getElem?_append_right (Nat.le_refl _), Nat.sub_self]; rfl
theorem castL_cases {tb : Tab} {n n' : Nat} {l : List (tb.T n')} {x : List (tb.T n)} (h : castL n n' l = some x) {M : (k : Nat) → List (tb.T k) → Prop} (hm : M n' l) : M n x := by
 obtain ⟨e, rfl⟩ := castL_some h
 subst e
 exact hm
theorem sep_assoc {m : Mem} {w : World} {a b : List Item} {F Fa Fr Fb Fc : Nat → Prop} (ha : Sep m w a Fa) (hb : Sep m w b Fb) (d1 : ∀ k, Fa k → Fr k → False) (e1 : ∀ k, Fa k ∨ Fr k → F k) (d2 : ∀ k, Fb k → Fc k → False) (e2 : ∀ k, Fb k ∨ Fc k → Fr k) :
  Sep m w (a ++ b) (fun k => Fa k ∨ Fb k) ∧ (∀ k, (Fa k ∨ Fb k) → Fc k → False) ∧ ∀ k, (Fa k ∨ Fb k) ∨ Fc k → F k :=
 ⟨Sep.app.2 ⟨Fa, Fb, ha, hb, fun k p q => d1 k p (e2 k (.inl q)), fun k => Iff.rfl⟩, fun k p q => p.elim (fun p => d1 k p (e2 k (.inr q))) (fun p => d2 k p q),
  fun k e => e1 k (e.elim (fun e => e.elim .inl (fun e => .inr (e2 k (.inl e)))) (fun e => .inr (e2 k (.inr e))))⟩
def PkOk (tb : Tab) (st : Nat) (sh : Sh) : Prop := ∀ {as : List (AV tb.T)} {σ σ' : Sg tb.T} {x : sh.ty tb.T}, pk tb sh as σ = some (x, σ') → ∀ {η : List Value} {m : Mem} {vs : List Value} {w : World} {F : Nat → Prop},
  RL tb η m as vs → Sep m w (its tb η σ) F → ∀ η0 : List Value, PkPost tb η m w vs σ' F η0 (up tb st sh x η0.length)
theorem pk_i64 {tb : Tab} (ok : TabOk tb) (st : Nat)  : PkOk tb st .i64 := by
 intro as σ σ' x h η m vs w F hr hs η0
 unfold pk at h; split at h <;> cases h; obtain ⟨v, rfl, hv⟩ := hr.one; exact PkPost.pure (RL.mk1 hv) hs
theorem pk_u8 {tb : Tab} (ok : TabOk tb) (st : Nat)  : PkOk tb st .u8 := by
 intro as σ σ' x h η m vs w F hr hs η0
 unfold pk at h; split at h <;> cases h; obtain ⟨v, rfl, hv⟩ := hr.one; exact PkPost.pure (RL.mk1 hv) hs
theorem pk_u32 {tb : Tab} (ok : TabOk tb) (st : Nat)  : PkOk tb st .u32 := by
 intro as σ σ' x h η m vs w F hr hs η0
 unfold pk at h; split at h <;> cases h; obtain ⟨v, rfl, hv⟩ := hr.one; exact PkPost.pure (RL.mk1 hv) hs
theorem pk_u16 {tb : Tab} (ok : TabOk tb) (st : Nat)  : PkOk tb st .u16 := by
 intro as σ σ' x h η m vs w F hr hs η0
 unfold pk at h; split at h <;> cases h; obtain ⟨v, rfl, hv⟩ := hr.one; exact PkPost.pure (RL.mk1 hv) hs
theorem pk_u64 {tb : Tab} (ok : TabOk tb) (st : Nat)  : PkOk tb st .u64 := by
 intro as σ σ' x h η m vs w F hr hs η0
 unfold pk at h; split at h <;> cases h; obtain ⟨v, rfl, hv⟩ := hr.one; exact PkPost.pure (RL.mk1 hv) hs
theorem pk_bool {tb : Tab} (ok : TabOk tb) (st : Nat)  : PkOk tb st .bool := by
 intro as σ σ' x h η m vs w F hr hs η0
 unfold pk at h; split at h <;> cases h; obtain ⟨v, rfl, hv⟩ := hr.one; exact PkPost.pure (RL.mk1 hv) hs
theorem pk_str {tb : Tab} (ok : TabOk tb) (st : Nat)  : PkOk tb st .str := by
 intro as σ σ' x h η m vs w F hr hs η0
 unfold pk at h; split at h <;> cases h; obtain ⟨v, rfl, hv⟩ := hr.one; exact PkPost.pure (RL.mk1 hv) hs
theorem pk_lit {tb : Tab} (ok : TabOk tb) (st : Nat) (l : List UInt8) : PkOk tb st (.lit l) := by
 intro as σ σ' x h η m vs w F hr hs η0
 unfold pk at h; split at h
 ·rename_i y
  cases hb : (y == l) with
  | false => rw [hb] at h; cases h
  | true =>
   rw [hb] at h
   cases h
   obtain ⟨v, rfl, hv⟩ := hr.one
   have := beq_iff_eq.1 hb
   subst this
   exact PkPost.pure (RL.mk1 hv) hs
 ·cases h
theorem pk_pt {tb : Tab} (ok : TabOk tb) (st : Nat) (n : Nat) : PkOk tb st (.pt n) := by
 intro as σ σ' x h η m vs w F hr hs η0
 obtain ⟨l, rfl, hy, h2⟩ := pkPt_some tb (show pkPt tb n as σ = some (x, σ') from h)
 have h2 : σ' = σ := h2
 subst h2
 obtain ⟨v, rfl, A, cs, e1, e2, e3⟩ := hr.one
 exact PkPost.pure (RL.mk1 (a := .cells 0 (tb.ex n x)) ⟨A, cs, e1, e2, ok.ex (ok.im hy e3)⟩) hs
theorem pk_gen {tb : Tab} (ok : TabOk tb) (st : Nat) (n : Nat) : PkOk tb st (.gen n) := by
 intro as σ σ' x h η m vs w F hr hs η0
 rcases pkGen_some tb (show pkGen tb n as σ = some (x, σ') from h) with ⟨id, st', rfl, hl, h2⟩ | ⟨d, rfl, hd, h1, h2⟩
 rotate_left
 ·have h1 : x = d.of [] := h1
  have h2 : σ' = σ := h2
  subst h1 h2
  obtain ⟨v, rfl, hv⟩ := hr.one
  have hv : v = .slice none 0 0 := hv
  subst hv
  refine PkPost.item (F1 := fun _ => False) (u := .slice none 0 0) ⟨app_at _ _ _, rfl⟩ ⟨_, _, ⟨app_at _ _ _, app_at _ _ _⟩, rfl, ?_⟩ hs (fun _ e => e.elim) (fun k e => e.elim False.elim id)
  rw [(ok.kd.dgi hd).1, (ok.kd.dgi hd).2.2.1]
  exact deepI_nil _ _ _
 have h2 : σ' = del σ id := h2
 subst h2
 obtain ⟨v, rfl, hv⟩ := hr.one
 obtain ⟨F1, F2, ⟨v', u, ⟨h1, h1'⟩, h2, h3⟩, h4, h5, h6⟩ := Sep_lk hl hs
 rw [h1] at h1'
 cases h1'
 rw [hv.1] at h1
 cases h1
 exact PkPost.item (u := v) ⟨app_at _ _ _, h2⟩ ⟨v, v, ⟨app_at _ _ _, app_at _ _ _⟩, h2, h3⟩ h4 h5 h6
theorem pk_nilp {tb : Tab} (ok : TabOk tb) (st : Nat)  : PkOk tb st .nilp := by
 intro as σ σ' x h η m vs w F hr hs η0
 unfold pk at h; split at h <;> cases h; obtain ⟨v, rfl, hv⟩ := hr.one; exact PkPost.pure (RL.mk1 hv) hs
theorem pk_nl {tb : Tab} (ok : TabOk tb) (st : Nat)  : PkOk tb st .nl := by
 intro as σ σ' x h η m vs w F hr hs η0
 unfold pk at h; split at h <;> cases h; obtain ⟨v, rfl, hv⟩ := hr.one; exact PkPost.pure (RL.mk1 hv) hs
theorem pk_con {tb : Tab} (ok : TabOk tb) (st : Nat) (n : Nat) : PkOk tb st (.con n) := by
 intro as σ σ' x h η m vs w F hr hs η0
 unfold pk at h
 split at h
 ·rename_i n' l
  cases hc : castL n n' l with
  | none => rw [hc] at h; cases h
  | some y =>
   rw [hc] at h
   cases h
   obtain ⟨v, rfl, hv⟩ := hr.one
   exact PkPost.pure (RL.mk1 (castL_cases hc (M := fun k l => R tb η0 m (.con k l) v) hv)) hs
 ·cases h
theorem pk_sl {tb : Tab} (ok : TabOk tb) (st : Nat) (n : Nat) : PkOk tb st (.sl n) := by
 intro as σ σ' x h η m vs w F hr hs η0
 unfold pk at h
 split at h
 ·rename_i n' l
  cases hc : castL n n' l with
  | none => rw [hc] at h; cases h
  | some y =>
   rw [hc] at h
   cases h
   obtain ⟨v, rfl, hv⟩ := hr.one
   exact PkPost.pure (RL.mk1 (castL_cases hc (M := fun k l => R tb η0 m (.sl k l) v) hv)) hs
 ·cases h
  obtain ⟨v, rfl, hv⟩ := hr.one
  exact PkPost.pure (RL.mk1 ⟨none, 0, hv, SlI.nil _ _⟩) hs
 ·cases h
theorem pk_row {tb : Tab} (ok : TabOk tb) (st : Nat) (n : Nat) (t : Nat) : PkOk tb st (.row n t) := by
 intro as σ σ' x h η m vs w F hr hs η0
 unfold pk at h
 split at h
 ·rename_i id
  obtain ⟨v, rfl, hv⟩ := hr.one
  cases hl : lk σ id with
  | none => rw [hl] at h; cases h
  | some p =>
   obtain ⟨st', y⟩ := p
   rw [hl] at h
   cases y with
   | blk => cases h
   | kep => cases h
   | gen => cases h
   | row n' t' l =>
    simp only at h
    cases hb : Nat.beq t' t with
    | false => rw [hb] at h; cases h
    | true =>
     have := beq_t hb
     subst this
     rw [hb] at h
     simp only [cond_true] at h
     cases hc : castL n n' l with
     | none => rw [hc] at h; cases h
     | some z =>
      rw [hc] at h
      obtain ⟨hx, h'⟩ := Prod.mk.inj (Option.some.inj h)
      subst h'
      have hx : z = x := hx
      subst hx
      obtain ⟨F1, F2, ⟨A, c, h1, h2⟩, h3, h4, h5⟩ := Sep_lk hl hs
      have e : v = .slice A l.length c := by rw [hv.1] at h1; exact Option.some.inj h1
      subst e
      have h6 : ∃ k : (Option Addr), ∃ c' : Nat, Value.slice A l.length c = .slice A z.length c ∧ (rowI (tb.rep n) t' A c z).P m w F1 := castL_cases hc (M := fun k z => ∃ _ : (Option Addr), ∃ _ : Nat, Value.slice A l.length c = .slice A z.length c ∧ (rowI (tb.rep k) t' A c z).P m w F1) ⟨none, 0, rfl, h2⟩
      obtain ⟨_, _, h7, h8⟩ := h6
      refine PkPost.item (u := .slice A z.length c) ⟨by rw [h7]; exact app_at _ _ _, rfl⟩ ⟨A, c, app_at _ _ _, h8⟩ h3 h4 h5
   | lit t' k c =>
    simp only at h
    cases hb : (Nat.beq t' t && Nat.ble k 137438953472) with
    | false => rw [hb] at h; cases h
    | true =>
     rw [Bool.and_eq_true] at hb
     have := beq_t hb.1
     subst this
     have hk := Nat.le_of_ble_eq_true hb.2
     rw [hb.1, hb.2] at h
     simp only [Bool.and_true, cond_true] at h
     cases hc : imL tb n (tb.rep n).sz k c with
     | none => rw [hc] at h; cases h
     | some z =>
      rw [hc] at h
      obtain ⟨hx, h'⟩ := Prod.mk.inj (Option.some.inj h)
      subst h'
      have hx : z = x := hx
      subst hx
      obtain ⟨F1, F2, ⟨g, cs, h1, h2, h2'⟩, h3, h4, h5⟩ := Sep_lk hl hs
      have e : v = .slice (some ⟨g, 0, none⟩) k k := by rw [hv.1] at h1; exact Option.some.inj h1
      subst e
      obtain ⟨h6, h7⟩ := imL_ok ok hc h2
      subst h7
      have hml : z.length ≤ maxLen := Nat.le_trans hk (by decide)
      have hown := own_of_blk (base := 0) (n := z.length) (sz := (tb.rep n).sz) h2'.1 (Nat.zero_le _) hml (by simpa using h6.len)
      refine PkPost.item (F1 := F1) (u := .slice (some ⟨g, 0, none⟩) z.length z.length) ⟨app_at _ _ _, rfl⟩ ⟨_, _, app_at _ _ _, ⟨cs, h6, by simpa using hown⟩, fun j => ?_⟩ h3 h4 h5
      rw [h2'.2 j]
      exact ⟨fun e => by subst e; rfl, fun e => by cases e; rfl⟩
 ·cases h
  obtain ⟨v, rfl, hv⟩ := hr.one
  have hv : v = .slice none 0 0 := hv
  subst hv
  exact PkPost.item (F1 := fun _ => False) (u := .slice none 0 0) ⟨app_at _ _ _, rfl⟩ ⟨none, 0, app_at _ _ _, ⟨[], rfl, World.ownsRow_nil _ _ _ _⟩, fun k => ⟨False.elim, fun e => by cases e⟩⟩ hs (fun _ e => e.elim) (fun k e => e.elim False.elim id)
 ·cases h
theorem pk_own {tb : Tab} (ok : TabOk tb) (st : Nat) (t : Nat) (s : Sh) (ih : PkOk tb st s) : PkOk tb st (.own t s) := by
 intro as σ σ' x h η m vs w F hr hs η0
 obtain ⟨id, st', c, rfl, hl, h⟩ := pkOwn_some tb (show pkOwn tb t as σ (pk tb s) = some (x, σ') from h)
 obtain ⟨v, rfl, hv⟩ := hr.one
 obtain ⟨F1, F2, ⟨g, cs, h1, h2, h2'⟩, h3, h4, h5⟩ := Sep_lk hl hs
 obtain ⟨g', k1, rfl⟩ := hv
 rw [h1] at k1
 cases k1
 have hp := ih h h2 h3 (η0 ++ [.pointer (some ⟨g, 0, none⟩)])
 rw [List.length_append, List.length_singleton] at hp
 unfold up
 generalize up tb st s x (η0.length + 1) = u at hp ⊢
 obtain ⟨as', σ1, c'⟩ := u
 obtain ⟨η1, h6, h7, G1, G2, h8, h9, h10, h11⟩ := hp
 simp only at h6 h7 h8
 have e : η0 ++ [Value.pointer (some ⟨g, 0, none⟩)] ++ η1 = η0 ++ (.pointer (some ⟨g, 0, none⟩) :: η1) := by simp
 rw [e] at h6 h7 h8
 refine ⟨.pointer (some ⟨g, 0, none⟩) :: η1, h6, RL.mk1 ⟨g, app_at _ _ _, rfl⟩, fun k => F1 k ∨ G1 k, G2, ?_, h9, ?_, ?_⟩
 ·exact ⟨F1, G1, ⟨g, cs, app_at _ _ _, h7, h2'⟩, h8, fun k a b => h4 k a (h11 k (.inl b)), fun k => Iff.rfl⟩
 ·intro k a b
  exact a.elim (fun a => h4 k a (h11 k (.inr b))) (fun a => h10 k a b)
 ·exact fun k e => h5 k (e.elim (fun e => e.elim .inl (fun e => .inr (h11 k (.inl e)))) (fun e => .inr (h11 k (.inr e))))
theorem pk_agg {tb : Tab} (ok : TabOk tb) (st : Nat) (s : Sh) (ih : PkOk tb st s) : PkOk tb st (.agg s) := by
 intro as σ σ' x h η m vs w F hr hs η0
 obtain ⟨c, rfl, h⟩ := pkAgg_some tb (show pkAgg tb as (fun c => pk tb s c σ) = some (x, σ') from h)
 obtain ⟨v, rfl, cs, rfl, hv⟩ := hr.one
 have hp := ih h hv hs η0
 unfold up
 generalize up tb st s x η0.length = u at hp ⊢
 obtain ⟨as', σ1, c'⟩ := u
 obtain ⟨η1, h6, h7, h8⟩ := hp
 exact ⟨η1, h6, RL.mk1 ⟨cs, rfl, h7⟩, h8⟩
theorem pk_fn {tb : Tab} (ok : TabOk tb) (st : Nat) (f : Nat) (k : Nat) (s : Sh) (ih : PkOk tb st s) : PkOk tb st (.fn f k s) := by
 intro as σ σ' x h η m vs w F hr hs η0
 obtain ⟨l, c, rfl, hk, h⟩ := pkFn_some tb (show pkFn tb f k as (fun c => pk tb s c σ) = some (x, σ') from h)
 obtain ⟨v, rfl, xs, ys, rfl, hx, hy⟩ := hr.one
 have hp := ih h (hx.app hy) hs η0
 unfold up
 generalize up tb st s x η0.length = u at hp ⊢
 obtain ⟨as', σ1, c'⟩ := u
 obtain ⟨η1, h6, h7, h8⟩ := hp
 refine ⟨η1, h6, RL.mk1 ⟨xs, ys, rfl, ?_, ?_⟩, h8⟩
 ·have := h7.take k
  rwa [List.take_left' (by rw [hx.len]; exact hk)] at this
 ·have := h7.drop k
  rwa [List.drop_left' (by rw [hx.len]; exact hk)] at this
theorem pk_alt {tb : Tab} (ok : TabOk tb) (st : Nat) (a b : Sh) (iha : PkOk tb st a) (ihb : PkOk tb st b) : PkOk tb st (.alt a b) := by
 intro as σ σ' x h η m vs w F hr hs η0
 rcases pkAlt_some (show pkAlt (pk tb a as σ) (fun _ => pk tb b as σ) = some (x, σ') from h) with ⟨y, h1, h2⟩ | ⟨y, h1, h2⟩
 ·have h2 : x = .inl y := h2
  subst h2
  exact iha h1 hr hs η0
 ·have h2 : x = .inr y := h2
  subst h2
  exact ihb h1 hr hs η0
theorem pk_nil {tb : Tab} (ok : TabOk tb) (st : Nat)  : PkOk tb st .nil := by
 intro as σ σ' x h η m vs w F hr hs η0
 unfold pk at h
 split at h
 ·cases h; exact PkPost.pure hr hs
 ·cases h
theorem pk_cons {tb : Tab} (ok : TabOk tb) (st : Nat) (hd : Sh) (r : Sh) (ih1 : PkOk tb st hd) (ih2 : PkOk tb st r) : PkOk tb st (.cons hd r) := by
 intro as σ σ' x h η m vs w F hr hs η0
 obtain ⟨a, as, rfl, hh⟩ := pkCons_some tb (show pkCons tb r.isNil as σ (pk tb hd) (pk tb r) = some (x, σ') from h)
 clear h
 have h := hh
 clear hh
 ·obtain ⟨v, vs', rfl, hv, hvs⟩ := hr
  unfold pkC at h
  cases h1 : pk tb hd [a] σ with
  | none => rw [h1] at h; cases h
  | some p =>
   obtain ⟨y, σ1⟩ := p
   rw [h1] at h
   simp only at h
   have hp := ih1 h1 (RL.mk1 hv) hs η0
   unfold up
   simp only [Sh.ty] at x h
   generalize hi : r.isNil = i at x h ⊢
   cases i with
   | true =>
    simp only at h
    cases hb : as.isEmpty with
    | false => rw [hb] at h; cases h
    | true =>
     rw [hb] at h
     simp only [cond_true, Option.some.injEq, Prod.mk.injEq] at h
     obtain ⟨rfl, rfl⟩ := h
     have := List.isEmpty_iff.1 hb
     subst this
     have : vs' = [] := hvs
     subst this
     exact hp
   | false =>
    simp only at h
    cases h2 : pk tb r as σ1 with
    | none => rw [h2] at h; cases h
    | some p2 =>
     obtain ⟨z, σ2⟩ := p2
     rw [h2] at h
     simp only [Option.some.injEq, Prod.mk.injEq] at h
     obtain ⟨rfl, rfl⟩ := h
     simp only [upC]
     generalize up tb st hd y η0.length = u at hp ⊢
     obtain ⟨bs, τ, c1⟩ := u
     obtain ⟨η1, h6, h7, F1, F2, h8, h9, h10, h11⟩ := hp
     simp only at h6 h7 h8
     subst h6
     have hp2 := ih2 h2 hvs h9 (η0 ++ η1)
     simp only
     generalize up tb st r z (η0 ++ η1).length = u at hp2 ⊢
     obtain ⟨bs2, τ2, c2⟩ := u
     obtain ⟨η2, k6, k7, G1, G2, k8, k9, k10, k11⟩ := hp2
     simp only at k6 k7 k8
     have e : η0 ++ η1 ++ η2 = η0 ++ (η1 ++ η2) := List.append_assoc _ _ _
     have hle := Le.app (η0 ++ η1) η2
     obtain ⟨q1, q2, q3⟩ := sep_assoc (its_le hle τ h8) k8 h10 h11 k10 k11
     rw [e] at k6 k7 q1 hle
     refine ⟨η1 ++ η2, k6, ?_, fun k => F1 k ∨ G1 k, G2, ?_, k9, q2, q3⟩
     ·have := (RL.mono hle (Sub.refl _) bs h7).app k7
      simpa using this
     ·rw [its_app]
      exact q1
theorem pk_ok {tb : Tab} (ok : TabOk tb) (st : Nat) : ∀ sh : Sh, PkOk tb st sh
 | .i64 => pk_i64 ok st
 | .u8 => pk_u8 ok st
 | .u32 => pk_u32 ok st
 | .u16 => pk_u16 ok st
 | .u64 => pk_u64 ok st
 | .bool => pk_bool ok st
 | .str => pk_str ok st
 | .nilp => pk_nilp ok st
 | .nl => pk_nl ok st
 | .sl n => pk_sl ok st n
 | .row n t => pk_row ok st n t
 | .own t s => pk_own ok st t s (pk_ok ok st s)
 | .agg s => pk_agg ok st s (pk_ok ok st s)
 | .fn f k s => pk_fn ok st f k s (pk_ok ok st s)
 | .alt a b => pk_alt ok st a b (pk_ok ok st a) (pk_ok ok st b)
 | .lit l => pk_lit ok st l
 | .pt n => pk_pt ok st n
 | .gen n => pk_gen ok st n
 | .con n => pk_con ok st n
 | .nil => pk_nil ok st
 | .cons hd r => pk_cons ok st hd r (pk_ok ok st hd) (pk_ok ok st r)
def altE {A B C : Type} (x : A ⊕ B) (f : A → C) (g : B → C) : C := match x with
 | .inl y => f y
 | .inr y => g y
def splC {A B C : Type} (i : Bool) (f : A → (A → C) → C) (g : B → (B → C) → C) (x : cond i A (A × B)) (k : cond i A (A × B) → C) : C := match i, x, k with
 | true, x, k => f x k
 | false, x, k => f x.1 fun a => g x.2 fun b => k (a, b)
def split {T : Nat → Type} {C : Type} : (sh : Sh) → sh.ty T → (sh.ty T → C) → C
 | .own _ s, x, k => split s x k
 | .agg s, x, k => split s x k
 | .fn _ _ s, x, k => split s x k
 | .alt a b, x, k => altE x (fun y => split a y fun y => k (.inl y)) (fun y => split b y fun y => k (.inr y))
 | .cons h r, x, k => splC r.isNil (split h) (split r) x k
 | _, x, k => k x
theorem split_eq {T : Nat → Type} {C : Type} : ∀ (sh : Sh) (x : sh.ty T) (k : sh.ty T → C), split sh x k = k x
 | .own _ s, x, k => split_eq s x k
 | .agg s, x, k => split_eq s x k
 | .fn _ _ s, x, k => split_eq s x k
 | .alt a b, x, k => match x with
  | .inl y => split_eq a y fun y => k (.inl y)
  | .inr y => split_eq b y fun y => k (.inr y)
 | .cons h r, x, k => by
  have h1 := fun x k => split_eq (T := T) (C := C) h x k
  have h2 := fun x k => split_eq (T := T) (C := C) r x k
  unfold split
  simp only [Sh.ty] at x k
  generalize hi : r.isNil = i at x k ⊢
  cases i with
  | true => exact h1 x k
  | false => show split h x.1 (fun a => split r x.2 fun b => k (a, b)) = _; rw [h1, h2]; rfl
 | .i64, _, _ => rfl
 | .u8, _, _ => rfl
 | .u32, _, _ => rfl
 | .u16, _, _ => rfl
 | .u64, _, _ => rfl
 | .bool, _, _ => rfl
 | .str, _, _ => rfl
 | .nilp, _, _ => rfl
 | .nl, _, _ => rfl
 | .lit _, _, _ => rfl
 | .pt _, _, _ => rfl
 | .gen _, _, _ => rfl
 | .con _, _, _ => rfl
 | .sl _, _, _ => rfl
 | .row _ _, _, _ => rfl
 | .nil, _, _ => rfl
end Go.Proofs.YtkleajhiihbefaaGreatDoor.K.E
set_option linter.unusedVariables false
set_option linter.unusedSimpArgs false
set_option linter.unusedSectionVars false
namespace Go.Proofs.YtkleajhiihbefaaGreatDoor.K.E
open Go Go.RowKit
section
variable {T : Nat → Type}
def cst1 : Value → AV T
 | .int .i64 n => .i64 n
 | .int .u8 n => cond (decide (((UInt8.ofNat n.toNat).toNat : Int) = n)) (.u8 (UInt8.ofNat n.toNat)) (.lit (.int .u8 n))
 | .int .u32 n => cond (decide (((UInt32.ofNat n.toNat).toNat : Int) = n)) (.u32 (UInt32.ofNat n.toNat)) (.lit (.int .u32 n))
 | .int .u64 n => cond (decide (((UInt64.ofNat n.toNat).toNat : Int) = n)) (.u64 (UInt64.ofNat n.toNat)) (.lit (.int .u64 n))
 | .bool b => .bool b
 | .string s => cond (Nat.ble s.data.toList.length 9223372036854775807) (.str s.data.toList) (.lit (.string s))
 | .pointer none => .nilp
 | .slice none 0 0 => .nils
 | v => .lit v
def cst : Value → AV T
 | .agg cs => .agg (cs.toList.map cst1)
 | v => cst1 v
def conc : AV T → Option Value
 | .i64 x => some (.int .i64 x)
 | .u8 x => some (.int .u8 (x.toNat : Int))
 | .u32 x => some (.int .u32 (x.toNat : Int))
 | .u16 x => some (.int .u16 (x.toNat : Int))
 | .u64 x => some (.int .u64 (x.toNat : Int))
 | .bool x => some (.bool x)
 | .str l => some (.string ⟨l.toArray⟩)
 | .nils => some (.slice none 0 0)
 | .nilp => some (.pointer none)
 | .glob g => some (.pointer (some ⟨g, 0, none⟩))
 | .lit v => some v
 | _ => none
def ofV : Value → AV T
 | .int .i64 n => .i64 n
 | .bool b => .bool b
 | .pointer none => .nilp
 | v => .lit v
end
section
variable {tb : Tab} {η : List Value} {m : Mem}
theorem cond_lit {a : AV tb.T} (v : Value) (p : Prop) [Decidable p] (h : p → R tb η m a v) : R tb η m (cond (decide p) a (.lit v)) v := by
 by_cases hp : p
 ·rw [decide_eq_true hp]; exact h hp
 ·rw [decide_eq_false hp]; exact rfl
theorem cst1_ok (v : Value) : R tb η m (cst1 v) v := by
 unfold cst1
 split
 ·rfl
 ·refine cond_lit _ _ ?_; intro h; show _ = _; rw [h]
 ·refine cond_lit _ _ ?_; intro h; show _ = _; rw [h]
 ·refine cond_lit _ _ ?_; intro h; show _ = _; rw [h]
 ·rfl
 ·rename_i s
  cases h : Nat.ble s.data.toList.length 9223372036854775807
  ·rfl
  ·exact ⟨by simp, Nat.le_of_ble_eq_true h⟩
 ·rfl
 ·rfl
 ·rfl
theorem cst1L_ok : ∀ l : List Value, RL tb η m (l.map cst1) l
 | [] => rfl
 | v :: l => ⟨v, l, rfl, cst1_ok v, cst1L_ok l⟩
theorem cst_ok (v : Value) : R tb η m (cst v) v := by
 unfold cst
 split
 ·rename_i cs; exact ⟨cs.toList, by simp, cst1L_ok _⟩
 ·exact cst1_ok v
theorem conc_ok {a : AV tb.T} {u v : Value} (h : conc a = some u) (hr : R tb η m a v) : v = u := by
 cases a <;> simp only [conc, Option.some.injEq, reduceCtorEq] at h <;> simp only [R] at hr <;> subst h
 case str => exact hr.1
 all_goals exact hr
theorem ofV_ok (v : Value) : R tb η m (ofV v) v := by
 unfold ofV
 split <;> rfl
end
structure S (T : Nat → Type) where
 κ : List (Nat × Nat × AV T)
 σ : Sg T
 c : Nat
 d : Nat
section
variable {T : Nat → Type}
def S.put (s : S T) (d : Option Nat) (v : AV T) : S T := match d with
 | some t => { s with κ := (t, s.d, v) :: s.κ, d := s.d + 1 }
 | none => s
def evA (κ : List (Nat × Nat × AV T)) : Operand → Option (AV T)
 | .tmp t => match lk κ t with
  | some (_, v) => some v
  | none => none
 | .const v => some (cst v)
 | .global g => some (.glob g)
 | .func f => some (.fn f [] [])
def evL (ev : Operand → Option (AV T)) : List Operand → Option (List (AV T))
 | [] => some []
 | x :: r => match ev x with
  | some a => match evL ev r with
   | some l => some (a :: l)
   | none => none
  | none => none
def cv (ev : Operand → Option (AV T)) (x : Operand) : Value := match ev x with
 | some a => match conc a with
  | some v => v
  | none => undef
 | none => undef
def allC (ev : Operand → Option (AV T)) (l : List Operand) : Bool := l.all fun x => match ev x with
 | some a => (conc a).isSome
 | none => false
def fb (P : Program) (ev : Operand → Option (AV T)) (o : Oper) : Option (AV T) := cond (noSel o.op && allC ev o.op.operands.toList) (match takeN.pureV P (execOp (cv ev) o) with
 | some v => some (ofV v)
 | none => none) none
end
def Ev (tb : Tab) (η : List Value) (m : Mem) (ev : Operand → Option (AV tb.T)) (ρ : Operand → Value) : Prop := ∀ x a, ev x = some a → R tb η m a (ρ x)
section
variable {P : Program} {tb : Tab} {η : List Value} {m : Mem} {ev : Operand → Option (AV tb.T)} {ρ : Operand → Value} {o : Oper} {v : AV tb.T} {w : World}
def Run0 (P : Program) (tb : Tab) (η : List Value) (m : Mem) (s : Sem Next) (v : AV tb.T) : Prop := ∃ u, (∀ w, Has m w → s.run P w = .ok (.value u) w) ∧ R tb η m v u
theorem fb_ok (h : fb P ev o = some v) (he : Ev tb η m ev ρ) : Run0 P tb η m (execOp ρ o) v := by
 unfold fb at h
 cases hc : (noSel o.op && allC ev o.op.operands.toList) with
 | false => rw [hc] at h; cases h
 | true =>
  rw [hc] at h
  simp only [cond_true] at h
  rw [Bool.and_eq_true] at hc
  cases hp : takeN.pureV P (execOp (cv ev) o) with
  | none => rw [hp] at h; cases h
  | some u =>
   rw [hp] at h
   cases h
   have e : execOp ρ o = execOp (cv ev) o := by
    refine execOp_congr o ?_ ?_
    ·intro cs b e; have := hc.1; rw [e] at this; cases this
    ·intro x hx
     have h1 := List.all_eq_true.1 hc.2 x (by simpa using hx)
     simp only [cv]
     cases hx1 : ev x with
     | none => rw [hx1] at h1; cases h1
     | some a =>
      rw [hx1] at h1
      simp only at h1
      cases hx2 : conc a with
      | none => rw [hx2] at h1; cases h1
      | some u => simp only [hx2]; exact conc_ok hx2 (he x a hx1)
   rw [e]
   exact ⟨u, fun w _ => pureV_run hp w, ofV_ok u⟩
theorem evL_ok (he : Ev tb η m ev ρ) : ∀ {l : List Operand} {as : List (AV tb.T)}, evL ev l = some as → RL tb η m as (l.map ρ)
 | [], as, h => by simp only [evL, Option.some.injEq] at h; subst h; rfl
 | x :: r, as, h => by
  simp only [evL] at h
  cases h1 : ev x with
  | none => rw [h1] at h; cases h
  | some a =>
   rw [h1] at h
   simp only at h
   cases h2 : evL ev r with
   | none => rw [h2] at h; cases h
   | some l =>
    rw [h2] at h
    cases h
    exact ⟨ρ x, r.map ρ, rfl, he x a h1, evL_ok he h2⟩
end
section
variable {T : Nat → Type}
def binU (op : BinOp) (a b : AV T) : Option (AV T) := match a, b with
 | .u64 x, .u64 y => match op with
  | .add => some (.u64 (x + y)) | .sub => some (.u64 (x - y)) | .mul => some (.u64 (x * y))
  | .and => some (.u64 (x &&& y)) | .or => some (.u64 (x ||| y)) | .xor => some (.u64 (x ^^^ y)) | _ => none
 | .u32 x, .u32 y => match op with
  | .add => some (.u32 (x + y)) | .sub => some (.u32 (x - y)) | .mul => some (.u32 (x * y))
  | .and => some (.u32 (x &&& y)) | .or => some (.u32 (x ||| y)) | .xor => some (.u32 (x ^^^ y)) | _ => none
 | .u8 x, .u8 y => match op with
  | .add => some (.u8 (x + y)) | .sub => some (.u8 (x - y)) | .mul => some (.u8 (x * y))
  | .and => some (.u8 (x &&& y)) | .or => some (.u8 (x ||| y)) | .xor => some (.u8 (x ^^^ y)) | _ => none
 | .str x, .str y => match op with
  | .eql => some (.bool (x == y)) | .neq => some (.bool (x != y))
  | .lss => some (.bool (ltB x y)) | .leq => some (.bool (leB x y)) | .gtr => some (.bool (gtB x y)) | .geq => some (.bool (geB x y))
  | _ => none
 | _, _ => none
end
theorem q32_m (x : Int) : IntKind.u32.wrap x = x % 4294967296 := by simp [IntKind.wrap, IntKind.bits, IntKind.signed]
theorem q32_add (x y : UInt32) : IntKind.u32.wrap ((x.toNat : Int) + y.toNat) = ((x + y).toNat : Int) := by rw [q32_m]; simp
theorem q32_mul (x y : UInt32) : IntKind.u32.wrap ((x.toNat : Int) * y.toNat) = ((x * y).toNat : Int) := by rw [q32_m]; simp
theorem q32_sub (x y : UInt32) : IntKind.u32.wrap ((x.toNat : Int) - y.toNat) = ((x - y).toNat : Int) := by
 rw [q32_m, UInt32.toNat_sub]; have := x.toNat_lt; have := y.toNat_lt; omega
theorem q8_mul (x y : UInt8) : IntKind.u8.wrap ((x.toNat : Int) * y.toNat) = ((x * y).toNat : Int) := by rw [wu8m]; simp
section
variable {P : Program} {tb : Tab} {η : List Value} {m : Mem} {v a b : AV tb.T} {w : World} {x y : Value}
theorem guard_int {w : World} (op : BinOp) (t : TypeId) (p q : Operand) (k k' : IntKind) (a b : Int) : (eqGuard op t p q (.int k a) (.int k' b)).run P w = .ok () w := by
 cases op <;> rfl
theorem guard_str {w : World} (op : BinOp) (t : TypeId) (p q : Operand) (a b : ByteArray) : (eqGuard op t p q (.string a) (.string b)).run P w = .ok () w := by
 cases op <;> rfl
theorem guard_ptr {w : World} (op : BinOp) (t : TypeId) (p q : Operand) (a b : Option Addr) : (eqGuard op t p q (.pointer a) (.pointer b)).run P w = .ok () w := by
 cases op <;> rfl
theorem bin_run {w : World} {op : BinOp} {t : TypeId} {p q : Operand} {x y u : Value} (hg : (eqGuard op t p q x y).run P w = .ok () w) (hb : (binOp op t x y).run P w = .ok u w) : (vS (do eqGuard op t p q x y; binOp op t x y)).run P w = .ok (.value u) w := by
 refine vS_run ?_
 rw [Sem.run_bind, hg, Result.andThen_ok, hb]
theorem binU_ok {op : BinOp} {t : TypeId} {p q : Operand} (h : binU op a b = some v) (ha : R tb η m a x) (hb : R tb η m b y) : Run0 P tb η m (vS (do eqGuard op t p q x y; binOp op t x y)) v := by
 unfold binU at h
 split at h
 ·simp only [R] at ha hb
  subst ha hb
  split at h <;> first | (cases h; done) | (cases h)
  ·exact ⟨_, fun w _ => bin_run (guard_int _ _ _ _ _ _ _ _) rfl, congrArg (Value.int .u64) (q64_add _ _ _ _ rfl rfl)⟩
  ·exact ⟨_, fun w _ => bin_run (guard_int _ _ _ _ _ _ _ _) rfl, congrArg (Value.int .u64) (q64_sub _ _ _ _ rfl rfl)⟩
  ·exact ⟨_, fun w _ => bin_run (guard_int _ _ _ _ _ _ _ _) rfl, congrArg (Value.int .u64) (q64_mul _ _ _ _ rfl rfl)⟩
  ·exact ⟨_, fun w _ => bin_run (guard_int _ _ _ _ _ _ _ _) rfl, congrArg (Value.int .u64) (q64_and _ _ _ _ rfl rfl)⟩
  ·exact ⟨_, fun w _ => bin_run (guard_int _ _ _ _ _ _ _ _) rfl, congrArg (Value.int .u64) (q64_or _ _ _ _ rfl rfl)⟩
  ·exact ⟨_, fun w _ => bin_run (guard_int _ _ _ _ _ _ _ _) rfl, congrArg (Value.int .u64) (q64_xor _ _ _ _ rfl rfl)⟩
 ·simp only [R] at ha hb
  subst ha hb
  split at h <;> first | (cases h; done) | (cases h)
  ·exact ⟨_, fun w _ => bin_run (guard_int _ _ _ _ _ _ _ _) rfl, congrArg (Value.int .u32) (q32_add _ _)⟩
  ·exact ⟨_, fun w _ => bin_run (guard_int _ _ _ _ _ _ _ _) rfl, congrArg (Value.int .u32) (q32_sub _ _)⟩
  ·exact ⟨_, fun w _ => bin_run (guard_int _ _ _ _ _ _ _ _) rfl, congrArg (Value.int .u32) (q32_mul _ _)⟩
  ·exact ⟨_, fun w _ => bin_run (guard_int _ _ _ _ _ _ _ _) rfl, congrArg (Value.int .u32) (q32_and _ _ _ _ rfl rfl)⟩
  ·exact ⟨_, fun w _ => bin_run (guard_int _ _ _ _ _ _ _ _) rfl, congrArg (Value.int .u32) (q32_or _ _ _ _ rfl rfl)⟩
  ·exact ⟨_, fun w _ => bin_run (guard_int _ _ _ _ _ _ _ _) rfl, congrArg (Value.int .u32) (q32_xor _ _ _ _ rfl rfl)⟩
 ·simp only [R] at ha hb
  subst ha hb
  split at h <;> first | (cases h; done) | (cases h)
  ·exact ⟨_, fun w _ => bin_run (guard_int _ _ _ _ _ _ _ _) rfl, congrArg (Value.int .u8) (q8_add _ _ _ _ rfl rfl)⟩
  ·exact ⟨_, fun w _ => bin_run (guard_int _ _ _ _ _ _ _ _) rfl, congrArg (Value.int .u8) (q8_sub _ _ _ _ rfl rfl)⟩
  ·exact ⟨_, fun w _ => bin_run (guard_int _ _ _ _ _ _ _ _) rfl, congrArg (Value.int .u8) (q8_mul _ _)⟩
  ·exact ⟨_, fun w _ => bin_run (guard_int _ _ _ _ _ _ _ _) rfl, congrArg (Value.int .u8) (q8_and _ _ _ _ rfl rfl)⟩
  ·exact ⟨_, fun w _ => bin_run (guard_int _ _ _ _ _ _ _ _) rfl, congrArg (Value.int .u8) (q8_or _ _ _ _ rfl rfl)⟩
  ·exact ⟨_, fun w _ => bin_run (guard_int _ _ _ _ _ _ _ _) rfl, congrArg (Value.int .u8) (q8_xor _ _ _ _ rfl rfl)⟩
 ·obtain ⟨rfl, ha2⟩ := ha
  obtain ⟨rfl, hb2⟩ := hb
  split at h <;> first | (cases h; done) | (cases h)
  ·exact ⟨_, fun w _ => bin_run (guard_str _ _ _ _ _ _) rfl, congrArg Value.bool (seq_raw _ _)⟩
  ·exact ⟨_, fun w _ => bin_run (guard_str _ _ _ _ _ _) rfl, congrArg Value.bool (sne_raw _ _)⟩
  ·exact ⟨_, fun w _ => bin_run (guard_str _ _ _ _ _ _) rfl, congrArg Value.bool (ltB_raw _ _)⟩
  ·exact ⟨_, fun w _ => bin_run (guard_str _ _ _ _ _ _) rfl, congrArg Value.bool (leB_raw _ _)⟩
  ·exact ⟨_, fun w _ => bin_run (guard_str _ _ _ _ _ _) rfl, congrArg Value.bool (gtB_raw _ _)⟩
  ·exact ⟨_, fun w _ => bin_run (guard_str _ _ _ _ _ _) rfl, congrArg Value.bool (geB_raw _ _)⟩
 ·cases h
def unA {T : Nat → Type} (op : UnOp) (a : AV T) : Option (AV T) := match op, a with
 | .neg, .u64 x => some (.u64 (0 - x))
 | .neg, .u32 x => some (.u32 (0 - x))
 | .neg, .u8 x => some (.u8 (0 - x))
 | .xor, .u64 x => some (.u64 (18446744073709551615 ^^^ x))
 | .xor, .u32 x => some (.u32 (4294967295 ^^^ x))
 | .xor, .u8 x => some (.u8 (255 ^^^ x))
 | _, _ => none
theorem unA_ok {op : UnOp} (h : unA op a = some v) (ha : R tb η m a x) : Run0 P tb η m (vS (Op.unary op x)) v := by
 unfold unA at h
 split at h <;> cases h <;> simp only [R] at ha <;> subst ha
 ·exact ⟨_, fun w _ => vS_run rfl, congrArg (Value.int .u64) (q64_sub 0 _ _ _ rfl rfl)⟩
 ·exact ⟨_, fun w _ => vS_run rfl, congrArg (Value.int .u32) (q32_sub 0 _)⟩
 ·exact ⟨_, fun w _ => vS_run rfl, congrArg (Value.int .u8) (q8_sub 0 _ _ _ rfl rfl)⟩
 ·exact ⟨_, fun w _ => vS_run rfl, congrArg (Value.int .u64) (q64_xor 18446744073709551615 _ _ _ rfl rfl)⟩
 ·exact ⟨_, fun w _ => vS_run rfl, congrArg (Value.int .u32) (q32_xor 4294967295 _ _ _ rfl rfl)⟩
 ·exact ⟨_, fun w _ => vS_run rfl, congrArg (Value.int .u8) (q8_xor 255 _ _ _ rfl rfl)⟩
def isPtr {T : Nat → Type} : AV T → Bool
 | .ptr _ _ => true
 | .elt _ _ _ _ => true
 | .cells _ _ => true
 | .glob _ => true
 | _ => false
def isNilp {T : Nat → Type} : AV T → Bool
 | .nilp => true
 | _ => false
def ptrT (P : Program) (t : TypeId) : Bool := match P.underlying t with
 | some (.pointer _) => true
 | _ => false
def nilA {T : Nat → Type} (P : Program) (op : BinOp) (t : TypeId) (a b : AV T) : Option (AV T) := cond (ptrT P t && ((isPtr a && isNilp b) || (isNilp a && isPtr b))) (match op with
 | .eql => some (.bool false)
 | .neq => some (.bool true)
 | _ => none) none
theorem isPtr_ok {a : AV tb.T} {x : Value} (h : isPtr a = true) (ha : R tb η m a x) : ∃ ad, x = .pointer (some ad) := by
 cases a <;> simp only [isPtr, Bool.false_eq_true] at h <;> simp only [R] at ha
 ·obtain ⟨g, _, rfl⟩ := ha; exact ⟨_, rfl⟩
 ·obtain ⟨_, _, _, _, _, _, rfl⟩ := ha; exact ⟨_, rfl⟩
 ·obtain ⟨_, _, rfl, _⟩ := ha; exact ⟨_, rfl⟩
 ·exact ⟨_, ha⟩
theorem isNilp_ok {a : AV tb.T} {x : Value} (h : isNilp a = true) (ha : R tb η m a x) : x = .pointer none := by
 cases a <;> simp only [isNilp, Bool.false_eq_true] at h <;> simp only [R] at ha
 exact ha
theorem run_und {t : TypeId} {d : TypeDesc} (h : P.underlying t = some d) (w : World) : (underlying t).run P w = .ok d w := by
 simp [underlying, h]
theorem equal_nil {t : TypeId} {ad : Addr} (h : ptrT P t = true) (w : World) : (Op.equal t (.pointer (some ad)) (.pointer none)).run P w = .ok false w ∧ (Op.equal t (.pointer none) (.pointer (some ad))).run P w = .ok false w := by
 unfold ptrT at h
 split at h
 ·rename_i e he
  unfold Op.equal
  rw [show Op.maxDepth = 9999 + 1 from rfl]
  unfold Op.equalIn
  simp only [Sem.run_bind, run_und he, Result.andThen_ok]
  exact ⟨rfl, rfl⟩
 ·cases h
theorem nilA_ok {op : BinOp} {t : TypeId} {p q : Operand} (h : nilA P op t a b = some v) (ha : R tb η m a x) (hb : R tb η m b y) : Run0 P tb η m (vS (do eqGuard op t p q x y; binOp op t x y)) v := by
 unfold nilA at h
 cases hc : (ptrT P t && ((isPtr a && isNilp b) || (isNilp a && isPtr b))) with
 | false => rw [hc] at h; cases h
 | true =>
  rw [hc] at h
  simp only [Bool.and_eq_true, Bool.or_eq_true] at hc
  have key : ∃ r : Option Addr × Option Addr, (∀ w, (Op.equal t x y).run P w = .ok false w) ∧ x = .pointer r.1 ∧ y = .pointer r.2 := by
   rcases hc.2 with ⟨h1, h2⟩ | ⟨h1, h2⟩
   ·obtain ⟨ad, rfl⟩ := isPtr_ok h1 ha
    have := isNilp_ok h2 hb
    subst this
    exact ⟨(some ad, none), fun w => (equal_nil hc.1 w).1, rfl, rfl⟩
   ·obtain ⟨ad, rfl⟩ := isPtr_ok h2 hb
    have := isNilp_ok h1 ha
    subst this
    exact ⟨(none, some ad), fun w => (equal_nil hc.1 w).2, rfl, rfl⟩
  obtain ⟨⟨r1, r2⟩, h1, rfl, rfl⟩ := key
  simp only [cond_true] at h
  split at h <;> cases h
  ·refine ⟨.bool false, fun w _ => bin_run (guard_ptr _ _ _ _ _ _) ?_, rfl⟩
   show (do pure (.bool (← Op.equal t (.pointer r1) (.pointer r2))) : Sem Value).run P w = _
   rw [Sem.run_bind, h1]; rfl
  ·refine ⟨.bool true, fun w _ => bin_run (guard_ptr _ _ _ _ _ _) ?_, rfl⟩
   show (do pure (.bool (!(← Op.equal t (.pointer r1) (.pointer r2)))) : Sem Value).run P w = _
   rw [Sem.run_bind, h1]; rfl
def convA {T : Nat → Type} (P : Program) (src dst : TypeId) (a : AV T) : Option (AV T) := cond (P.underlying src).isSome (match P.underlying dst with
 | some (.int .u64) => match a with
  | .u64 x => some (.u64 x) | .u32 x => some (.u64 x.toUInt64) | .u8 x => some (.u64 x.toUInt64) | .i64 x => some (.u64 (UInt64.ofInt x)) | _ => none
 | some (.int .u32) => match a with
  | .u64 x => some (.u32 x.toUInt32) | .u32 x => some (.u32 x) | .u8 x => some (.u32 x.toUInt32) | .i64 x => some (.u32 (UInt32.ofInt x)) | _ => none
 | some (.int .u8) => match a with
  | .u64 x => some (.u8 x.toUInt8) | .u32 x => some (.u8 x.toUInt8) | .u8 x => some (.u8 x) | .i64 x => some (.u8 (UInt8.ofInt x)) | _ => none
 | some (.int .i64) => match a with
  | .u32 x => some (.i64 (x.toNat : Int)) | .u16 x => some (.i64 (x.toNat : Int)) | .u8 x => some (.i64 (x.toNat : Int)) | _ => none
 | some .string => match a with
  | .str l => some (.str l) | _ => none
 | _ => none) none
theorem q32_u64 (x : UInt64) : IntKind.u32.wrap (x.toNat : Int) = (x.toUInt32.toNat : Int) := by rw [q32_m]; simp
theorem q8_u32 (x : UInt32) : IntKind.u8.wrap (x.toNat : Int) = (x.toUInt8.toNat : Int) := by rw [wu8m]; simp
theorem q64_u32 (x : UInt32) : IntKind.u64.wrap (x.toNat : Int) = (x.toUInt64.toNat : Int) := by rw [wu64m]; have := x.toNat_lt; simp; omega
theorem conv_int {src dst : TypeId} {k k' : IntKind} {z : Int} (h1 : (P.underlying src).isSome = true) (h2 : P.underlying dst = some (.int k)) (w : World) : (vS (convert src dst (.int k' z))).run P w = .ok (.value (.int k (k.wrap z))) w := by
 refine vS_run ?_
 obtain ⟨d, hd⟩ := Option.isSome_iff_exists.1 h1
 simp only [convert, Sem.run_bind, run_und hd, run_und h2, Result.andThen_ok]
 rfl
theorem convA_ok {src dst : TypeId} (h : convA P src dst a = some v) (ha : R tb η m a x) : Run0 P tb η m (vS (convert src dst x)) v := by
 unfold convA at h
 cases hs : (P.underlying src).isSome with
 | false => rw [hs] at h; cases h
 | true =>
  rw [hs] at h
  simp only [cond_true] at h
  split at h
  ·rename_i hu
   split at h <;> cases h <;> simp only [R] at ha <;> subst ha
   ·exact ⟨_, fun w _ => conv_int hs hu w, congrArg (Value.int .u64) (q64_self _)⟩
   ·exact ⟨_, fun w _ => conv_int hs hu w, congrArg (Value.int .u64) (q64_u32 _)⟩
   ·exact ⟨_, fun w _ => conv_int hs hu w, congrArg (Value.int .u64) (q64_u8 _)⟩
   ·exact ⟨_, fun w _ => conv_int hs hu w, congrArg (Value.int .u64) (q64_wrap _)⟩
  ·rename_i hu
   split at h <;> cases h <;> simp only [R] at ha <;> subst ha
   ·exact ⟨_, fun w _ => conv_int hs hu w, congrArg (Value.int .u32) (q32_u64 _)⟩
   ·exact ⟨_, fun w _ => conv_int hs hu w, congrArg (Value.int .u32) (q32_self _)⟩
   ·exact ⟨_, fun w _ => conv_int hs hu w, congrArg (Value.int .u32) (q32_u8 _)⟩
   ·exact ⟨_, fun w _ => conv_int hs hu w, congrArg (Value.int .u32) (q32_wrap _)⟩
  ·rename_i hu
   split at h <;> cases h <;> simp only [R] at ha <;> subst ha
   ·exact ⟨_, fun w _ => conv_int hs hu w, congrArg (Value.int .u8) (q8_u64 _)⟩
   ·exact ⟨_, fun w _ => conv_int hs hu w, congrArg (Value.int .u8) (q8_u32 _)⟩
   ·exact ⟨_, fun w _ => conv_int hs hu w, congrArg (Value.int .u8) (q8_self _)⟩
   ·exact ⟨_, fun w _ => conv_int hs hu w, congrArg (Value.int .u8) (q8_wrap _)⟩
  ·rename_i hu
   split at h <;> cases h <;> simp only [R] at ha <;> subst ha
   ·rename_i y; exact ⟨_, fun w _ => conv_int hs hu w, congrArg (Value.int .i64) (w64 (by have := y.toNat_lt; omega))⟩
   ·rename_i y; exact ⟨_, fun w _ => conv_int hs hu w, congrArg (Value.int .i64) (w64 (by have := y.toNat_lt; omega))⟩
   ·rename_i y; exact ⟨_, fun w _ => conv_int hs hu w, congrArg (Value.int .i64) (w64 (by have := y.toNat_lt; omega))⟩
  ·rename_i hu
   split at h <;> cases h
   obtain ⟨rfl, h2⟩ := ha
   refine ⟨_, fun w _ => vS_run ?_, rfl, h2⟩
   obtain ⟨d, hd⟩ := Option.isSome_iff_exists.1 hs
   simp only [convert, Sem.run_bind, run_und hd, run_und hu, Result.andThen_ok]
   cases d <;> rfl
  ·cases h
def isAggD : TypeDesc → Bool
 | .struct _ => true
 | .array _ _ => true
 | _ => false
def fldI (P : Program) (t : TypeId) (i : Nat) : Option (Nat × Nat × Bool) := match P.underlying t with
 | some (.struct fs) => match fs[i]? with
  | some f => match P.info? f.type, P.underlying f.type with
   | some inf, some d => some (f.offset, inf.size, isAggD d)
   | _, _ => none
  | none => none
 | _ => none
theorem run_isAgg {t : TypeId} {d : TypeDesc} (h : P.underlying t = some d) (w : World) : (isAgg t).run P w = .ok (isAggD d) w := by
 simp only [isAgg, Sem.run_bind, run_und h, Result.andThen_ok]
 cases d <;> rfl
theorem run_size {t : TypeId} {i : TypeInfo} (h : P.info? t = some i) (w : World) : (sizeOf t).run P w = .ok i.size w := by
 simp [sizeOf, typeInfo, h]
theorem fldI_some {t : TypeId} {i off sz : Nat} {g : Bool} (h : fldI P t i = some (off, sz, g)) : ∃ fs f inf d, P.underlying t = some (.struct fs) ∧ fs[i]? = some f ∧ P.info? f.type = some inf ∧ P.underlying f.type = some d ∧ f.offset = off ∧ inf.size = sz ∧ isAggD d = g := by
 unfold fldI at h
 split at h
 ·rename_i fs hu
  split at h
  ·rename_i f hf
   split at h
   ·rename_i inf d h1 h2
    cases h
    exact ⟨fs, f, inf, d, hu, hf, h1, h2, rfl, rfl, rfl⟩
   ·cases h
  ·cases h
 ·cases h
def partA {T : Nat → Type} (l : List (AV T)) (off sz : Nat) (g : Bool) : Option (AV T) := match g with
 | true => some (.agg ((l.drop off).take sz))
 | false => l[off]?
def fieldA {T : Nat → Type} (P : Program) (t : TypeId) (i : Nat) (a : AV T) : Option (AV T) := match a with
 | .agg l => match fldI P t i with
  | some (off, sz, g) => partA l off sz g
  | none => none
 | _ => none
theorem part_ok {t : TypeId} {d : TypeDesc} {inf : TypeInfo} {l : List (AV tb.T)} {cs : List Value} {off : Nat} (h1 : P.info? t = some inf) (h2 : P.underlying t = some d) (hl : RL tb η m l cs) (h : partA l off inf.size (isAggD d) = some v) : ∃ u, (∀ w, (part t cs.toArray off).run P w = .ok u w) ∧ R tb η m v u := by
 unfold part
 cases hg : isAggD d with
 | true =>
  rw [hg] at h
  simp only [partA, Option.some.injEq] at h
  subst h
  refine ⟨.agg ((cs.drop off).take inf.size).toArray, fun w => ?_, (cs.drop off).take inf.size, rfl, (hl.drop _).take _⟩
  simp only [Sem.run_bind, run_isAgg h2, Result.andThen_ok, hg, if_true, run_size h1, Sem.run_pure]
  simp
 | false =>
  rw [hg] at h
  simp only [partA] at h
  obtain ⟨u, hu, hr⟩ := hl.get h
  refine ⟨u, fun w => ?_, hr⟩
  have : cs.toArray[off]? = some u := by simpa using hu
  simp only [Sem.run_bind, run_isAgg h2, Result.andThen_ok, hg, Bool.false_eq_true, if_false, this]
  rfl
theorem fieldA_ok {t : TypeId} {i : Nat} (h : fieldA P t i a = some v) (ha : R tb η m a x) : Run0 P tb η m (vS (Instr.field t x i)) v := by
 unfold fieldA at h
 split at h
 ·obtain ⟨cs, rfl, hl⟩ := ha
  split at h
  ·rename_i off sz g hf
   obtain ⟨fs, f, inf, d, h1, h2, h3, h4, rfl, rfl, rfl⟩ := fldI_some hf
   obtain ⟨u, hu, hr⟩ := part_ok h3 h4 hl h
   refine ⟨u, fun w _ => vS_run ?_, hr⟩
   simp only [Instr.field, Sem.run_bind, run_und h1, Result.andThen_ok, h2, asAgg, Sem.run_pure, hu]
  ·cases h
 ·cases h
def fAddrA {T : Nat → Type} (P : Program) (t : TypeId) (i : Nat) (a : AV T) : Option (AV T) := match fldI P t i with
 | some (f, sz, _) => cond (Nat.beq sz 0) none (match a with
  | .ptr id off => some (.ptr id (off + f))
  | .cells off l => some (.cells (off + f) l)
  | .elt id j n off => some (.elt id j n (off + f))
  | _ => none)
 | none => none
theorem fAddrA_ok {t : TypeId} {i : Nat} (h : fAddrA P t i a = some v) (ha : R tb η m a x) : Run0 P tb η m (vS (Instr.fieldAt t x i)) v := by
 unfold fAddrA at h
 split at h
 ·rename_i f sz g hf
  obtain ⟨fs, fl, inf, d, h1, h2, h3, h4, rfl, rfl, rfl⟩ := fldI_some hf
  cases hz : Nat.beq inf.size 0 with
  | true => rw [hz] at h; cases h
  | false =>
   have hne : inf.size ≠ 0 := fun e => by rw [e] at hz; cases hz
   rw [hz] at h
   simp only [cond_false] at h
   have run : ∀ (ad : Addr) (w : World), Has m w → (vS (Instr.fieldAt t (.pointer (some ad)) i)).run P w = .ok (.value (.pointer (some (ad.add fl.offset)))) w := by
    intro ad w _
    refine vS_run ?_
    simp only [Instr.fieldAt, Sem.run_bind, run_und h1, Result.andThen_ok, h2, Instr.sureAddr, Sem.run_pure, fieldPlace, run_size h3, hne, if_false]
   split at h <;> cases h
   ·obtain ⟨g, e1, rfl⟩ := ha
    exact ⟨_, run _, g, e1, by rw [Addr.add_lit]⟩
   ·obtain ⟨A, cs, rfl, e1, e2⟩ := ha
    exact ⟨_, run _, A, cs, by rw [add_add], e1, e2⟩
   ·obtain ⟨ad, len, c, e1, e2, e3, rfl⟩ := ha
    exact ⟨_, run _, ad, len, c, e1, e2, e3, by rw [add_add]⟩
 ·cases h
def cellsA {T : Nat → Type} (a : AV T) : Option (List (AV T)) := match a with
 | .agg l => some l
 | a => cond (oneA a) (some [a]) none
theorem cells_one {v : Value} (h : v.oneCell' = true) : v.cells = #[v] := by
 cases v <;> first | rfl | cases h
theorem cellsA_ok {l : List (AV tb.T)} (h : cellsA a = some l) (ha : R tb η m a x) : RL tb η m l x.cells.toList := by
 unfold cellsA at h
 split at h
 ·cases h; obtain ⟨cs, rfl, hl⟩ := ha; simpa [Value.cells] using hl
 ·cases ho : oneA a with
  | false => rw [ho] at h; cases h
  | true =>
   rw [ho] at h
   cases h
   rw [cells_one (oneA_ok ha ho)]
   exact RL.mk1 ha
def splice {α : Type} (off : Nat) : List α → Nat → List α → List α
 | [], _, cs => cs
 | c :: r, j, cs => splice off r (j + 1) (cs.set (off + j) c)
theorem splice_ok (off : Nat) : ∀ {l : List (AV tb.T)} {vs : List Value} (j : Nat) {cs : List (AV tb.T)} {us : List Value}, RL tb η m l vs → RL tb η m cs us → RL tb η m (splice off l j cs) (splice off vs j us)
 | [], vs, j, cs, us, h, h' => by rw [show vs = [] from h]; exact h'
 | a :: l, vs, j, cs, us, ⟨v, r, h1, h2, h3⟩, h' => by rw [h1]; exact splice_ok off (j + 1) h3 (h'.set h2)
theorem splice_fold (off : Nat) : ∀ (vs : List Value) (j : Nat) (us : List Value), (vs.zipIdx j).foldl (fun (cs : Array Value) (c, j) => cs.setIfInBounds (off + j) c) us.toArray = (splice off vs j us).toArray
 | [], _, _ => rfl
 | v :: r, j, us => by
  rw [List.zipIdx_cons, List.foldl_cons, splice, ← splice_fold off r (j + 1)]
  congr 1
  simp
def fillA {T : Nat → Type} (place : Nat → Option (Nat × Nat)) : List (AV T) → List (Nat × AV T) → Option (List (AV T))
 | cells, [] => some cells
 | cells, (i, v) :: r => match place i with
  | none => none
  | some (off, size) => match cellsA v with
   | none => none
   | some l => cond (Nat.beq l.length size && Nat.ble (off + l.length) cells.length) (fillA place (splice off l 0 cells) r) none
def RP (tb : Tab) (η : List Value) (m : Mem) : List (Nat × AV tb.T) → List (Nat × Value) → Prop
 | [], ps => ps = []
 | (i, a) :: l, ps => ∃ v r, ps = (i, v) :: r ∧ R tb η m a v ∧ RP tb η m l r
theorem fillA_ok {place : Nat → Option (Nat × Nat)} : ∀ {ps : List (Nat × AV tb.T)} {qs : List (Nat × Value)} {cells l : List (AV tb.T)} {us : List Value}, fillA place cells ps = some l → RP tb η m ps qs → RL tb η m cells us → ∃ vs : List Value, Instr.fill place us.toArray qs = some vs.toArray ∧ RL tb η m l vs
 | [], qs, cells, l, us, h, hp, hr => by
  rw [show qs = [] from hp]
  simp only [fillA, Option.some.injEq] at h
  subst h
  exact ⟨us, rfl, hr⟩
 | (i, a) :: ps, qs, cells, l, us, h, hp, hr => by
  obtain ⟨v, r, rfl, h1, h2⟩ := hp
  simp only [fillA] at h
  cases hpl : place i with
  | none => rw [hpl] at h; cases h
  | some os =>
   obtain ⟨off, size⟩ := os
   rw [hpl] at h
   simp only at h
   cases hc : cellsA a with
   | none => rw [hc] at h; cases h
   | some cl =>
    rw [hc] at h
    simp only at h
    have hcl := cellsA_ok hc h1
    cases hb : (Nat.beq cl.length size && Nat.ble (off + cl.length) cells.length) with
    | false => rw [hb] at h; cases h
    | true =>
     rw [hb] at h
     rw [Bool.and_eq_true] at hb
     have e1 := beq_t hb.1
     have e2 := Nat.le_of_ble_eq_true hb.2
     simp only [cond_true] at h
     have hlen : v.cells.size = cl.length := by rw [← hcl.len]; simp
     obtain ⟨vs, h3, h4⟩ := fillA_ok h h2 (splice_ok off 0 hcl hr)
     refine ⟨vs, ?_, h4⟩
     have hn : ¬ ((decide (v.cells.size ≠ size) || decide (off + v.cells.size > us.toArray.size)) = true) := by
      simp only [Bool.or_eq_true, decide_eq_true_eq, List.size_toArray, hr.len, hlen]
      omega
     simp only [Instr.fill, hpl]
     rw [if_neg hn, ← h3]
     congr 1
     rw [← splice_fold, ← Array.toList_zipIdx, ← Array.foldl_toList]
def zerosA {T : Nat → Type} (P : Program) (t : TypeId) : Option (List (AV T)) := match P.info? t with
 | some i => match i.zero with
  | some z => some (z.cells.toList.map cst1)
  | none => none
 | none => none
theorem zerosA_ok {t : TypeId} {l : List (AV tb.T)} (h : zerosA P t = some l) : ∃ z, (∀ w, (zeroValue t).run P w = .ok z w) ∧ RL tb η m l z.cells.toList := by
 unfold zerosA at h
 split at h
 ·rename_i i hi
  split at h
  ·rename_i z hz
   cases h
   exact ⟨z, fun w => by simp [zeroValue, typeInfo, hi, hz], cst1L_ok _⟩
  ·cases h
 ·cases h
def placesL (P : Program) : List Field → Option (List (Nat × Nat))
 | [] => some []
 | f :: r => match P.info? f.type with
  | some i => match placesL P r with
   | some l => some ((f.offset, i.size) :: l)
   | none => none
  | none => none
theorem placesL_run : ∀ {fs : List Field} {ps : List (Nat × Nat)}, placesL P fs = some ps → ∀ w, (List.mapM (m := Sem) (fun f => do pure (f.offset, ← sizeOf f.type)) fs).run P w = .ok ps w
 | [], ps, h, w => by simp only [placesL, Option.some.injEq] at h; subst h; rfl
 | f :: r, ps, h, w => by
  simp only [placesL] at h
  cases hi : P.info? f.type with
  | none => rw [hi] at h; cases h
  | some i =>
   rw [hi] at h
   simp only at h
   cases hr : placesL P r with
   | none => rw [hr] at h; cases h
   | some l =>
    rw [hr] at h
    cases h
    rw [List.mapM_cons]
    simp only [Sem.run_bind, run_size hi, Result.andThen_ok, Sem.run_pure, placesL_run hr]
def placeA (P : Program) (t : TypeId) : Option (Nat → Option (Nat × Nat)) := match P.underlying t with
 | some (.struct fs) => match placesL P fs.toList with
  | some ps => some (fun i => ps[i]?)
  | none => none
 | some (.array _ e) => match P.info? e with
  | some i => some (fun j => some (j * i.size, i.size))
  | none => none
 | _ => none
def partsA {T : Nat → Type} (ev : Operand → Option (AV T)) : List (Nat × Operand) → Option (List (Nat × AV T))
 | [] => some []
 | (i, x) :: r => match ev x with
  | some a => match partsA ev r with
   | some l => some ((i, a) :: l)
   | none => none
  | none => none
theorem partsA_ok {ev : Operand → Option (AV tb.T)} {ρ : Operand → Value} (he : Ev tb η m ev ρ) : ∀ {ps : List (Nat × Operand)} {l : List (Nat × AV tb.T)}, partsA ev ps = some l → RP tb η m l (ps.map fun (i, x) => (i, ρ x))
 | [], l, h => by simp only [partsA, Option.some.injEq] at h; subst h; rfl
 | (i, x) :: r, l, h => by
  simp only [partsA] at h
  cases h1 : ev x with
  | none => rw [h1] at h; cases h
  | some a =>
   rw [h1] at h
   simp only at h
   cases h2 : partsA ev r with
   | none => rw [h2] at h; cases h
   | some l =>
    rw [h2] at h
    cases h
    exact ⟨_, _, rfl, he x a h1, partsA_ok he h2⟩
def buildA {T : Nat → Type} (P : Program) (ev : Operand → Option (AV T)) (t : TypeId) (ps : Array (Nat × Operand)) : Option (AV T) := match placeA P t, zerosA P t, partsA ev ps.toList with
 | some pl, some z, some l => match fillA pl z l with
  | some cs => some (.agg cs)
  | none => none
 | _, _, _ => none
theorem buildA_ok {ev : Operand → Option (AV tb.T)} {ρ : Operand → Value} (he : Ev tb η m ev ρ) {t : TypeId} {ps : Array (Nat × Operand)} (h : buildA P ev t ps = some v) : Run0 P tb η m (vS (Instr.build t (ps.map fun (i, x) => (i, ρ x)))) v := by
 unfold buildA at h
 split at h
 ·rename_i pl z l h1 h2 h3
  split at h
  ·rename_i cs h4
   cases h
   obtain ⟨z0, hz, hzr⟩ := zerosA_ok (tb := tb) (η := η) (m := m) h2
   obtain ⟨vs, hf, hv⟩ := fillA_ok h4 (partsA_ok he h3) hzr
   refine ⟨.agg vs.toArray, fun w _ => vS_run ?_, vs, rfl, hv⟩
   have hps : (ps.map fun (i, x) => (i, ρ x)).toList = ps.toList.map fun (i, x) => (i, ρ x) := by simp
   have hzz : z0.cells.toList.toArray = z0.cells := by simp
   rw [hzz] at hf
   unfold placeA at h1
   simp only [Instr.build, Sem.run_bind, hz, Result.andThen_ok]
   split at h1
   ·rename_i fs hu
    split at h1
    ·rename_i pp hpp
     cases h1
     simp only [run_und hu, Result.andThen_ok]
     have hm : (fs.mapM (m := Sem) fun f => do pure (f.offset, ← sizeOf f.type)).run P w = .ok pp.toArray w := by
      have e : fs = fs.toList.toArray := by simp
      rw [e, List.mapM_toArray]
      rw [show ∀ (X : Sem (List (Nat × Nat))), (List.toArray <$> X : Sem (Array (Nat × Nat))) = X >>= fun l => pure l.toArray from fun _ => rfl]
      rw [Sem.run_bind, placesL_run hpp]
      rfl
     simp only [hm, Sem.run_bind, Result.andThen_ok, hps]
     have e2 : (fun x : Nat => pp.toArray[x]?) = fun i => pp[i]? := by funext i; simp
     rw [e2, hf]
     rfl
    ·cases h1
   ·rename_i n e hu
    split at h1
    ·rename_i i hi
     cases h1
     simp only [run_und hu, Result.andThen_ok, Sem.run_bind, run_size hi, hps]
     rw [hf]
     rfl
    ·cases h1
   ·cases h1
  ·cases h
 ·cases h
end
end Go.Proofs.YtkleajhiihbefaaGreatDoor.K.E
set_option linter.unusedVariables false
set_option linter.unusedSimpArgs false
set_option linter.unusedSectionVars false
namespace Go.Proofs.YtkleajhiihbefaaGreatDoor.K.E
open Go Go.RowKit
section
variable {T : Nat → Type}
def isFnA : AV T → Bool
 | .fn _ _ _ => true
 | _ => false
def lenA (P : Program) (t : TypeId) (a : AV T) : Option (AV T) := match P.underlying t with
 | some (.slice _) => match a with
  | .sl _ l => some (.i64 (l.length : Int))
  | .nils => some (.i64 0)
  | _ => none
 | some .string => match a with
  | .str l => some (.i64 (l.length : Int))
  | _ => none
 | _ => none
def callV (P : Program) (ev : Operand → Option (AV T)) (o : Oper) (c : Call) : Option (AV T) := match c.callee with
 | .builtin .len => match c.args.toList, c.argTypes.toList with
  | [x], [t] => match ev x with
   | some a => lenA P t a
   | none => none
  | _, _ => none
 | .builtin .max => fb P ev o
 | .builtin .min => fb P ev o
 | _ => none
def iV (l : List Int) : Value := .agg (l.map fun x => Value.int .i64 x).toArray
def intsA : List (AV T) → Option (List Int)
 | [] => some []
 | .i64 x :: r => match intsA r with
  | some l => some (x :: l)
  | none => none
 | _ => none
def mkI (P : Program) (t : TypeId) (a : AV T) : Option (AV T) := match a with
 | .agg l => match P.underlying t with
  | some (.struct _) => match intsA l with
   | some x => some (.lit (.iface t (iV x)))
   | none => none
  | _ => none
 | _ => none
def opV (P : Program) (ev : Operand → Option (AV T)) (o : Oper) : Option (AV T) := match o.op with
 | .move x => ev x
 | .assign x => ev x
 | .nilCheck x => match ev x with
  | some a => cond (isPtr a || isFnA a) (some a) none
  | none => none
 | .extract x i => match ev x with
  | some (.tup l) => l[i]?
  | _ => fb P ev o
 | .field t x i => match ev x with
  | some a => fieldA P t i a
  | none => none
 | .build t ps => buildA P ev t ps
 | .fieldAddr t x i => match ev x with
  | some a => fAddrA P t i a
  | none => none
 | .makeFunc (.func f) first cap => match evL ev first.toList, evL ev cap.toList with
  | some l, some c => some (.fn f l c)
  | _, _ => none
 | .binOp op t x y _ => match ev x, ev y with
  | some a, some b => match binU op a b with
   | some v => some v
   | none => match nilA P op t a b with
    | some v => some v
    | none => fb P ev o
  | _, _ => none
 | .unOp op _ x => match ev x with
  | some a => match unA op a with
   | some v => some v
   | none => fb P ev o
  | none => none
 | .convert s d x => match ev x with
  | some a => match convA P s d a with
   | some v => some v
   | none => fb P ev o
  | none => none
 | .makeInterface t x => match ev x with
  | some a => mkI P t a
  | none => none
 | .pick _ _ _ => fb P ev o
 | .call c => callV P ev o c
 | _ => none
end
section
variable {P : Program} {tb : Tab} {η : List Value} {m : Mem} {ev : Operand → Option (AV tb.T)} {ρ : Operand → Value} {o : Oper} {v a b : AV tb.T} {x y : Value}
theorem exec_move {z : Operand} (h : o.op = .move z) : execOp ρ o = pure (.value (ρ z)) := by unfold execOp; rw [h]
theorem exec_assign {z : Operand} (h : o.op = .assign z) : execOp ρ o = pure (.value (ρ z)) := by unfold execOp; rw [h]
theorem exec_extract {z : Operand} {i : Nat} (h : o.op = .extract z i) : execOp ρ o = vS (Instr.extract (ρ z) i) := by unfold execOp; rw [h]; rfl
theorem exec_field {z : Operand} {t i : Nat} (h : o.op = .field t z i) : execOp ρ o = vS (Instr.field t (ρ z) i) := by unfold execOp; rw [h]; rfl
theorem exec_build {t : TypeId} {ps : Array (Nat × Operand)} (h : o.op = .build t ps) : execOp ρ o = vS (Instr.build t (ps.map fun (i, x) => (i, ρ x))) := by unfold execOp; rw [h]; rfl
theorem exec_fieldAddr {z : Operand} {t i : Nat} (h : o.op = .fieldAddr t z i) : execOp ρ o = vS (Instr.fieldAt t (ρ z) i) := by unfold execOp; rw [h]; rfl
theorem exec_makeFunc {f : Fn} {l c : Array Operand} (h : o.op = .makeFunc f l c) : execOp ρ o = vS (Instr.makeFunc f (l.map ρ) (c.map ρ)) := by unfold execOp; rw [h]; rfl
theorem exec_binOp {op : BinOp} {t yt : TypeId} {p q : Operand} (h : o.op = .binOp op t p q yt) : execOp ρ o = vS (do eqGuard op t p q (ρ p) (ρ q); binOp op t (ρ p) (ρ q)) := by unfold execOp; rw [h]; rfl
theorem exec_unOp {op : UnOp} {t : TypeId} {z : Operand} (h : o.op = .unOp op t z) : execOp ρ o = vS (Op.unary op (ρ z)) := by unfold execOp; rw [h]; rfl
theorem exec_convert {s d : TypeId} {z : Operand} (h : o.op = .convert s d z) : execOp ρ o = vS (convert s d (ρ z)) := by unfold execOp; rw [h]; rfl
theorem exec_builtin {c : Call} {b : Builtin} (h : o.op = .call c) (hc : c.callee = .builtin b) : execOp ρ o = builtin b c.argTypes o.type (c.args.map fun | .const _ => true | _ => false) (c.args.map ρ) := by
 unfold execOp; rw [h]; simp only [resolve, hc]; rfl
theorem Run0.fix {P : Program} {s : Sem Next} {u : Value} (h : ∀ w, s.run P w = .ok (.value u) w) (hr : R tb η m v u) : Run0 P tb η m s v := ⟨u, fun w _ => h w, hr⟩
theorem lenA_ok {t : TypeId} (h : lenA P t a = some v) (ha : R tb η m a x) (ty : TypeId) : Run0 P tb η m (vS (Builtin.len_ #[t] ty #[x])) v := by
 unfold lenA at h
 split at h
 ·rename_i e hu
  split at h <;> cases h
  ·obtain ⟨A, c, rfl, _⟩ := ha
   refine Run0.fix (fun w => vS_run ?_) rfl
   simp only [Builtin.len_, List.getElem?_toArray, List.getElem?_cons_zero, Sem.run_bind, run_und hu, Result.andThen_ok]
   rfl
  ·have ha : x = _ := ha
   subst ha
   refine Run0.fix (fun w => vS_run ?_) rfl
   simp only [Builtin.len_, List.getElem?_toArray, List.getElem?_cons_zero, Sem.run_bind, run_und hu, Result.andThen_ok]
   rfl
 ·rename_i hu
  split at h <;> cases h
  obtain ⟨rfl, _⟩ := ha
  refine Run0.fix (fun w => vS_run ?_) rfl
  simp only [Builtin.len_, List.getElem?_toArray, List.getElem?_cons_zero, Sem.run_bind, run_und hu, Result.andThen_ok]
  rfl
 ·cases h
theorem isFn_ok (h : isFnA a = true) (ha : R tb η m a x) : ∃ f xs ys, x = .func (.func f) xs ys := by
 cases a <;> simp only [isFnA, Bool.false_eq_true] at h
 obtain ⟨xs, ys, rfl, _⟩ := ha
 exact ⟨_, _, _, rfl⟩
theorem intsA_ok : ∀ {l : List (AV tb.T)} {xs : List Int} {cs : List Value}, intsA l = some xs → RL tb η m l cs → cs = xs.map fun x => Value.int .i64 x
 | [], xs, cs, h, hr => by
  simp only [intsA, Option.some.injEq] at h; subst h; exact hr
 | a :: r, xs, cs, h, ⟨v, vs, h1, h2, h3⟩ => by
  subst h1
  unfold intsA at h
  split at h
  ·rename_i e; cases e
  ·rename_i x r' e
   cases e
   split at h
   ·rename_i l' hl
    cases h
    have h2 : v = .int .i64 x := h2
    rw [intsA_ok hl h3, h2]; rfl
   ·cases h
  ·cases h
theorem opV_ok (he : Ev tb η m ev ρ) (h : opV P ev o = some v) : Run0 P tb η m (execOp ρ o) v := by
 unfold opV at h
 split at h
 ·rename_i z ho
  rw [exec_move ho]; exact Run0.fix (fun _ => rfl) (he _ _ h)
 ·rename_i z ho
  rw [exec_assign ho]; exact Run0.fix (fun _ => rfl) (he _ _ h)
 ·rename_i z ho
  split at h
  ·rename_i a ha
   have hr := he _ _ ha
   cases hc : (isPtr a || isFnA a) with
   | false => rw [hc] at h; cases h
   | true =>
    rw [hc] at h
    cases h
    refine Run0.fix (u := ρ z) (fun w => ?_) hr
    rw [Bool.or_eq_true] at hc
    rcases hc with hc | hc
    ·obtain ⟨ad, hx⟩ := isPtr_ok hc hr
     unfold execOp
     rw [ho]
     simp only [hx]
     rfl
    ·obtain ⟨f, xs, ys, hx⟩ := isFn_ok hc hr
     unfold execOp
     rw [ho]
     simp only [hx]
     rfl
  ·cases h
 ·rename_i z i ho
  split at h
  ·rename_i l hl
   rw [exec_extract ho]
   obtain ⟨cs, hx, hr⟩ := he _ _ hl
   obtain ⟨u, hu, hr2⟩ := hr.get h
   refine Run0.fix (fun w => vS_run ?_) hr2
   rw [hx]
   have : cs.toArray[i]? = some u := by simpa using hu
   simp only [Instr.extract, this]
   rfl
  ·exact fb_ok h he
 ·rename_i t z i ho
  split at h
  ·rename_i a ha
   rw [exec_field ho]; exact fieldA_ok h (he _ _ ha)
  ·cases h
 ·rename_i t ps ho
  rw [exec_build ho]; exact buildA_ok he h
 ·rename_i t z i ho
  split at h
  ·rename_i a ha
   rw [exec_fieldAddr ho]; exact fAddrA_ok h (he _ _ ha)
  ·cases h
 ·rename_i f l c ho
  split at h
  ·rename_i as bs h1 h2
   cases h
   rw [exec_makeFunc ho]
   refine Run0.fix (u := .func (.func f) (l.map ρ) (c.map ρ)) (fun w => rfl) ⟨l.toList.map ρ, c.toList.map ρ, ?_, evL_ok he h1, evL_ok he h2⟩
   rw [← Array.toList_map, ← Array.toList_map, Array.toArray_toList, Array.toArray_toList]
  ·cases h
 ·rename_i op t p q yt ho
  split at h
  ·rename_i a b ha hb
   split at h
   ·rename_i v' hv
    cases h
    rw [exec_binOp ho]; exact binU_ok hv (he _ _ ha) (he _ _ hb)
   ·split at h
    ·rename_i v' hv
     cases h
     rw [exec_binOp ho]; exact nilA_ok hv (he _ _ ha) (he _ _ hb)
    ·exact fb_ok h he
  ·cases h
 ·rename_i op t z ho
  split at h
  ·rename_i a ha
   split at h
   ·rename_i v' hv
    cases h
    rw [exec_unOp ho]; exact unA_ok hv (he _ _ ha)
   ·exact fb_ok h he
  ·cases h
 ·rename_i s d z ho
  split at h
  ·rename_i a ha
   split at h
   ·rename_i v' hv
    cases h
    rw [exec_convert ho]; exact convA_ok hv (he _ _ ha)
   ·exact fb_ok h he
  ·cases h
 ·rename_i t z ho
  split at h
  ·rename_i a ha
   unfold mkI at h
   split at h
   ·rename_i al
    split at h
    ·rename_i fs hu
     split at h
     ·rename_i xs hxs
      cases h
      have hr : R tb η m (.agg al) (ρ z) := he _ _ ha
      obtain ⟨cs, hx, h2⟩ := hr
      have h2 := intsA_ok hxs h2
      subst h2
      refine Run0.fix (u := .iface t (iV xs)) (fun w => ?_) rfl
      unfold execOp
      rw [ho]
      simp only [hx]
      refine vS_run ?_
      simp [Instr.makeInterface, run_underlying hu, iV]
     ·cases h
    ·cases h
   ·cases h
  ·cases h
 ·exact fb_ok h he
 ·rename_i c ho
  unfold callV at h
  split at h
  ·rename_i hc
   split at h
   ·rename_i z t hx ht
    split at h
    ·rename_i a ha
     have h1 : c.args = #[z] := by rw [← Array.toArray_toList (xs := c.args), hx]
     have h2 : c.argTypes = #[t] := by rw [← Array.toArray_toList (xs := c.argTypes), ht]
     rw [exec_builtin ho hc, h1, h2, show (#[z] : Array Operand).map ρ = #[ρ z] from by simp]
     exact lenA_ok h (he _ _ ha) o.type
    ·cases h
   ·cases h
  ·exact fb_ok h he
  ·exact fb_ok h he
  ·cases h
 ·cases h
end
end Go.Proofs.YtkleajhiihbefaaGreatDoor.K.E
set_option linter.unusedVariables false
set_option linter.unusedSimpArgs false
set_option linter.unusedSectionVars false
namespace Go.Proofs.YtkleajhiihbefaaGreatDoor.K.E
open Go Go.RowKit
section
variable {T : Nat → Type} {ρ : Type}
def grd (c b : Bool) (r : Option ρ) : Option ρ := match c with
 | true => cond b r none
 | false => (chk b).bind fun _ => r
theorem grd_some {c b : Bool} {r : Option ρ} {x : ρ} (h : grd c b r = some x) : b = true ∧ r = some x := by
 unfold grd at h
 cases c
 ·exact chkE h
 ·cases b
  ·cases h
  ·exact ⟨rfl, h⟩
def isK : Operand → Bool
 | .const _ => true
 | _ => false
def iv : AV T → Option Int
 | .i64 x => some x
 | .u8 x => some (x.toNat : Int)
 | .u32 x => some (x.toNat : Int)
 | .u64 x => some (x.toNat : Int)
 | .lit (.int _ x) => some x
 | _ => none
def isU : AV T → Bool
 | .u8 _ => true
 | .u32 _ => true
 | .u64 _ => true
 | _ => false
def divA (op : BinOp) (a b : AV T) : Option (Bool × AV T) := match op, a, b with
 | .quo, .i64 x, .i64 y => some (decide (y ≠ 0), .i64 (IntKind.i64.wrap (Int.tdiv x y)))
 | .rem, .i64 x, .i64 y => some (decide (y ≠ 0), .i64 (Int.tmod x y))
 | .quo, .u64 x, .u64 y => some (decide ((y.toNat : Int) ≠ 0), .u64 (x / y))
 | .rem, .u64 x, .u64 y => some (decide ((y.toNat : Int) ≠ 0), .u64 (x % y))
 | .quo, .u8 x, .u8 y => some (decide ((y.toNat : Int) ≠ 0), .u8 (x / y))
 | .rem, .u8 x, .u8 y => some (decide ((y.toNat : Int) ≠ 0), .u8 (x % y))
 | _, _, _ => none
def shA (op : BinOp) (a : AV T) (y : Int) : Option (AV T) := match op, a with
 | .shl, .i64 x => some (.i64 (shlI x y))
 | .shr, .i64 x => some (.i64 (shrI x y))
 | .shl, .u64 x => some (.u64 (shl64 x y))
 | .shr, .u64 x => some (.u64 (shr64 x y))
 | .shl, .u32 x => some (.u32 (shl32 x y))
 | .shr, .u32 x => some (.u32 (shr32 x y))
 | .shl, .u8 x => some (.u8 (shl8 x y))
 | .shr, .u8 x => some (.u8 (shr8 x y))
 | _, _ => none
def binB (op : BinOp) (a b : AV T) (kb : Bool) (k : AV T → Option ρ) : Option (Option ρ) := match divA op a b with
 | some (c, v) => some (grd kb c (k v))
 | none => match iv b with
  | some y => match shA op a y with
   | some v => some (cond (isU b) (k v) (grd kb (decide (0 ≤ y)) (k v)))
   | none => none
  | none => match op, a, b with
   | .add, .str x, .str y => some ((cat x y).bind fun z => k (.str z))
   | _, _, _ => none
def bndA (ev : Operand → Option (AV T)) (x : Option Operand) (d : Int) : Option Int := match x with
 | none => some d
 | some x => match ev x with
  | some a => iv a
  | none => none
def sizeA (P : Program) (t : TypeId) : Nat := match P.info? t with
 | some i => i.size
 | none => 0
def slcE (P : Program) (t : TypeId) : Option TypeId := match P.underlying t with
 | some (.slice e) => some e
 | _ => none
end
section
variable (P : Program) (tb : Tab) {ρ : Type} (ev : Operand → Option (AV tb.T))
def slB' (t n : Nat) : Bool := match slcE P t with
 | some e => slB P t e (tb.rep n).sz
 | none => false
def isStrT (P : Program) (t : TypeId) : Bool := match P.underlying t with
 | some .string => true
 | _ => false
def sliceB (t : TypeId) (a : AV tb.T) (lo hi : Option Operand) (k : AV tb.T → Option ρ) : Option ρ := match a with
 | .str l => cond (isStrT P t) (match bndA ev lo 0, bndA ev hi (l.length : Int) with
  | some x, some y => (slc l x y).bind fun z => k (.str z)
  | _, _ => none) none
 | .sl n l => cond (slB' P tb t n) (match bndA ev lo 0, bndA ev hi (l.length : Int) with
  | some x, some y => (slc l x y).bind fun z => k (.sl n z)
  | _, _ => none) none
 | _ => none
def idxB (t : TypeId) (a b : AV tb.T) (k : AV tb.T → Option ρ) : Option ρ := match iv b with
 | none => none
 | some i => match a with
  | .sl n l => cond (slB' P tb t n && Nat.blt 0 (tb.rep n).sz) ((idx l i).bind fun x => k (.cells 0 (tb.ex n x))) none
  | .glob g => match tb.gl g, P.underlying t with
   | some ⟨n, l⟩, some (.array N e) => cond (arB P t N e (tb.rep n).sz && Nat.beq l.length N) ((idx l i).bind fun x => k (.cells 0 (tb.ex n x))) none
   | _, _ => none
  | _ => none
def strB (t : TypeId) (a b : AV tb.T) (k : AV tb.T → Option ρ) : Option ρ := match a, iv b with
 | .str l, some i => cond (isStrT P t) ((idx l i).bind fun c => k (.u8 c)) none
 | _, _ => none
def loadB (t : TypeId) (a : AV tb.T) : Option (AV tb.T) := match a with
 | .cells off l => match P.underlying t with
  | some d => match isAggD d with
   | true => cond (Nat.ble (off + sizeA P t) l.length && aggB P t (sizeA P t)) (some (.agg ((l.drop off).take (sizeA P t)))) none
   | false => cond (oneB P t) l[off]? none
  | none => none
 | _ => none
def convB (s d : TypeId) (a : AV tb.T) : Option (AV tb.T) := match a with
 | .sl n l => match tb.tou8 n l, P.underlying s, P.underlying d with
  | some x, some (.slice e), some .string => match P.underlying e with
   | some (.int .u8) => some (.str x)
   | _ => none
  | _, _, _ => none
 | .nils => match P.underlying s, P.underlying d with
  | some (.slice e), some .string => match P.underlying e with
   | some (.int .u8) => some (.str [])
   | _ => none
  | _, _ => none
 | _ => none
def opB (o : Oper) (k : AV tb.T → Option ρ) : Option ρ := match o.op with
 | .binOp op t x y _ => match ev x, ev y with
  | some a, some b => match binB op a b (isK y) k with
   | some r => r
   | none => match opV P ev o with
    | some v => k v
    | none => none
  | _, _ => none
 | .index t x y => match ev x, ev y with
  | some a, some b => strB P tb t a b k
  | _, _ => none
 | .slice t x lo hi none => match ev x with
  | some a => sliceB P tb ev t a lo hi k
  | none => none
 | .indexAddr t x y => match ev x, ev y with
  | some a, some b => idxB P tb t a b k
  | _, _ => none
 | .load t x => match ev x with
  | some a => match loadB P tb t a with
   | some v => k v
   | none => none
  | none => none
 | .convert s d x => match ev x with
  | some a => match convB P tb s d a with
   | some v => k v
   | none => match opV P ev o with
    | some v => k v
    | none => none
  | none => none
 | _ => match opV P ev o with
  | some v => k v
  | none => none
end
section
variable {P : Program} {tb : Tab} {η : List Value} {m : Mem} {ev : Operand → Option (AV tb.T)} {ρ : Operand → Value} {o : Oper} {v a b : AV tb.T} {x y : Value} {ρ' : Type} {k : AV tb.T → Option ρ'} {ans : ρ'}
theorem iv_ok {i : Int} (h : iv a = some i) (ha : R tb η m a x) : ∃ ik, x = .int ik i := by
 unfold iv at h
 split at h
 ·cases h; exact ⟨_, ha⟩
 ·cases h; exact ⟨_, ha⟩
 ·cases h; exact ⟨_, ha⟩
 ·cases h; exact ⟨_, ha⟩
 ·cases h; exact ⟨_, ha⟩
 ·cases h
theorem isU_ok {i : Int} (h : isU a = true) (hi : iv a = some i) : 0 ≤ i := by
 cases a <;> simp only [isU, Bool.false_eq_true] at h <;> simp only [iv, Option.some.injEq] at hi <;> omega
theorem divA_ok {op : BinOp} {t : TypeId} {p q : Operand} {c : Bool} (h : divA op a b = some (c, v)) (hc : c = true) (ha : R tb η m a x) (hb : R tb η m b y) : Run0 P tb η m (vS (do eqGuard op t p q x y; binOp op t x y)) v := by
 unfold divA at h
 split at h <;> cases h <;> simp only [R] at ha hb <;> subst ha hb <;> have hne := of_decide_eq_true hc
 ·exact Run0.fix (fun w => bin_run (guard_int _ _ _ _ _ _ _ _) (by show (Op.intDiv .quo .i64 _ _).run P w = _; simp only [Op.intDiv, if_neg hne]; rfl)) rfl
 ·exact Run0.fix (fun w => bin_run (guard_int _ _ _ _ _ _ _ _) (by show (Op.intDiv .rem .i64 _ _).run P w = _; simp only [Op.intDiv, if_neg hne]; rfl)) rfl
 ·exact Run0.fix (fun w => bin_run (guard_int _ _ _ _ _ _ _ _) (by show (Op.intDiv .quo .u64 _ _).run P w = _; simp only [Op.intDiv, if_neg hne]; rfl)) (congrArg (Value.int .u64) (q64_quo _ _ _ _ rfl rfl))
 ·exact Run0.fix (fun w => bin_run (guard_int _ _ _ _ _ _ _ _) (by show (Op.intDiv .rem .u64 _ _).run P w = _; simp only [Op.intDiv, if_neg hne]; rfl)) (congrArg (Value.int .u64) (q64_rem _ _ _ _ rfl rfl))
 ·exact Run0.fix (fun w => bin_run (guard_int _ _ _ _ _ _ _ _) (by show (Op.intDiv .quo .u8 _ _).run P w = _; simp only [Op.intDiv, if_neg hne]; rfl)) (congrArg (Value.int .u8) (q8_quo _ _ _ _ rfl rfl))
 ·exact Run0.fix (fun w => bin_run (guard_int _ _ _ _ _ _ _ _) (by show (Op.intDiv .rem .u8 _ _).run P w = _; simp only [Op.intDiv, if_neg hne]; rfl)) (congrArg (Value.int .u8) (q8_rem _ _ _ _ rfl rfl))
theorem sh_bin {op : BinOp} {t : TypeId} {p q : Operand} {k k' : IntKind} {x y z : Int} (h : (op matches .shl | .shr) = true) (hr : ∀ w, (vS (Op.shift op k x k' y)).run P w = .ok (.value (.int k z)) w) (w : World) : (vS (do eqGuard op t p q (.int k x) (.int k' y); binOp op t (.int k x) (.int k' y))).run P w = .ok (.value (.int k z)) w := by
 have h1 : (vS (do eqGuard op t p q (.int k x) (.int k' y); binOp op t (.int k x) (.int k' y))).run P w = (vS (Op.shift op k x k' y)).run P w := by
  simp only [vS, Sem.run_bind, guard_int, Result.andThen_ok]
  cases op <;> first | rfl | cases h
 rw [h1]; exact hr w
theorem shA_ok {op : BinOp} {t : TypeId} {p q : Operand} {i : Int} {k' : IntKind} (h : shA op a i = some v) (h0 : 0 ≤ i) (ha : R tb η m a x) : Run0 P tb η m (vS (do eqGuard op t p q x (.int k' i); binOp op t x (.int k' i))) v := by
 unfold shA at h
 split at h <;> cases h <;> simp only [R] at ha <;> subst ha
 ·exact Run0.fix (sh_bin rfl fun w => shlI_run _ _ h0) rfl
 ·exact Run0.fix (sh_bin rfl fun w => shrI_run _ _ h0) rfl
 ·exact Run0.fix (sh_bin rfl fun w => shl64_run _ _ h0) rfl
 ·exact Run0.fix (sh_bin rfl fun w => shr64_run _ _ h0) rfl
 ·exact Run0.fix (sh_bin rfl fun w => shl32_run _ _ h0) rfl
 ·exact Run0.fix (sh_bin rfl fun w => shr32_run _ _ h0) rfl
 ·exact Run0.fix (sh_bin rfl fun w => shl8_run _ _ h0) rfl
 ·exact Run0.fix (sh_bin rfl fun w => shr8_run _ _ h0) rfl
theorem binB_ok {op : BinOp} {t : TypeId} {p q : Operand} {kb : Bool} (h : binB op a b kb k = some (some ans)) (ha : R tb η m a x) (hb : R tb η m b y) : ∃ v, k v = some ans ∧ Run0 P tb η m (vS (do eqGuard op t p q x y; binOp op t x y)) v := by
 unfold binB at h
 split at h
 ·rename_i c v hd
  obtain ⟨h1, h2⟩ := grd_some (Option.some.inj h)
  exact ⟨v, h2, divA_ok hd h1 ha hb⟩
 ·split at h
  ·rename_i i hi
   split at h
   ·rename_i v hv
    have h := Option.some.inj h
    obtain ⟨ik, rfl⟩ := iv_ok hi hb
    have : 0 ≤ i ∧ k v = some ans := by
     cases hu : isU b with
     | true => rw [hu] at h; exact ⟨isU_ok hu hi, h⟩
     | false =>
      rw [hu] at h
      obtain ⟨h1, h2⟩ := grd_some h
      exact ⟨of_decide_eq_true h1, h2⟩
    exact ⟨v, this.2, shA_ok hv this.1 ha⟩
   ·cases h
  ·split at h
   ·rename_i l l' _ _
    obtain ⟨z, hz, hk⟩ := bindE (Option.some.inj h)
    obtain ⟨rfl, ha2⟩ := ha
    obtain ⟨rfl, hb2⟩ := hb
    obtain ⟨h1, h2⟩ := cat_some hz
    refine ⟨_, hk, Run0.fix (u := .string ⟨z.toArray⟩) (fun w => ?_) ⟨rfl, ?_⟩⟩
    ·have := cat_runY (P := P) t hz (w := w)
     have e : (vS (do eqGuard .add t p q (.string ⟨l.toArray⟩) (.string ⟨l'.toArray⟩); binOp .add t (.string ⟨l.toArray⟩) (.string ⟨l'.toArray⟩))).run P w = (vS (Op.stringOp .add ⟨l.toArray⟩ ⟨l'.toArray⟩)).run P w := by
      simp only [vS, Sem.run_bind, guard_str, Result.andThen_ok]
      rfl
     rw [e]; exact this
    ·rw [h2, List.length_append]; exact h1
   ·cases h
theorem bndA_ok (he : Ev tb η m ev ρ) {z : Option Operand} {d i : Int} (h : bndA ev z d = some i) : (z.map ρ = none ∧ i = d) ∨ ∃ ik, z.map ρ = some (.int ik i) := by
 unfold bndA at h
 split at h
 ·cases h; exact .inl ⟨rfl, rfl⟩
 ·split at h
  ·rename_i a ha
   obtain ⟨ik, hx⟩ := iv_ok h (he _ _ ha)
   exact .inr ⟨ik, by simp [hx]⟩
  ·cases h
theorem isStrT_ok {t : TypeId} (h : isStrT P t = true) : P.underlying t = some .string := by
 unfold isStrT at h
 split at h
 ·assumption
 ·cases h
theorem slB'_ok {t n : Nat} (h : slB' P tb t n = true) : ∃ e, slB P t e (tb.rep n).sz = true := by
 unfold slB' at h
 split at h
 ·exact ⟨_, h⟩
 ·cases h
theorem slc_run {α : Type} {r : Rep α} {t e : Nat} {A : Option Addr} {c : Nat} {l z : List α} {lo hi : Option Value} {i j : Int} (hs : SlI r m A c l) (ht : slB P t e r.sz = true) (hl : (lo = none ∧ i = 0) ∨ ∃ ik, lo = some (.int ik i)) (hh : (hi = none ∧ j = l.length) ∨ ∃ ik, hi = some (.int ik j)) (hz : slc l i j = some z) :
  ∃ A' c', (∀ w, (vS (Instr.sliceAt t (.slice A l.length c) lo hi none)).run P w = .ok (.value (.slice A' z.length c')) w) ∧ SlI r m A' c' z := by
 obtain ⟨⟨h1, h2, h3⟩, h4, h5⟩ := slc_some hz
 have hle := hs.le
 refine ⟨if c = i.toNat then A else A.map (·.add (i.toNat * r.sz)), c - i.toNat, fun w => ?_, ?_⟩
 ·have := sli_run (P := P) (w := w) t e r.sz A l.length c lo hi i.toNat j.toNat ht ?_ ?_ (by omega) (by omega)
  ·rw [this, show j.toNat - i.toNat = z.length by omega]
  ·rcases hl with ⟨h, e1⟩ | ⟨ik, h⟩
   ·exact .inl ⟨h, by omega⟩
   ·exact .inr ⟨ik, i, h, by omega⟩
  ·rcases hh with ⟨h, e1⟩ | ⟨ik, h⟩
   ·exact .inl ⟨h, by omega⟩
   ·exact .inr ⟨ik, j, h, by omega⟩
 ·refine ⟨by omega, Nat.le_trans (Nat.sub_le _ _) hs.max, ?_⟩
  obtain ⟨xs, h6, h7⟩ := hs.cs
  refine ⟨(xs.take (j.toNat * r.sz)).drop (i.toNat * r.sz), by rw [h4]; exact (h6.take _).drop _, ?_⟩
  refine (h7.take _).cut i.toNat c ?_
  rw [List.length_take, h6.len]
  exact Nat.le_trans (Nat.min_le_right _ _) (Nat.mul_le_mul_right _ hs.le)
theorem sliceB_ok (he : Ev tb η m ev ρ) {t : TypeId} {lo hi : Option Operand} (h : sliceB P tb ev t a lo hi k = some ans) (ha : R tb η m a x) : ∃ v, k v = some ans ∧ Run0 P tb η m (vS (Instr.sliceAt t x (lo.map ρ) (hi.map ρ) none)) v := by
 unfold sliceB at h
 split at h
 ·rename_i l
  cases hc : isStrT P t with
  | false => rw [hc] at h; cases h
  | true =>
   rw [hc] at h
   simp only [cond_true] at h
   split at h
   ·rename_i i j h1 h2
    obtain ⟨z, hz, hk⟩ := bindE h
    obtain ⟨rfl, ha2⟩ := ha
    exact ⟨_, hk, Run0.fix (fun w => str_slice_run t l z _ _ i j (isStrT_ok hc) (bndA_ok he h1) (bndA_ok he h2) hz) ⟨rfl, Nat.le_trans (slc_le hz) ha2⟩⟩
   ·cases h
 ·rename_i n l
  cases hc : slB' P tb t n with
  | false => rw [hc] at h; cases h
  | true =>
   rw [hc] at h
   simp only [cond_true] at h
   split at h
   ·rename_i i j h1 h2
    obtain ⟨z, hz, hk⟩ := bindE h
    obtain ⟨A, c, rfl, hs⟩ := ha
    obtain ⟨e, ht⟩ := slB'_ok hc
    obtain ⟨A', c', h3, h4⟩ := slc_run hs ht (bndA_ok he h1) (bndA_ok he h2) hz
    exact ⟨_, hk, Run0.fix h3 ⟨A', c', rfl, h4⟩⟩
   ·cases h
 ·cases h
theorem ex_cells {n : Nat} {z : tb.T n} {ad : Addr} {cs : List Value} (T : TabOk tb) (h : (tb.rep n).im m cs z) (hc : ∀ j u, cs[j]? = some u → mc m (ad.add j) = some u) : R tb η m (.cells 0 (tb.ex n z)) (.pointer (some ad)) :=
 ⟨ad, cs, by simp [Addr.add], fun j u hj => ⟨ad, rfl, hc j u hj⟩, T.ex h⟩
theorem idxB_ok (T : TabOk tb) (G : Glob tb m) {t : TypeId} (h : idxB P tb t a b k = some ans) (ha : R tb η m a x) (hb : R tb η m b y) : ∃ v, k v = some ans ∧ Run0 P tb η m (vS (Instr.indexAt t x y)) v := by
 unfold idxB at h
 split at h
 ·cases h
 ·rename_i i hi
  obtain ⟨ik, rfl⟩ := iv_ok hi hb
  split at h
  ·rename_i n l
   cases hc : (slB' P tb t n && Nat.blt 0 (tb.rep n).sz) with
   | false => rw [hc] at h; cases h
   | true =>
    rw [hc] at h
    rw [Bool.and_eq_true] at hc
    obtain ⟨z, hz, hk⟩ := bindE h
    obtain ⟨A, c, rfl, hs⟩ := ha
    obtain ⟨e, ht⟩ := slB'_ok hc.1
    obtain ⟨h0, h1, h2⟩ := idx_some hz
    obtain ⟨ad, cs, rfl, h3, h4⟩ := hs.at_ h2 (by simpa [Nat.blt_eq] using hc.2)
    exact ⟨_, hk, Run0.fix (fun w => idx_run t e (tb.rep n).sz _ ad l.length c ik i _ rfl ht h0 h1 rfl) (ex_cells T h3 h4)⟩
  ·rename_i g
   split at h
   ·rename_i n l N e hg hu
    cases hc : (arB P t N e (tb.rep n).sz && Nat.beq l.length N) with
    | false => rw [hc] at h; cases h
    | true =>
     rw [hc] at h
     rw [Bool.and_eq_true] at hc
     obtain ⟨z, hz, hk⟩ := bindE h
     have hx : x = .pointer (some ⟨g, 0, none⟩) := ha
     subst hx
     obtain ⟨h0, h1, h2⟩ := idx_some hz
     have hN := beq_t hc.2
     obtain ⟨ty, fr, xs, h3, h4⟩ := G hg
     obtain ⟨cs, h5, h6⟩ := h4.get h2
     refine ⟨_, hk, Run0.fix (fun w => idxA_run t N e (tb.rep n).sz ⟨g, 0, none⟩ ik i hc.1 h0 (by omega)) (ex_cells T h5 fun j u hj => ?_)⟩
     rw [Addr.add_lit, Addr.add_lit, Nat.zero_add]
     exact mc_blk h3 (h6 j u hj)
   ·cases h
  ·cases h
theorem strB_ok {t : TypeId} (h : strB P tb t a b k = some ans) (ha : R tb η m a x) (hb : R tb η m b y) : ∃ v, k v = some ans ∧ Run0 P tb η m (vS (Instr.index t x y)) v := by
 unfold strB at h
 split at h
 ·rename_i l i hi
  obtain ⟨ik, rfl⟩ := iv_ok hi hb
  cases hc : isStrT P t with
  | false => rw [hc] at h; cases h
  | true =>
   rw [hc] at h
   obtain ⟨z, hz, hk⟩ := bindE h
   obtain ⟨rfl, _⟩ := ha
   exact ⟨_, hk, Run0.fix (fun w => str_idx_run t l ik i z (isStrT_ok hc) hz) rfl⟩
 ·cases h
theorem loadB_ok {t : TypeId} (h : loadB P tb t a = some v) (ha : R tb η m a x) : Run0 P tb η m (vS (Instr.loadAt t x)) v := by
 unfold loadB at h
 split at h
 ·rename_i off l
  obtain ⟨A, cs, rfl, hA, hl⟩ := ha
  split at h
  ·rename_i d hu
   split at h
   ·rename_i hg
    cases hc : (Nat.ble (off + sizeA P t) l.length && aggB P t (sizeA P t)) with
    | false => rw [hc] at h; cases h
    | true =>
     rw [hc] at h
     cases h
     rw [Bool.and_eq_true] at hc
     have h1 := Nat.le_of_ble_eq_true hc.1
     refine ⟨.agg ((cs.drop off).take (sizeA P t)).toArray, fun w hw => ?_, (cs.drop off).take (sizeA P t), rfl, (hl.drop _).take _⟩
     have hlen : ((cs.drop off).take (sizeA P t)).length = sizeA P t := by
      rw [List.length_take, List.length_drop, hl.len]; omega
     refine aggRun t _ _ (by rw [hlen]; exact hc.2) ?_
     intro j u hj
     have hj2 : cs[off + j]? = some u := by
      rw [List.getElem?_take] at hj
      split at hj
      ·rwa [List.getElem?_drop] at hj
      ·cases hj
     obtain ⟨ad, e1, e2⟩ := hA _ _ hj2
     cases e1
     rw [add_add]
     exact hw.cell e2
   ·cases hc : oneB P t with
    | false => rw [hc] at h; cases h
    | true =>
     rw [hc] at h
     obtain ⟨u, hu2, hr⟩ := hl.get h
     refine ⟨u, fun w hw => ?_, hr⟩
     obtain ⟨ad, e1, e2⟩ := hA _ _ hu2
     cases e1
     exact ld_run t _ u hc (hw.cell e2)
  ·cases h
 ·cases h
theorem convB_ok (T : TabOk tb) {s d : TypeId} (h : convB P tb s d a = some v) (ha : R tb η m a x) : Run0 P tb η m (vS (convert s d x)) v := by
 unfold convB at h
 split at h
 ·rename_i n l
  obtain ⟨A, c, rfl, hs⟩ := ha
  split at h
  ·rename_i z e hz hus hud
   split at h
   ·rename_i hue
    cases h
    have h1 : ∃ x' : List UInt8, l.length = z.length ∧ SlI rU8 m A c z := T.tou8 hz (fun α r y => ∃ x' : List UInt8, l.length = y.length ∧ SlI r m A c y) ⟨[], rfl, hs⟩
    obtain ⟨_, h2, h3⟩ := h1
    rw [h2]
    exact ⟨_, fun w hw => b2s_run s d e A z.length c z hus hue hud (h3.bytes.cs hw) rfl, rfl, h3.bound⟩
   ·cases h
  ·cases h
 ·have hx : x = .slice none 0 0 := ha
  subst hx
  split at h
  ·rename_i e hus hud
   split at h
   ·rename_i hue
    cases h
    exact ⟨_, fun w hw => b2s_run s d e none 0 0 [] hus hue hud (Cs.nil 0 0 _ none) rfl, rfl, by simp⟩
   ·cases h
  ·cases h
 ·cases h
theorem exec_index {p q : Operand} {t : Nat} (h : o.op = .index t p q) : execOp ρ o = vS (Instr.index t (ρ p) (ρ q)) := by unfold execOp; rw [h]; rfl
theorem exec_indexAddr {p q : Operand} {t : Nat} (h : o.op = .indexAddr t p q) : execOp ρ o = vS (Instr.indexAt t (ρ p) (ρ q)) := by unfold execOp; rw [h]; rfl
theorem exec_load {p : Operand} {t : Nat} (h : o.op = .load t p) : execOp ρ o = vS (Instr.loadAt t (ρ p)) := by unfold execOp; rw [h]; rfl
theorem exec_slice {p : Operand} {t : Nat} {lo hi mx : Option Operand} (h : o.op = .slice t p lo hi mx) : execOp ρ o = vS (Instr.sliceAt t (ρ p) (lo.map ρ) (hi.map ρ) (mx.map ρ)) := by unfold execOp; rw [h]; rfl
theorem kV (he : Ev tb η m ev ρ) (h : (match opV P ev o with
  | some v => k v
  | none => none) = some ans) : ∃ v, k v = some ans ∧ Run0 P tb η m (execOp ρ o) v := by
 split at h
 ·rename_i v hv; exact ⟨v, h, opV_ok he hv⟩
 ·cases h
theorem opB_ok (T : TabOk tb) (G : Glob tb m) (he : Ev tb η m ev ρ) (h : opB P tb ev o k = some ans) : ∃ v, k v = some ans ∧ Run0 P tb η m (execOp ρ o) v := by
 unfold opB at h
 split at h
 ·rename_i op t p q yt ho
  split at h
  ·rename_i a b ha hb
   split at h
   ·rename_i r hr
    subst h
    rw [exec_binOp ho]; exact binB_ok hr (he _ _ ha) (he _ _ hb)
   ·exact kV he h
  ·cases h
 ·rename_i t p q ho
  split at h
  ·rename_i a b ha hb
   rw [exec_index ho]; exact strB_ok h (he _ _ ha) (he _ _ hb)
  ·cases h
 ·rename_i t p lo hi ho
  split at h
  ·rename_i a ha
   rw [exec_slice ho]; exact sliceB_ok he h (he _ _ ha)
  ·cases h
 ·rename_i t p q ho
  split at h
  ·rename_i a b ha hb
   rw [exec_indexAddr ho]; exact idxB_ok T G h (he _ _ ha) (he _ _ hb)
  ·cases h
 ·rename_i t p ho
  split at h
  ·rename_i a ha
   split at h
   ·rename_i v hv
    rw [exec_load ho]; exact ⟨v, h, loadB_ok hv (he _ _ ha)⟩
   ·cases h
  ·cases h
 ·rename_i s d p ho
  split at h
  ·rename_i a ha
   split at h
   ·rename_i v hv
    rw [exec_convert ho]; exact ⟨v, h, convB_ok T hv (he _ _ ha)⟩
   ·exact kV he h
  ·cases h
 ·exact kV he h
end
end Go.Proofs.YtkleajhiihbefaaGreatDoor.K.E
set_option linter.unusedVariables false
set_option linter.unusedSimpArgs false
set_option linter.unusedSectionVars false
namespace Go.Proofs.YtkleajhiihbefaaGreatDoor.K.E
open Go Go.RowKit
structure Bs where
 w0 : World
 F0 : Nat → Prop
 m0 : Mem
 η0 : List Value
structure Wd (tb : Tab) (bs : Bs) (η : List Value) (m : Mem) (s : S tb.T) (w : World) : Prop where
 len : η.length = s.c
 le : Le bs.η0 η
 st : St bs.w0 bs.F0 bs.m0 m (its tb η s.σ) w
 gl : Glob tb m
def KR (tb : Tab) (η : List Value) (m : Mem) (κ : List (Nat × Nat × AV tb.T)) (κc : Kn) : Prop := ∀ t st v, lk κ t = some (st, v) → ∃ u, fnd κc t = some u ∧ R tb η m v u
structure Ext {T : Nat → Type} (s s' : S T) : Prop where
 c : s.c ≤ s'.c
 d : s.d ≤ s'.d
 κ : ∀ t st v, lk s'.κ t = some (st, v) → st < s.d → lk s.κ t = some (st, v)
 σ : ∀ t st v, lk s'.σ t = some (st, v) → st < s.d → lk s.σ t = some (st, v)
theorem Ext.refl {T : Nat → Type} (s : S T) : Ext s s := ⟨Nat.le_refl _, Nat.le_refl _, fun _ _ _ h _ => h, fun _ _ _ h _ => h⟩
theorem Ext.trans {T : Nat → Type} {a b c : S T} (h : Ext a b) (h' : Ext b c) : Ext a c :=
 ⟨Nat.le_trans h.c h'.c, Nat.le_trans h.d h'.d, fun t st v e l => h.κ t st v (h'.κ t st v e (Nat.lt_of_lt_of_le l h.d)) l, fun t st v e l => h.σ t st v (h'.σ t st v e (Nat.lt_of_lt_of_le l h.d)) l⟩
structure Rl (tb : Tab) (bs : Bs) (s : S tb.T) (κc : Kn) (w : World) : Prop where
 ex : ∃ η m, KR tb η m s.κ κc ∧ Wd tb bs η m s w
section
variable {tb : Tab} {bs : Bs} {η η' : List Value} {m m' : Mem} {s s' : S tb.T} {κc : Kn} {w w' : World}
theorem KR.mono {κ : List (Nat × Nat × AV tb.T)} (h : KR tb η m κ κc) (hη : Le η η') (hm : Sub m m') : KR tb η' m' κ κc := fun t st v e => let ⟨u, h1, h2⟩ := h t st v e; ⟨u, h1, R.mono hη hm v h2⟩
theorem KR.put (h : KR tb η m s.κ κc) {v : AV tb.T} {u : Value} (d : Option Nat) (hv : R tb η m v u) : KR tb η m (s.put d v).κ (putk d u κc) := by
 cases d with
 | none => exact h
 | some t0 =>
  intro t st v' e
  simp only [S.put, lk] at e
  simp only [putk, fnd]
  cases hb : Nat.beq t0 t with
  | true =>
   rw [hb] at e
   simp only [cond_true, Option.some.injEq, Prod.mk.injEq] at e
   obtain ⟨_, rfl⟩ := e
   exact ⟨u, rfl, hv⟩
  | false =>
   rw [hb] at e
   exact h t st v' e
theorem Wd.put (h : Wd tb bs η m s w) (d : Option Nat) (v : AV tb.T) : Wd tb bs η m (s.put d v) w := by
 cases d with
 | none => exact h
 | some t => exact ⟨h.len, h.le, h.st, h.gl⟩
theorem Ext.put (s : S tb.T) (d : Option Nat) (v : AV tb.T) : Ext s (s.put d v) := by
 cases d with
 | none => exact Ext.refl s
 | some t0 =>
  refine ⟨Nat.le_refl _, Nat.le_succ _, fun t st v' e l => ?_, fun _ _ _ e _ => e⟩
  simp only [S.put, lk] at e
  cases hb : Nat.beq t0 t with
  | true =>
   rw [hb] at e
   simp only [cond_true, Option.some.injEq, Prod.mk.injEq] at e
   obtain ⟨rfl, _⟩ := e
   exact absurd l (Nat.lt_irrefl _)
  | false =>
   rw [hb] at e
   exact e
theorem KR.ev (h : KR tb η m s.κ κc) : Ev tb η m (evA s.κ) (evT κc) := by
 intro x a e
 cases x with
 | tmp t =>
  simp only [evA] at e
  split at e
  ·rename_i st v hv
   cases e
   obtain ⟨u, h1, h2⟩ := h _ _ _ hv
   simp only [evT, K.ev, h1, Option.getD_some]
   exact h2
  ·cases e
 | const v => simp only [evA, Option.some.injEq] at e; subst e; exact cst_ok v
 | global g => simp only [evA, Option.some.injEq] at e; subst e; rfl
 | func f => simp only [evA, Option.some.injEq] at e; subst e; exact ⟨[], [], rfl, rfl, rfl⟩
theorem KR.known (h : KR tb η m s.κ κc) {x : Operand} {a : AV tb.T} (e : evA s.κ x = some a) : (K.ev κc x).isSome = true := by
 cases x with
 | tmp t =>
  simp only [evA] at e
  split at e
  ·rename_i st v hv
   obtain ⟨u, h1, h2⟩ := h _ _ _ hv
   simp [K.ev, h1]
  ·cases e
 | _ => rfl
theorem beq_ne {a b : Nat} (h : Nat.beq a b = false) : a ≠ b := fun e => by subst e; rw [Nat.beq_refl] at h; cases h
theorem lk_del {α : Type} : ∀ {l : List (Nat × Nat × α)} {t u : Nat} {p : Nat × α}, lk (del l t) u = some p → u ≠ t ∧ lk l u = some p
 | [], _, _, _, h => by cases h
 | (i, st, v) :: r, t, u, p, h => by
  simp only [del] at h
  cases hb : Nat.beq i t with
  | true =>
   have := beq_t hb
   subst this
   rw [hb] at h
   obtain ⟨h1, h2⟩ := lk_del (l := r) h
   refine ⟨h1, ?_⟩
   have hb2 : Nat.beq i u = false := by
    cases hb2 : Nat.beq i u with
    | true => exact absurd (beq_t hb2).symm h1
    | false => rfl
   simp only [lk, hb2, cond_false]
   exact h2
  | false =>
   rw [hb] at h
   simp only [cond_false, lk] at h ⊢
   cases hb2 : Nat.beq i u with
   | true =>
    rw [hb2] at h
    have := beq_t hb2
    subst this
    exact ⟨beq_ne hb, h⟩
   | false =>
    rw [hb2] at h
    exact lk_del h
theorem lk_sto {α : Type} {l : List (Nat × Nat × α)} {t u st : Nat} {v : α} {p : Nat × α} (h : lk (sto l t st v) u = some p) : (u = t ∧ p = (st, v)) ∨ lk l u = some p := by
 simp only [sto, lk] at h
 cases hb : Nat.beq t u with
 | true => rw [hb] at h; have := beq_t hb; subst this; exact .inl ⟨rfl, (Option.some.inj h).symm⟩
 | false => rw [hb] at h; exact .inr (lk_del h).2
theorem Wd.old (h : Wd tb bs η m s w) {id : Nat} {p : Nat × DI tb.T} (hl : lk s.σ id = some p) : id < s.c := by
 obtain ⟨F, h1, _⟩ := h.st.sep
 obtain ⟨F1, F2, h2, _⟩ := Sep_lk hl h1
 rw [← h.len]
 obtain ⟨st, x⟩ := p
 cases x with
 | blk t c => obtain ⟨g, cs, h3, _⟩ := h2; exact (List.getElem?_eq_some_iff.1 h3).1
 | row n t l => obtain ⟨A, c, h3, _⟩ := h2; exact (List.getElem?_eq_some_iff.1 h3).1
 | lit t k c => obtain ⟨g, cs, h3, _⟩ := h2; exact (List.getElem?_eq_some_iff.1 h3).1
 | kep t c j => obtain ⟨g, cs, ⟨h3, _⟩, _⟩ := h2; exact (List.getElem?_eq_some_iff.1 h3).1
 | gen n x j => obtain ⟨v, u, ⟨h3, _⟩, _⟩ := h2; exact (List.getElem?_eq_some_iff.1 h3).1
def pto {T : Nat → Type} (id o : Nat) : AV T → AV T
 | .cells 0 l => .cells o l
 | _ => .ptr id o
mutual
def hasA {T : Nat → Type} (id : Nat) : AV T → Bool
 | .row i => Nat.beq i id
 | .ptr i _ => Nat.beq i id
 | .cells _ l => hasL id l
 | .agg l => hasL id l
 | .tup l => hasL id l
 | .fn _ l c => hasL id l || hasL id c
 | _ => false
def hasL {T : Nat → Type} (id : Nat) : List (AV T) → Bool
 | [] => false
 | a :: l => hasA id a || hasL id l
end
mutual
def subA {T : Nat → Type} (id : Nat) (b : AV T) : AV T → AV T
 | .row i => cond (Nat.beq i id) b (.row i)
 | .ptr i o => cond (Nat.beq i id) (pto id o b) (.ptr i o)
 | .cells o l => .cells o (subL id b l)
 | .agg l => .agg (subL id b l)
 | .tup l => .tup (subL id b l)
 | .fn f l c => .fn f (subL id b l) (subL id b c)
 | a => a
def subL {T : Nat → Type} (id : Nat) (b : AV T) : List (AV T) → List (AV T)
 | [] => []
 | a :: l => subA id b a :: subL id b l
end
def SubOk (tb : Tab) (η : List Value) (m : Mem) (η' : List Value) (m' : Mem) (id : Nat) (b : AV tb.T) : Prop := (∀ v, R tb η m (.row id) v → R tb η' m' b v) ∧ ∀ o v, R tb η m (.ptr id o) v → R tb η' m' (pto id o b) v
mutual
theorem subA_ok {id : Nat} {b : AV tb.T} (hη : Le η η') (hm : Sub m m') (hb : SubOk tb η m η' m' id b) : ∀ (a : AV tb.T) {v : Value}, R tb η m a v → R tb η' m' (subA id b a) v
 | .row i, v, h => by
  simp only [subA]
  cases hi : Nat.beq i id with
  | true => have := beq_t hi; subst this; exact hb.1 v h
  | false => exact R.mono hη hm (.row i) h
 | .ptr i o, v, h => by
  simp only [subA]
  cases hi : Nat.beq i id with
  | true => have := beq_t hi; subst this; exact hb.2 o v h
  | false => exact R.mono hη hm (.ptr i o) h
 | .cells o l, v, ⟨A, cs, h1, h2, h3⟩ => ⟨A, cs, h1, h2.mono hm, subL_ok hη hm hb l h3⟩
 | .agg l, v, ⟨cs, h1, h3⟩ => ⟨cs, h1, subL_ok hη hm hb l h3⟩
 | .tup l, v, ⟨cs, h1, h3⟩ => ⟨cs, h1, subL_ok hη hm hb l h3⟩
 | .fn f l c, v, ⟨xs, ys, h1, h3, h4⟩ => ⟨xs, ys, h1, subL_ok hη hm hb l h3, subL_ok hη hm hb c h4⟩
 | .i64 x, v, h => h
 | .u8 x, v, h => h
 | .u32 x, v, h => h
 | .u16 x, v, h => h
 | .u64 x, v, h => h
 | .bool x, v, h => h
 | .str x, v, h => h
 | .sl n l, v, h => R.mono hη hm (.sl n l) h
 | .nils, v, h => h
 | .nilp, v, h => h
 | .one n x, v, h => R.mono hη hm (.one n x) h
 | .con n x, v, h => R.mono hη hm (.con n x) h
 | .elt i j n o, v, h => R.mono hη hm (.elt i j n o) h
 | .glob g, v, h => h
 | .lit u, v, h => h
 | .any, v, h => h
theorem subL_ok {id : Nat} {b : AV tb.T} (hη : Le η η') (hm : Sub m m') (hb : SubOk tb η m η' m' id b) : ∀ (l : List (AV tb.T)) {vs : List Value}, RL tb η m l vs → RL tb η' m' (subL id b l) vs
 | [], vs, h => h
 | a :: l, vs, ⟨v, r, h1, h2, h3⟩ => ⟨v, r, h1, subA_ok hη hm hb a h2, subL_ok hη hm hb l h3⟩
end
theorem SubOk.pre {id : Nat} {b : AV tb.T} (h5 : Sub m m') (h : SubOk tb η m' η' m' id b) (hη : Le η η := Le.refl η) : SubOk tb η m η' m' id b := ⟨fun v hr => h.1 v (R.mono hη h5 (.row id) hr), fun o v hr => h.2 o v (R.mono hη h5 (.ptr id o) hr)⟩
def hK {T : Nat → Type} (id d : Nat) (b : AV T) (p : Nat × AV T) : Nat × AV T := cond (hasA id p.2) (d, subA id b p.2) p
def hS {T : Nat → Type} (id d : Nat) (b : AV T) (p : Nat × DI T) : Nat × DI T := match p.2 with
 | .blk t c => cond (hasL id c) (d, .blk t (subL id b c)) p
 | .lit t k c => cond (hasL id c) (d, .lit t k (subL id b c)) p
 | .kep t c j => cond (hasL id c) (d, .kep t (subL id b c) j) p
 | _ => p
def mapE {α : Type} (h : Nat × α → Nat × α) (l : List (Nat × Nat × α)) : List (Nat × Nat × α) := l.map fun e => (e.1, h e.2)
theorem lk_mapE {α : Type} (h : Nat × α → Nat × α) : ∀ (l : List (Nat × Nat × α)) (t : Nat), lk (mapE h l) t = (lk l t).map h
 | [], _ => rfl
 | (i, st, v) :: r, t => by
  show cond (Nat.beq i t) (some (h (st, v))) (lk (mapE h r) t) = Option.map h (cond (Nat.beq i t) (some (st, v)) (lk r t))
  cases Nat.beq i t with
  | true => rfl
  | false => exact lk_mapE h r t
mutual
theorem has_ok {id : Nat} {b : AV tb.T} : ∀ a : AV tb.T, hasA id a = false → subA id b a = a
 | .row i, h => by simp only [hasA] at h; simp only [subA, h, cond_false]
 | .cells o l, h => by simp only [hasA] at h; simp only [subA, hasL_ok l h]
 | .agg l, h => by simp only [hasA] at h; simp only [subA, hasL_ok l h]
 | .tup l, h => by simp only [hasA] at h; simp only [subA, hasL_ok l h]
 | .fn f l c, h => by simp only [hasA, Bool.or_eq_false_iff] at h; simp only [subA, hasL_ok l h.1, hasL_ok c h.2]
 | .i64 x, h => rfl
 | .u8 x, h => rfl
 | .u32 x, h => rfl
 | .u16 x, h => rfl
 | .u64 x, h => rfl
 | .bool x, h => rfl
 | .str x, h => rfl
 | .sl n l, h => rfl
 | .nils, h => rfl
 | .nilp, h => rfl
 | .one n x, h => rfl
 | .con n x, h => rfl
 | .ptr i o, h => by simp only [hasA] at h; simp only [subA, h, cond_false]
 | .elt i j n o, h => rfl
 | .glob g, h => rfl
 | .lit u, h => rfl
 | .any, h => rfl
theorem hasL_ok {id : Nat} {b : AV tb.T} : ∀ l : List (AV tb.T), hasL id l = false → subL id b l = l
 | [], _ => rfl
 | a :: l, h => by simp only [hasL, Bool.or_eq_false_iff] at h; simp only [subL, has_ok a h.1, hasL_ok l h.2]
end
def chg {T : Nat → Type} (s : S T) (id : Nat) (b : AV T) : S T := { κ := mapE (hK id s.d b) s.κ, σ := mapE (hS id s.d b) (del s.σ id), c := s.c, d := s.d + 1 }
theorem its_sub {id d : Nat} {b : AV tb.T} (hb : SubOk tb η m η m id b) {w : World} : ∀ (σ : Sg tb.T) {F : Nat → Prop}, Sep m w (its tb η σ) F → Sep m w (its tb η (mapE (hS id d b) σ)) F
 | [], _, h => h
 | (i, st, x) :: r, F, ⟨F1, F2, h1, h2, h3, h4⟩ => by
  refine ⟨F1, F2, ?_, its_sub hb r h2, h3, h4⟩
  cases x with
  | row n t l => exact h1
  | gen n x j => exact h1
  | blk t c =>
   show (DI.item tb η i (hS id d b (st, .blk t c)).2).P m w F1
   simp only [hS]
   cases hh : hasL id c with
   | false => exact h1
   | true =>
    obtain ⟨g, cs, k1, k2, k3⟩ := h1
    exact ⟨g, cs, k1, subL_ok (Le.refl _) (Sub.refl _) hb c k2, k3⟩
  | lit t k c =>
   show (DI.item tb η i (hS id d b (st, .lit t k c)).2).P m w F1
   simp only [hS]
   cases hh : hasL id c with
   | false => exact h1
   | true =>
    obtain ⟨g, cs, k1, k2, k3⟩ := h1
    exact ⟨g, cs, k1, subL_ok (Le.refl _) (Sub.refl _) hb c k2, k3⟩
  | kep t c j =>
   show (DI.item tb η i (hS id d b (st, .kep t c j)).2).P m w F1
   simp only [hS]
   cases hh : hasL id c with
   | false => exact h1
   | true =>
    obtain ⟨g, cs, k1, k2, k3⟩ := h1
    exact ⟨g, cs, k1, subL_ok (Le.refl _) (Sub.refl _) hb c k2, k3⟩
theorem chg_ext {id : Nat} {b : AV tb.T} : Ext s (chg s id b) := by
 refine ⟨Nat.le_refl _, Nat.le_succ _, ?_, ?_⟩
 ·intro t st v e l'
  unfold chg at e
  simp only at e
  rw [lk_mapE] at e
  obtain ⟨p, hp, e⟩ := Option.map_eq_some_iff.1 e
  unfold hK at e
  cases hh : hasA id p.2 with
  | true => rw [hh] at e; simp only [cond_true, Prod.mk.injEq] at e; rw [← e.1] at l'; exact absurd l' (Nat.lt_irrefl _)
  | false => rw [hh] at e; simp only [cond_false] at e; rw [hp, e]
 ·intro t st v e l'
  unfold chg at e
  simp only at e
  rw [lk_mapE] at e
  obtain ⟨p, hp, e⟩ := Option.map_eq_some_iff.1 e
  have hp2 := (lk_del hp).2
  unfold hS at e
  split at e
  ·rename_i t' c' hpc
   cases hh : hasL id c' with
   | true => rw [hh] at e; simp only [cond_true, Prod.mk.injEq] at e; rw [← e.1] at l'; exact absurd l' (Nat.lt_irrefl _)
   | false => rw [hh] at e; simp only [cond_false] at e; rw [hp2, e]
  ·rename_i t' k' c' hpc
   cases hh : hasL id c' with
   | true => rw [hh] at e; simp only [cond_true, Prod.mk.injEq] at e; rw [← e.1] at l'; exact absurd l' (Nat.lt_irrefl _)
   | false => rw [hh] at e; simp only [cond_false] at e; rw [hp2, e]
  ·rename_i t' c' k' hpc
   cases hh : hasL id c' with
   | true => rw [hh] at e; simp only [cond_true, Prod.mk.injEq] at e; rw [← e.1] at l'; exact absurd l' (Nat.lt_irrefl _)
   | false => rw [hh] at e; simp only [cond_false] at e; rw [hp2, e]
  ·rw [hp2, e]
theorem chg_ok {id : Nat} {b : AV tb.T} (hw : Wd tb bs η m s w) (hk : KR tb η m s.κ κc) (h5 : Sub m m') (h7 : St bs.w0 bs.F0 bs.m0 m' (its tb η (del s.σ id)) w') (hb : SubOk tb η m' η m' id b) :
  KR tb η m' (chg s id b).κ κc ∧ Wd tb bs η m' (chg s id b) w' := by
 refine ⟨?_, hw.len, hw.le, ?_, Glob.mono hw.gl h5⟩
 ·intro t st v e
  unfold chg at e
  simp only at e
  rw [lk_mapE] at e
  obtain ⟨p, hp, e⟩ := Option.map_eq_some_iff.1 e
  obtain ⟨u, h8, h9⟩ := hk t p.1 p.2 hp
  refine ⟨u, h8, ?_⟩
  have h10 := subA_ok (id := id) (b := b) (Le.refl η) (Sub.refl m') hb p.2 (R.mono (Le.refl _) h5 p.2 h9)
  unfold hK at e
  cases hh : hasA id p.2 with
  | true => rw [hh] at e; simp only [cond_true, Prod.mk.injEq] at e; rw [← e.2]; exact h10
  | false => rw [hh] at e; simp only [cond_false] at e; rw [has_ok _ hh] at h10; rw [e] at h10; exact h10
 ·obtain ⟨G, g1, g2, g3⟩ := h7.sep
  exact ⟨h7.kp, h7.sub, h7.has, h7.new, G, its_sub hb _ g1, g2, g3⟩
theorem fix_sl {n t : Nat} {A : Option Addr} {c : Nat} {l : List (tb.T n)} {σ : List Item} {w0 : World} {F0 : Nat → Prop} {m0 : Mem} (H : St w0 F0 m0 m (rowI (tb.rep n) t A c l :: σ) w) : ∃ m1, Sub m m1 ∧ SlI (tb.rep n) m1 A c l ∧ St w0 F0 m0 m1 σ w := by
 obtain ⟨m1, h1, h2, h3⟩ := H.fixR 0 rfl
 exact ⟨m1, h1, h2, h3⟩
theorem St_ex {α : Type} {i : Item} {j : α → Item} {Q : α → Prop} {σ : List Item} {w0 : World} {F0 : Nat → Prop} {m0 : Mem} (H : St w0 F0 m0 m (i :: σ) w) (h : ∀ F, i.P m w F → ∃ y, Q y ∧ (j y).P m w F) : ∃ y, Q y ∧ St w0 F0 m0 m (j y :: σ) w := by
 obtain ⟨F, ⟨F1, F2, h1, h2, h3⟩, h4⟩ := H.sep
 obtain ⟨y, hq, hy⟩ := h F1 h1
 exact ⟨y, hq, H.kp, H.sub, H.has, H.new, F, ⟨F1, F2, hy, h2, h3⟩, h4⟩
theorem Wd.pull (h : Wd tb bs η m s w) {id : Nat} {p : Nat × DI tb.T} (hl : lk s.σ id = some p) : St bs.w0 bs.F0 bs.m0 m (p.2.item tb η id :: its tb η (del s.σ id)) w := by
 obtain ⟨F, h1, h2, h3⟩ := h.st.sep
 obtain ⟨F1, F2, k1, k2, k3, k4⟩ := Sep_lk hl h1
 exact ⟨h.st.kp, h.st.sub, h.st.has, h.st.new, fun k => F1 k ∨ F2 k, ⟨F1, F2, k1, k2, k3, fun k => Iff.rfl⟩, fun k e => h2 k (k4 k e), fun k e => h3 k (k4 k e)⟩
theorem Wd.row (h : Wd tb bs η m s w) {id st n t : Nat} {l : List (tb.T n)} (hl : lk s.σ id = some (st, .row n t l)) : ∃ A c, η[id]? = some (.slice A l.length c) ∧ St bs.w0 bs.F0 bs.m0 m (rowI (tb.rep n) t A c l :: its tb η (del s.σ id)) w := by
 obtain ⟨⟨A, c⟩, h1, h2⟩ := St_ex (j := fun y : Option Addr × Nat => rowI (tb.rep n) t y.1 y.2 l) (Q := fun y => η[id]? = some (.slice y.1 l.length y.2)) (h.pull hl) (fun F ⟨A, c, h1, h2⟩ => ⟨(A, c), h1, h2⟩)
 exact ⟨A, c, h1, h2⟩
theorem Wd.blk (h : Wd tb bs η m s w) {id st t : Nat} {c : List (AV tb.T)} (hl : lk s.σ id = some (st, .blk t c)) : ∃ g cs, η[id]? = some (.pointer (some ⟨g, 0, none⟩)) ∧ RL tb η m c cs ∧ St bs.w0 bs.F0 bs.m0 m (blkI g cs t :: its tb η (del s.σ id)) w := by
 obtain ⟨⟨g, cs⟩, ⟨h1, h2⟩, h3⟩ := St_ex (j := fun y : Nat × List Value => blkI y.1 y.2 t) (Q := fun y => η[id]? = some (.pointer (some ⟨y.1, 0, none⟩)) ∧ RL tb η m c y.2) (h.pull hl) (fun F ⟨g, cs, h1, h2, h3⟩ => ⟨(g, cs), ⟨h1, h2⟩, h3⟩)
 exact ⟨g, cs, h1, h2, h3⟩
theorem Wd.lit (h : Wd tb bs η m s w) {id st t k : Nat} {c : List (AV tb.T)} (hl : lk s.σ id = some (st, .lit t k c)) : ∃ g cs, η[id]? = some (.slice (some ⟨g, 0, none⟩) k k) ∧ RL tb η m c cs ∧ St bs.w0 bs.F0 bs.m0 m (blkI g cs t :: its tb η (del s.σ id)) w := by
 obtain ⟨⟨g, cs⟩, ⟨h1, h2⟩, h3⟩ := St_ex (j := fun y : Nat × List Value => blkI y.1 y.2 t) (Q := fun y => η[id]? = some (.slice (some ⟨y.1, 0, none⟩) k k) ∧ RL tb η m c y.2) (h.pull hl) (fun F ⟨g, cs, h1, h2, h3⟩ => ⟨(g, cs), ⟨h1, h2⟩, h3⟩)
 exact ⟨g, cs, h1, h2, h3⟩
theorem Wd.kep (h : Wd tb bs η m s w) {id st t j : Nat} {c : List (AV tb.T)} (hl : lk s.σ id = some (st, .kep t c j)) : ∃ g cs, (η[id]? = some (.pointer (some ⟨g, 0, none⟩)) ∧ η[j]? = some (.agg cs.toArray)) ∧ RL tb η m c cs ∧ St bs.w0 bs.F0 bs.m0 m (blkI g cs t :: its tb η (del s.σ id)) w := by
 obtain ⟨⟨g, cs⟩, ⟨h1, h2⟩, h3⟩ := St_ex (j := fun y : Nat × List Value => blkI y.1 y.2 t) (Q := fun y => (η[id]? = some (.pointer (some ⟨y.1, 0, none⟩)) ∧ η[j]? = some (.agg y.2.toArray)) ∧ RL tb η m c y.2) (h.pull hl) (fun F ⟨g, cs, h1, h2, h3⟩ => ⟨(g, cs), ⟨h1, h2⟩, h3⟩)
 exact ⟨g, cs, h1, h2, h3⟩
theorem lit_row (T : TabOk tb) {n t k : Nat} {g : Nat} {c : List (AV tb.T)} {cs : List Value} {x : List (tb.T n)} (h : imL tb n (tb.rep n).sz k c = some x) (hk : k ≤ 137438953472) (hr : RL tb η m c cs) {σ : List Item} {w0 : World} {F0 : Nat → Prop} {m0 : Mem} (H : St w0 F0 m0 m (blkI g cs t :: σ) w) :
  x.length = k ∧ St w0 F0 m0 m (rowI (tb.rep n) t (some ⟨g, 0, none⟩) x.length x :: σ) w := by
 obtain ⟨h1, h2⟩ := imL_ok T h hr
 exact ⟨h2, H.toRow 0 rfl h1 (by rw [h2]; exact Nat.le_trans hk (by decide))⟩
theorem Wd.gen (h : Wd tb bs η m s w) {id st kk j : Nat} {g : tb.T kk} (hl : lk s.σ id = some (st, .gen kk g j)) : ∃ v u, η[id]? = some v ∧ η[j]? = some u ∧ v.oneCell' = true ∧ St bs.w0 bs.F0 bs.m0 m (tb.gi kk g v u :: its tb η (E.del s.σ id)) w := by
 obtain ⟨⟨v, u⟩, ⟨h1, h2, h3⟩, h4⟩ := St_ex (j := fun y : Value × Value => tb.gi kk g y.1 y.2) (Q := fun y => η[id]? = some y.1 ∧ η[j]? = some y.2 ∧ y.1.oneCell' = true) (h.pull hl) (fun F ⟨v, u, ⟨h1, h2⟩, h3, h4⟩ => ⟨(v, u), ⟨h1, h2, h3⟩, h4⟩)
 exact ⟨v, u, h1, h2, h3, h4⟩
theorem Wd.deep (T : TabOk tb) (h : Wd tb bs η m s w) {id st kk : Nat} {d : DP tb.T tb.rep kk} {x : tb.T kk} (hl : lk s.σ id = some (st, .gen kk x id)) (hd : tb.dp kk = some d) :
  ∃ A c, η[id]? = some (.slice A (d.to x).length c) ∧ St bs.w0 bs.F0 bs.m0 m (rowO (oD d.D d.tk) d.t A c (d.to x) :: its tb η (E.del s.σ id)) w := by
 obtain ⟨v, u, h1, h2, h3, h4⟩ := h.gen hl
 rw [(T.kd.dgi hd).1] at h4
 obtain ⟨⟨A, c⟩, q1, q2⟩ := St_ex (j := fun y : Option Addr × Nat => rowO (oD d.D d.tk) d.t y.1 y.2 (d.to x)) (Q := fun y => v = .slice y.1 (d.to x).length y.2) h4 (fun F ⟨A, c, e1, e2⟩ => ⟨(A, c), e1, e2⟩)
 simp only at q1
 subst q1
 exact ⟨A, c, h1, q2⟩
def frz (tb : Tab) (s : S tb.T) (id : Nat) : Option (AV tb.T × S tb.T) := match lk s.σ id with
 | some (_, .row n _ l) => some (.sl n l, chg s id (.sl n l))
 | some (_, .lit t k c) => match tb.code t with
  | some n => cond (Nat.ble k 137438953472) (match imL tb n (tb.rep n).sz k c with
   | some x => some (.sl n x, chg s id (.sl n x))
   | none => none) none
  | none => none
 | some (_, .gen k x j) => cond (Nat.beq j id) (match tb.dp k with
  | some d => some (.sl d.n (d.to x), chg s id (.sl d.n (d.to x)))
  | none => match tb.mp k with
   | some _ => some (.one k x, chg s id (.one k x))
   | none => none) none
 | some (_, .blk _ c) => some (.cells 0 c, chg s id (.cells 0 c))
 | _ => none
theorem frz_ok (T : TabOk tb) {id : Nat} {b : AV tb.T} (h : frz tb s id = some (b, s')) (hw : Wd tb bs η m s w) (hk : KR tb η m s.κ κc) : Ext s s' ∧ ∃ m', Sub m m' ∧ KR tb η m' s'.κ κc ∧ Wd tb bs η m' s' w ∧ SubOk tb η m η m' id b := by
 have key : ∀ {n t : Nat} {A : Option Addr} {c : Nat} {l : List (tb.T n)}, η[id]? = some (.slice A l.length c) → St bs.w0 bs.F0 bs.m0 m (rowI (tb.rep n) t A c l :: its tb η (del s.σ id)) w → b = .sl n l → s' = chg s id (.sl n l) → Ext s s' ∧ ∃ m', Sub m m' ∧ KR tb η m' s'.κ κc ∧ Wd tb bs η m' s' w ∧ SubOk tb η m η m' id b := by
  intro n t A c l h3 h4 e1 e2
  subst e1 e2
  obtain ⟨m1, h5, hs, h7⟩ := fix_sl h4
  have hb : ∀ v, R tb η m1 (.row id) v → R tb η m1 (.sl n l) v := by
   rintro v ⟨h8, _⟩
   rw [h3] at h8
   cases h8
   exact ⟨A, c, rfl, hs⟩
  obtain ⟨k1, k2⟩ := chg_ok hw hk h5 h7 ⟨hb, fun o v e => e⟩
  exact ⟨chg_ext, m1, h5, k1, k2, SubOk.pre h5 ⟨hb, fun o v e => e⟩⟩
 unfold frz at h
 split at h
 ·rename_i st n t l hl
  cases h
  obtain ⟨A, c, h3, h4⟩ := hw.row hl
  exact key h3 h4 rfl rfl
 ·rename_i st t k c hl
  split at h
  ·rename_i n hn
   cases hb : Nat.ble k 137438953472 with
   | false => rw [hb] at h; cases h
   | true =>
    rw [hb] at h
    simp only [cond_true] at h
    split at h
    ·rename_i x hx
     cases h
     obtain ⟨g, cs, h3, h4, h5⟩ := hw.lit hl
     obtain ⟨h6, h7⟩ := lit_row T hx (Nat.le_of_ble_eq_true hb) h4 h5
     rw [← h6] at h3
     exact key h3 h7 rfl rfl
    ·cases h
  ·cases h
 ·rename_i st k x j hl
  cases hb : Nat.beq j id with
  | false => rw [hb] at h; cases h
  | true =>
   have := beq_t hb
   subst this
   rw [hb] at h
   simp only [cond_true] at h
   split at h
   ·rename_i d hd
    cases h
    obtain ⟨A, c, h3, h4⟩ := hw.deep T hl hd
    obtain ⟨m1, h5, hs, h7⟩ := h4.fixO 0 rfl
    have hb : ∀ v, R tb η m1 (.row j) v → R tb η m1 (.sl d.n (d.to x)) v := by
     rintro v ⟨h8, _⟩
     rw [h3] at h8
     cases h8
     exact ⟨A, c, rfl, hs⟩
    obtain ⟨k1, k2⟩ := chg_ok hw hk h5 h7 ⟨hb, fun o v e => e⟩
    exact ⟨chg_ext, m1, h5, k1, k2, SubOk.pre h5 ⟨hb, fun o v e => e⟩⟩
   ·split at h
    ·rename_i d hd
     cases h
     obtain ⟨v0, u0, h1, h2, h3, h4⟩ := hw.gen hl
     rw [(T.kd.mgi hd).1] at h4
     obtain ⟨F, m1, ⟨bb, lv, e1, e2, ⟨es, clock, e3, e4⟩, eF⟩, h5, h6, h7⟩ := h4.fix0
     have hb : ∀ v, R tb η m1 (.row j) v → R tb η m1 (.one k x) v := by
      rintro v ⟨h8, _⟩
      rw [h1] at h8
      cases h8
      exact (T.kd.mre hd m1 v0 x).2 ⟨bb, es, clock, lv, e1, by rw [h6 bb ((eF bb).2 rfl)]; exact e3, e4, e2.mono h5⟩
     obtain ⟨k1, k2⟩ := chg_ok hw hk h5 h7 ⟨hb, fun o v e => e⟩
     exact ⟨chg_ext, m1, h5, k1, k2, SubOk.pre h5 ⟨hb, fun o v e => e⟩⟩
    ·cases h
 ·rename_i st t c hl
  cases h
  obtain ⟨g, cs, h3, h4, h5'⟩ := hw.blk hl
  obtain ⟨F, m1, ⟨e1, eF⟩, h5, h6, h7⟩ := h5'.fix0
  have hm1 : m1 g = some (.cells cs.toArray t (0, 0)) := by rw [h6 g ((eF g).2 rfl)]; exact e1
  have hC : CsM m1 (some ⟨g, 0, none⟩) cs := fun j u hj => ⟨_, rfl, by cases j with | zero => simpa [mc, Addr.add, hm1] using hj | succ j => simpa [mc, Addr.add, hm1] using hj⟩
  have hb : SubOk tb η m1 η m1 id (.cells 0 c) := by
   refine ⟨?_, ?_⟩
   ·rintro v ⟨h8, _⟩
    rw [h3] at h8
    cases h8
    exact ⟨⟨g, 0, none⟩, cs, rfl, hC, RL.mono (Le.refl _) h5 c h4⟩
   ·rintro o v ⟨g', h8, h9⟩
    rw [h3] at h8
    cases h8
    exact ⟨⟨g, 0, none⟩, cs, by rw [h9]; simp [Addr.add], hC, RL.mono (Le.refl _) h5 c h4⟩
  obtain ⟨k1, k2⟩ := chg_ok hw hk h5 h7 hb
  exact ⟨chg_ext, m1, h5, k1, k2, SubOk.pre h5 hb⟩
 ·cases h
end
end Go.Proofs.YtkleajhiihbefaaGreatDoor.K.E
