/- E, part 2: shapes; a state's parts packed into numbers and lists, and unpacked. -/
import Derived.Test.YtbldeodchhfjfaaGreatDoorE1
set_option linter.unusedVariables false
set_option linter.unusedSimpArgs false
set_option linter.unusedSectionVars false
namespace Go.Proofs.YtbldeodchhfjfaaGreatDoor.K.E
open Go Go.RowKit

inductive Sh where
  | i64 | u8 | u32 | u64 | bool | str | nilp
  | sl (n : Nat)
  | row (n t : Nat)
  | own (t : Nat) (s : Sh)
  | agg (s : Sh)
  | fn (f k : Nat) (s : Sh)
  | alt (a b : Sh)
  | lit (l : List UInt8)
  | pt (n : Nat)
  | gen (n : Nat)
  | nil
  | cons (h r : Sh)
def Sh.isNil : Sh → Bool
  | .nil => true
  | _ => false
theorem isNil_eq : ∀ {r : Sh}, r.isNil = true → r = .nil
  | .nil, _ => rfl
def Sh.ty (T : Nat → Type) : Sh → Type
  | .i64 => Int
  | .u8 => UInt8
  | .u32 => UInt32
  | .u64 => UInt64
  | .bool => Bool
  | .str => List UInt8
  | .nilp => Unit
  | .sl n => List (T n)
  | .row n _ => List (T n)
  | .own _ s => s.ty T
  | .agg s => s.ty T
  | .fn _ _ s => s.ty T
  | .alt a b => a.ty T ⊕ b.ty T
  | .lit _ => Unit
  | .pt n => T n
  | .gen n => T n
  | .nil => Unit
  | .cons h r => cond r.isNil (h.ty T) (h.ty T × r.ty T)

def castL {T : Nat → Type} (n n' : Nat) (l : List (T n')) : Option (List (T n)) := match Nat.decEq n' n with
  | isTrue h => some (h ▸ l)
  | isFalse _ => none
theorem castL_some {T : Nat → Type} {n n' : Nat} {l : List (T n')} {x : List (T n)} (h : castL n n' l = some x) : ∃ e : n' = n, x = e ▸ l := by
  unfold castL at h
  split at h
  · rename_i e _; cases h; exact ⟨e, rfl⟩
  · cases h
section
variable (tb : Tab)
/-- Cells as elements. -/
def imL (n sz : Nat) : Nat → List (AV tb.T) → Option (List (tb.T n))
  | 0, cs => match cs with
    | [] => some []
    | _ => none
  | k + 1, cs => match tb.im n (cs.take sz) with
    | some x => match imL n sz k (cs.drop sz) with
      | some r => some (x :: r)
      | none => none
    | none => none

def pkC {A B X : Type} (i : Bool) (f : Option (A × X)) (e : Bool) (g : X → Option (B × X)) : Option (cond i A (A × B) × X) := match f with
  | none => none
  | some (x, σ) => match i with
    | true => cond e (some (x, σ)) none
    | false => match g σ with
      | none => none
      | some (y, σ') => some ((x, y), σ')

def pkOwn {X : Type} (t : Nat) (as : List (AV tb.T)) (σ : Sg tb.T) (g : List (AV tb.T) → Sg tb.T → Option X) : Option X := match as with
  | [.ptr id off] => cond (Nat.beq off 0) (match lk σ id with
    | some (_, .blk t' c) => cond (Nat.beq t' t) (g c (del σ id)) none
    | _ => none) none
  | _ => none
def pkAgg {X : Type} (as : List (AV tb.T)) (g : List (AV tb.T) → Option X) : Option X := match as with
  | [.agg c] => g c
  | _ => none
def pkFn {X : Type} (f k : Nat) (as : List (AV tb.T)) (g : List (AV tb.T) → Option X) : Option X := match as with
  | [.fn f' l c] => cond (Nat.beq f' f && Nat.beq l.length k) (g (l ++ c)) none
  | _ => none
def pkCons {A B : Type} (i : Bool) (as : List (AV tb.T)) (σ : Sg tb.T) (f : List (AV tb.T) → Sg tb.T → Option (A × Sg tb.T)) (g : List (AV tb.T) → Sg tb.T → Option (B × Sg tb.T)) : Option (cond i A (A × B) × Sg tb.T) := match as with
  | [] => none
  | a :: as => pkC i (f [a] σ) as.isEmpty (fun σ => g as σ)

theorem pkOwn_some {X : Type} {t : Nat} {as : List (AV tb.T)} {σ : Sg tb.T} {g : List (AV tb.T) → Sg tb.T → Option X} {y : X} (h : pkOwn tb t as σ g = some y) : ∃ id st c, as = [.ptr id 0] ∧ lk σ id = some (st, .blk t c) ∧ g c (del σ id) = some y := by
  unfold pkOwn at h
  split at h
  · rename_i id off
    cases ho : Nat.beq off 0 with
    | false => rw [ho] at h; cases h
    | true =>
      have := beq_t ho
      subst this
      rw [ho] at h
      simp only [cond_true] at h
      split at h
      · rename_i st t' c hl
        cases hb : Nat.beq t' t with
        | false => rw [hb] at h; cases h
        | true =>
          have := beq_t hb
          subst this
          rw [hb] at h
          exact ⟨id, st, c, rfl, hl, h⟩
      · cases h
  · cases h
theorem pkAgg_some {X : Type} {as : List (AV tb.T)} {g : List (AV tb.T) → Option X} {y : X} (h : pkAgg tb as g = some y) : ∃ c, as = [.agg c] ∧ g c = some y := by
  unfold pkAgg at h
  split at h
  · exact ⟨_, rfl, h⟩
  · cases h
theorem pkFn_some {X : Type} {f k : Nat} {as : List (AV tb.T)} {g : List (AV tb.T) → Option X} {y : X} (h : pkFn tb f k as g = some y) : ∃ l c, as = [.fn f l c] ∧ l.length = k ∧ g (l ++ c) = some y := by
  unfold pkFn at h
  split at h
  · rename_i f' l c
    cases hb : (Nat.beq f' f && Nat.beq l.length k) with
    | false => rw [hb] at h; cases h
    | true =>
      have hb2 := hb
      rw [Bool.and_eq_true] at hb2
      have := beq_t hb2.1
      subst this
      rw [hb] at h
      exact ⟨l, c, rfl, beq_t hb2.2, h⟩
  · cases h
theorem pkCons_some {A B : Type} {i : Bool} {as : List (AV tb.T)} {σ : Sg tb.T} {f : List (AV tb.T) → Sg tb.T → Option (A × Sg tb.T)} {g : List (AV tb.T) → Sg tb.T → Option (B × Sg tb.T)} {y : cond i A (A × B) × Sg tb.T} (h : pkCons tb i as σ f g = some y) :
    ∃ a r, as = a :: r ∧ pkC i (f [a] σ) r.isEmpty (fun σ => g r σ) = some y := by
  unfold pkCons at h
  split at h
  · cases h
  · exact ⟨_, _, rfl, h⟩

/-- One, or the other. -/
def pkAlt {A B X : Type} (f : Option (A × X)) (g : Unit → Option (B × X)) : Option ((A ⊕ B) × X) := match f with
  | some (x, σ) => some (.inl x, σ)
  | none => match g () with
    | some (x, σ) => some (.inr x, σ)
    | none => none
theorem pkAlt_some {A B X : Type} {f : Option (A × X)} {g : Unit → Option (B × X)} {y : (A ⊕ B) × X} (h : pkAlt f g = some y) : (∃ x, f = some (x, y.2) ∧ y.1 = .inl x) ∨ ∃ x, g () = some (x, y.2) ∧ y.1 = .inr x := by
  unfold pkAlt at h
  split at h
  · cases h; exact .inl ⟨_, rfl, rfl⟩
  · split at h
    · rename_i e; cases h; exact .inr ⟨_, e, rfl⟩
    · cases h
def pkPt (n : Nat) (as : List (AV tb.T)) (σ : Sg tb.T) : Option (tb.T n × Sg tb.T) := match as with
  | [.cells off l] => cond (Nat.beq off 0) (match tb.im n l with
    | some x => some (x, σ)
    | none => none) none
  | _ => none
theorem pkPt_some {n : Nat} {as : List (AV tb.T)} {σ : Sg tb.T} {y : tb.T n × Sg tb.T} (h : pkPt tb n as σ = some y) : ∃ l, as = [.cells 0 l] ∧ tb.im n l = some y.1 ∧ y.2 = σ := by
  unfold pkPt at h
  split at h
  · rename_i off l
    cases hb : Nat.beq off 0 with
    | false => rw [hb] at h; cases h
    | true =>
      have := beq_t hb
      subst this
      rw [hb] at h
      simp only [cond_true] at h
      split at h
      · rename_i e; cases h; exact ⟨l, rfl, e, rfl⟩
      · cases h
  · cases h
def castE {T : Nat → Type} (n n' : Nat) (x : T n') : Option (T n) := match Nat.decEq n' n with
  | isTrue h => some (h ▸ x)
  | isFalse _ => none
theorem castE_some {T : Nat → Type} {n n' : Nat} {y : T n'} {x : T n} (h : castE n n' y = some x) : ∃ e : n' = n, x = e ▸ y := by
  unfold castE at h
  split at h
  · rename_i e _; cases h; exact ⟨e, rfl⟩
  · cases h
def pkGen (n : Nat) (as : List (AV tb.T)) (σ : Sg tb.T) : Option (tb.T n × Sg tb.T) := match as with
  | [.row id] => match lk σ id with
    | some (_, .gen n' x j) => cond (Nat.beq j id) (match castE n n' x with
      | some x => some (x, del σ id)
      | none => none) none
    | _ => none
  | [.nils] => match tb.dp n with
    | some d => some (d.of [], σ)
    | none => none
  | _ => none
theorem pkGen_some {n : Nat} {as : List (AV tb.T)} {σ : Sg tb.T} {y : tb.T n × Sg tb.T} (h : pkGen tb n as σ = some y) : (∃ id st, as = [.row id] ∧ lk σ id = some (st, .gen n y.1 id) ∧ y.2 = del σ id) ∨ ∃ d, as = [.nils] ∧ tb.dp n = some d ∧ y.1 = d.of [] ∧ y.2 = σ := by
  unfold pkGen at h
  split at h
  · rename_i id
    split at h
    · rename_i st n' x j hl
      cases hb : Nat.beq j id with
      | false => rw [hb] at h; cases h
      | true =>
        have := beq_t hb
        subst this
        rw [hb] at h
        simp only [cond_true] at h
        split at h
        · rename_i x' hx
          obtain ⟨e, rfl⟩ := castE_some hx
          subst e
          cases h
          exact .inl ⟨j, st, rfl, hl, rfl⟩
        · cases h
    · cases h
  · split at h
    · rename_i d hd; cases h; exact .inr ⟨d, rfl, hd, rfl, rfl⟩
    · cases h
  · cases h
def pk : (sh : Sh) → List (AV tb.T) → Sg tb.T → Option (sh.ty tb.T × Sg tb.T)
  | .i64, as, σ => match as with | [.i64 x] => some (x, σ) | _ => none
  | .u8, as, σ => match as with | [.u8 x] => some (x, σ) | _ => none
  | .u32, as, σ => match as with | [.u32 x] => some (x, σ) | _ => none
  | .u64, as, σ => match as with | [.u64 x] => some (x, σ) | _ => none
  | .bool, as, σ => match as with | [.bool x] => some (x, σ) | _ => none
  | .str, as, σ => match as with | [.str x] => some (x, σ) | _ => none
  | .nilp, as, σ => match as with | [.nilp] => some ((), σ) | _ => none
  | .sl n, as, σ => match as with
    | [.sl n' l] => match castL n n' l with | some x => some (x, σ) | none => none
    | [.nils] => some ([], σ)
    | _ => none
  | .row n t, as, σ => match as with
    | [.row id] => match lk σ id with
      | some (_, .row n' t' l) => cond (Nat.beq t' t) (match castL n n' l with | some x => some (x, del σ id) | none => none) none
      | some (_, .lit t' k c) => cond (Nat.beq t' t && Nat.ble k 137438953472) (match imL tb n (tb.rep n).sz k c with | some x => some (x, del σ id) | none => none) none
      | _ => none
    | [.nils] => some ([], σ)
    | _ => none
  | .own t s, as, σ => pkOwn tb t as σ (pk s)
  | .agg s, as, σ => pkAgg tb as (fun c => pk s c σ)
  | .fn f k s, as, σ => pkFn tb f k as (fun c => pk s c σ)
  | .alt a b, as, σ => pkAlt (pk a as σ) (fun _ => pk b as σ)
  | .lit l, as, σ => match as with | [.str x] => cond (x == l) (some ((), σ)) none | _ => none
  | .pt n, as, σ => pkPt tb n as σ
  | .gen n, as, σ => pkGen tb n as σ
  | .nil, as, σ => match as with | [] => some ((), σ) | _ => none
  | .cons h r, as, σ => pkCons tb r.isNil as σ (pk h) (pk r)

abbrev Up (T : Nat → Type) := List (AV T) × Sg T × Nat
def upC {A B : Type} {T : Nat → Type} (i : Bool) (f : A → Nat → Up T) (g : B → Nat → Up T) (x : cond i A (A × B)) (c : Nat) : Up T := match i, x with
  | true, x => f x c
  | false, (x, y) => match f x c with
    | (as, σ, c) => match g y c with
      | (bs, σ', c) => (as ++ bs, σ ++ σ', c)

/-- st: the stamp of what is new; c: the next number. -/
def up (st : Nat) : (sh : Sh) → sh.ty tb.T → Nat → Up tb.T
  | .i64, x, c => ([.i64 x], [], c)
  | .u8, x, c => ([.u8 x], [], c)
  | .u32, x, c => ([.u32 x], [], c)
  | .u64, x, c => ([.u64 x], [], c)
  | .bool, x, c => ([.bool x], [], c)
  | .str, x, c => ([.str x], [], c)
  | .nilp, _, c => ([.nilp], [], c)
  | .sl n, x, c => ([.sl n x], [], c)
  | .row n t, x, c => ([.row c], [(c, st, .row n t x)], c + 1)
  | .own t s, x, c => match up st s x (c + 1) with
    | (as, σ, c') => ([.ptr c 0], (c, st, .blk t as) :: σ, c')
  | .agg s, x, c => match up st s x c with
    | (as, σ, c') => ([.agg as], σ, c')
  | .fn f k s, x, c => match up st s x c with
    | (as, σ, c') => ([.fn f (as.take k) (as.drop k)], σ, c')
  | .alt a b, x, c => match x with
    | .inl y => up st a y c
    | .inr y => up st b y c
  | .lit l, _, c => ([.str l], [], c)
  | .pt n, x, c => ([.cells 0 (tb.ex n x)], [], c)
  | .gen n, x, c => ([.row c], [(c, st, .gen n x c)], c + 1)
  | .nil, _, c => ([], [], c)
  | .cons h r, x, c => upC r.isNil (up st h) (up st r) x c
end

/-- What a table's kinds must keep. -/
structure KindOk (tb : Tab) : Prop where
  dgi : ∀ {k : Nat} {d : DP tb.T tb.rep k}, tb.dp k = some d → (∀ x v u, tb.gi k x v u = deepI d.D d.tk d.t (d.to x) v) ∧ (∀ x v u, tb.gi d.hk x v u = holeI d.D d.tk d.t (d.toh x) v u) ∧ (∀ l, d.to (d.of l) = l) ∧ ∀ q, d.toh (d.ofh q) = q
  mgi : ∀ {k : Nat} {d : MP tb.T tb.rep k}, tb.mp k = some d → (∀ x v u, tb.gi k x v u = @mapG d.α (tb.T d.n) d.b d.K d.wf (tb.rep d.n) d.g (d.to x) v) ∧ (∀ l, d.to (d.of l) = l) ∧ (∀ (η : List Value) (m : Mem) (a : AV tb.T) (x : d.α) (v : Value), d.va a = some x → R tb η m a v → v = d.K.fk x ∧ d.wf x) ∧
    (∀ (η : List Value) (m : Mem) (x : d.α), d.wf x → R tb η m (d.av x) (d.K.fk x)) ∧ ∀ td, d.ktd td = true → td = d.K.td
/-- What a table must keep. -/
structure TabOk (tb : Tab) : Prop where
  im : ∀ {n : Nat} {as : List (AV tb.T)} {x : tb.T n} {η : List Value} {m : Mem} {vs : List Value}, tb.im n as = some x → RL tb η m as vs → (tb.rep n).im m vs x
  ex : ∀ {n : Nat} {x : tb.T n} {η : List Value} {m : Mem} {vs : List Value}, (tb.rep n).im m vs x → RL tb η m (tb.ex n x) vs
  fl : ∀ {n : Nat} {x : tb.T n} {η η' : List Value} {m : Mem} {vs : List Value}, RL tb η m (tb.ex n x) vs → RL tb η' m (tb.ex n x) vs
  tou8 : ∀ {n : Nat} {l : List (tb.T n)} {x : List UInt8}, tb.tou8 n l = some x → ∀ M : (α : Type) → Rep α → List α → Prop, M (tb.T n) (tb.rep n) l → M UInt8 rU8 x
  ofu8 : ∀ {x : List UInt8} (M : (α : Type) → Rep α → List α → Prop), M UInt8 rU8 x → M (tb.T tb.u8c) (tb.rep tb.u8c) (tb.ofu8 x)
  kd : KindOk tb

/-- Tables that are laid. -/
def Glob (tb : Tab) (m : Mem) : Prop := ∀ {g n : Nat} {l : List (tb.T n)}, tb.gl g = some ⟨n, l⟩ → ∃ t fr xs, m g = some (.cells (xs : List Value).toArray t fr) ∧ Rows (tb.rep n) m xs l
theorem Glob.mono {tb : Tab} {m m' : Mem} (h : Glob tb m) (hs : Sub m m') : Glob tb m' := fun e => let ⟨t, fr, xs, h1, h2⟩ := h e; ⟨t, fr, xs, hs _ _ h1, h2.mono hs⟩
section
variable {tb : Tab} (ok : TabOk tb)
include ok
theorem imL_ok {n : Nat} {η : List Value} {m : Mem} : ∀ {k : Nat} {cs : List (AV tb.T)} {x : List (tb.T n)} {vs : List Value}, imL tb n (tb.rep n).sz k cs = some x → RL tb η m cs vs → Rows (tb.rep n) m vs x ∧ x.length = k
  | 0, cs, x, vs, h, hr => by
    simp only [imL] at h
    split at h
    · cases h; rw [show vs = [] from hr]; exact ⟨rfl, rfl⟩
    · cases h
  | k + 1, cs, x, vs, h, hr => by
    simp only [imL] at h
    cases h1 : tb.im n (cs.take (tb.rep n).sz) with
    | none => rw [h1] at h; cases h
    | some y =>
      rw [h1] at h
      simp only at h
      cases h2 : imL tb n (tb.rep n).sz k (cs.drop (tb.rep n).sz) with
      | none => rw [h2] at h; cases h
      | some r =>
        rw [h2] at h
        cases h
        obtain ⟨h3, h4⟩ := imL_ok h2 (hr.drop _)
        refine ⟨⟨vs.take (tb.rep n).sz, vs.drop (tb.rep n).sz, (List.take_append_drop _ _).symm, ok.im h1 (hr.take _), h3⟩, by rw [List.length_cons, h4]⟩
end

/-- What packing leaves, told of the unpacked. -/
def PkPost (tb : Tab) (η : List Value) (m : Mem) (w : World) (vs : List Value) (σ' : Sg tb.T) (F : Nat → Prop) (η0 : List Value) (u : Up tb.T) : Prop :=
  ∃ η1, u.2.2 = (η0 ++ η1).length ∧ RL tb (η0 ++ η1) m u.1 vs ∧ ∃ F1 F2, Sep m w (its tb (η0 ++ η1) u.2.1) F1 ∧ Sep m w (its tb η σ') F2 ∧ (∀ k, F1 k → F2 k → False) ∧ ∀ k, F1 k ∨ F2 k → F k
theorem PkPost.pure {tb : Tab} {η : List Value} {m : Mem} {w : World} {σ : Sg tb.T} {F : Nat → Prop} {η0 : List Value} {as : List (AV tb.T)} {vs : List Value} (h : RL tb η0 m as vs) (hs : Sep m w (its tb η σ) F) : PkPost tb η m w vs σ F η0 (as, [], η0.length) :=
  ⟨[], by simp, by simpa using h, fun _ => False, F, fun _ e => e, hs, fun _ e => e.elim, fun k e => e.elim False.elim id⟩
/-- One new item. -/
theorem PkPost.item {tb : Tab} {η : List Value} {m : Mem} {w : World} {σ' : Sg tb.T} {F F1 F2 : Nat → Prop} {η0 : List Value} {a : AV tb.T} {v u : Value} {x : DI tb.T} {st : Nat} (h : R tb (η0 ++ [u]) m a v) (hx : (x.item tb (η0 ++ [u]) η0.length).P m w F1)
    (hs : Sep m w (its tb η σ') F2) (hd : ∀ k, F1 k → F2 k → False) (hF : ∀ k, F1 k ∨ F2 k → F k) : PkPost tb η m w [v] σ' F η0 ([a], [(η0.length, st, x)], η0.length + 1) :=
  ⟨[u], by simp, RL.mk1 h, F1, F2, Sep.one hx, hs, hd, hF⟩
theorem app_at (η0 : List Value) (u : Value) (r : List Value) : (η0 ++ u :: r)[η0.length]? = some u := by
  rw [List.getElem?_append_right (Nat.le_refl _), Nat.sub_self]; rfl
theorem castL_cases {tb : Tab} {n n' : Nat} {l : List (tb.T n')} {x : List (tb.T n)} (h : castL n n' l = some x) {M : (k : Nat) → List (tb.T k) → Prop} (hm : M n' l) : M n x := by
  obtain ⟨e, rfl⟩ := castL_some h
  subst e
  exact hm
theorem sep_assoc {m : Mem} {w : World} {a b : List Item} {F Fa Fr Fb Fc : Nat → Prop} (ha : Sep m w a Fa) (hb : Sep m w b Fb) (d1 : ∀ k, Fa k → Fr k → False) (e1 : ∀ k, Fa k ∨ Fr k → F k) (d2 : ∀ k, Fb k → Fc k → False) (e2 : ∀ k, Fb k ∨ Fc k → Fr k) :
    Sep m w (a ++ b) (fun k => Fa k ∨ Fb k) ∧ (∀ k, (Fa k ∨ Fb k) → Fc k → False) ∧ ∀ k, (Fa k ∨ Fb k) ∨ Fc k → F k :=
  ⟨Sep.app.2 ⟨Fa, Fb, ha, hb, fun k p q => d1 k p (e2 k (.inl q)), fun k => Iff.rfl⟩, fun k p q => p.elim (fun p => d1 k p (e2 k (.inr q))) (fun p => d2 k p q),
    fun k e => e1 k (e.elim (fun e => e.elim .inl (fun e => .inr (e2 k (.inl e)))) (fun e => .inr (e2 k (.inr e))))⟩
/-- What is asked of a shape. -/
def PkOk (tb : Tab) (st : Nat) (sh : Sh) : Prop := ∀ {as : List (AV tb.T)} {σ σ' : Sg tb.T} {x : sh.ty tb.T}, pk tb sh as σ = some (x, σ') → ∀ {η : List Value} {m : Mem} {vs : List Value} {w : World} {F : Nat → Prop},
    RL tb η m as vs → Sep m w (its tb η σ) F → ∀ η0 : List Value, PkPost tb η m w vs σ' F η0 (up tb st sh x η0.length)
theorem pk_i64 {tb : Tab} (ok : TabOk tb) (st : Nat)  : PkOk tb st .i64 := by
  intro as σ σ' x h η m vs w F hr hs η0
  unfold pk at h; split at h <;> cases h; obtain ⟨v, rfl, hv⟩ := hr.one; exact PkPost.pure (RL.mk1 hv) hs
theorem pk_u8 {tb : Tab} (ok : TabOk tb) (st : Nat)  : PkOk tb st .u8 := by
  intro as σ σ' x h η m vs w F hr hs η0
  unfold pk at h; split at h <;> cases h; obtain ⟨v, rfl, hv⟩ := hr.one; exact PkPost.pure (RL.mk1 hv) hs
theorem pk_u32 {tb : Tab} (ok : TabOk tb) (st : Nat)  : PkOk tb st .u32 := by
  intro as σ σ' x h η m vs w F hr hs η0
  unfold pk at h; split at h <;> cases h; obtain ⟨v, rfl, hv⟩ := hr.one; exact PkPost.pure (RL.mk1 hv) hs
theorem pk_u64 {tb : Tab} (ok : TabOk tb) (st : Nat)  : PkOk tb st .u64 := by
  intro as σ σ' x h η m vs w F hr hs η0
  unfold pk at h; split at h <;> cases h; obtain ⟨v, rfl, hv⟩ := hr.one; exact PkPost.pure (RL.mk1 hv) hs
theorem pk_bool {tb : Tab} (ok : TabOk tb) (st : Nat)  : PkOk tb st .bool := by
  intro as σ σ' x h η m vs w F hr hs η0
  unfold pk at h; split at h <;> cases h; obtain ⟨v, rfl, hv⟩ := hr.one; exact PkPost.pure (RL.mk1 hv) hs
theorem pk_str {tb : Tab} (ok : TabOk tb) (st : Nat)  : PkOk tb st .str := by
  intro as σ σ' x h η m vs w F hr hs η0
  unfold pk at h; split at h <;> cases h; obtain ⟨v, rfl, hv⟩ := hr.one; exact PkPost.pure (RL.mk1 hv) hs
theorem pk_lit {tb : Tab} (ok : TabOk tb) (st : Nat) (l : List UInt8) : PkOk tb st (.lit l) := by
  intro as σ σ' x h η m vs w F hr hs η0
  unfold pk at h; split at h
  · rename_i y
    cases hb : (y == l) with
    | false => rw [hb] at h; cases h
    | true =>
      rw [hb] at h
      cases h
      obtain ⟨v, rfl, hv⟩ := hr.one
      have := beq_iff_eq.1 hb
      subst this
      exact PkPost.pure (RL.mk1 hv) hs
  · cases h
theorem pk_pt {tb : Tab} (ok : TabOk tb) (st : Nat) (n : Nat) : PkOk tb st (.pt n) := by
  intro as σ σ' x h η m vs w F hr hs η0
  obtain ⟨l, rfl, hy, h2⟩ := pkPt_some tb (show pkPt tb n as σ = some (x, σ') from h)
  have h2 : σ' = σ := h2
  subst h2
  obtain ⟨v, rfl, A, cs, e1, e2, e3⟩ := hr.one
  exact PkPost.pure (RL.mk1 (a := .cells 0 (tb.ex n x)) ⟨A, cs, e1, e2, ok.ex (ok.im hy e3)⟩) hs
theorem pk_gen {tb : Tab} (ok : TabOk tb) (st : Nat) (n : Nat) : PkOk tb st (.gen n) := by
  intro as σ σ' x h η m vs w F hr hs η0
  rcases pkGen_some tb (show pkGen tb n as σ = some (x, σ') from h) with ⟨id, st', rfl, hl, h2⟩ | ⟨d, rfl, hd, h1, h2⟩
  rotate_left
  · have h1 : x = d.of [] := h1
    have h2 : σ' = σ := h2
    subst h1 h2
    obtain ⟨v, rfl, hv⟩ := hr.one
    have hv : v = .slice none 0 0 := hv
    subst hv
    refine PkPost.item (F1 := fun _ => False) (u := .slice none 0 0) ⟨app_at _ _ _, rfl⟩ ⟨_, _, ⟨app_at _ _ _, app_at _ _ _⟩, rfl, ?_⟩ hs (fun _ e => e.elim) (fun k e => e.elim False.elim id)
    rw [(ok.kd.dgi hd).1, (ok.kd.dgi hd).2.2.1]
    exact deepI_nil _ _ _
  have h2 : σ' = del σ id := h2
  subst h2
  obtain ⟨v, rfl, hv⟩ := hr.one
  obtain ⟨F1, F2, ⟨v', u, ⟨h1, h1'⟩, h2, h3⟩, h4, h5, h6⟩ := Sep_lk hl hs
  rw [h1] at h1'
  cases h1'
  rw [hv.1] at h1
  cases h1
  exact PkPost.item (u := v) ⟨app_at _ _ _, h2⟩ ⟨v, v, ⟨app_at _ _ _, app_at _ _ _⟩, h2, h3⟩ h4 h5 h6
theorem pk_nilp {tb : Tab} (ok : TabOk tb) (st : Nat)  : PkOk tb st .nilp := by
  intro as σ σ' x h η m vs w F hr hs η0
  unfold pk at h; split at h <;> cases h; obtain ⟨v, rfl, hv⟩ := hr.one; exact PkPost.pure (RL.mk1 hv) hs
theorem pk_sl {tb : Tab} (ok : TabOk tb) (st : Nat) (n : Nat) : PkOk tb st (.sl n) := by
  intro as σ σ' x h η m vs w F hr hs η0
  unfold pk at h
  split at h
  · rename_i n' l
    cases hc : castL n n' l with
    | none => rw [hc] at h; cases h
    | some y =>
      rw [hc] at h
      cases h
      obtain ⟨v, rfl, hv⟩ := hr.one
      exact PkPost.pure (RL.mk1 (castL_cases hc (M := fun k l => R tb η0 m (.sl k l) v) hv)) hs
  · cases h
    obtain ⟨v, rfl, hv⟩ := hr.one
    exact PkPost.pure (RL.mk1 ⟨none, 0, hv, SlI.nil _ _⟩) hs
  · cases h
theorem pk_row {tb : Tab} (ok : TabOk tb) (st : Nat) (n : Nat) (t : Nat) : PkOk tb st (.row n t) := by
  intro as σ σ' x h η m vs w F hr hs η0
  unfold pk at h
  split at h
  · rename_i id
    obtain ⟨v, rfl, hv⟩ := hr.one
    cases hl : lk σ id with
    | none => rw [hl] at h; cases h
    | some p =>
      obtain ⟨st', y⟩ := p
      rw [hl] at h
      cases y with
      | blk => cases h
      | kep => cases h
      | gen => cases h
      | row n' t' l =>
        simp only at h
        cases hb : Nat.beq t' t with
        | false => rw [hb] at h; cases h
        | true =>
          have := beq_t hb
          subst this
          rw [hb] at h
          simp only [cond_true] at h
          cases hc : castL n n' l with
          | none => rw [hc] at h; cases h
          | some z =>
            rw [hc] at h
            obtain ⟨hx, h'⟩ := Prod.mk.inj (Option.some.inj h)
            subst h'
            have hx : z = x := hx
            subst hx
            obtain ⟨F1, F2, ⟨A, c, h1, h2⟩, h3, h4, h5⟩ := Sep_lk hl hs
            have e : v = .slice A l.length c := by rw [hv.1] at h1; exact Option.some.inj h1
            subst e
            have h6 : ∃ k : (Option Addr), ∃ c' : Nat, Value.slice A l.length c = .slice A z.length c ∧ (rowI (tb.rep n) t' A c z).P m w F1 := castL_cases hc (M := fun k z => ∃ _ : (Option Addr), ∃ _ : Nat, Value.slice A l.length c = .slice A z.length c ∧ (rowI (tb.rep k) t' A c z).P m w F1) ⟨none, 0, rfl, h2⟩
            obtain ⟨_, _, h7, h8⟩ := h6
            refine PkPost.item (u := .slice A z.length c) ⟨by rw [h7]; exact app_at _ _ _, rfl⟩ ⟨A, c, app_at _ _ _, h8⟩ h3 h4 h5
      | lit t' k c =>
        simp only at h
        cases hb : (Nat.beq t' t && Nat.ble k 137438953472) with
        | false => rw [hb] at h; cases h
        | true =>
          rw [Bool.and_eq_true] at hb
          have := beq_t hb.1
          subst this
          have hk := Nat.le_of_ble_eq_true hb.2
          rw [hb.1, hb.2] at h
          simp only [Bool.and_true, cond_true] at h
          cases hc : imL tb n (tb.rep n).sz k c with
          | none => rw [hc] at h; cases h
          | some z =>
            rw [hc] at h
            obtain ⟨hx, h'⟩ := Prod.mk.inj (Option.some.inj h)
            subst h'
            have hx : z = x := hx
            subst hx
            obtain ⟨F1, F2, ⟨g, cs, h1, h2, h2'⟩, h3, h4, h5⟩ := Sep_lk hl hs
            have e : v = .slice (some ⟨g, 0, none⟩) k k := by rw [hv.1] at h1; exact Option.some.inj h1
            subst e
            obtain ⟨h6, h7⟩ := imL_ok ok hc h2
            subst h7
            have hml : z.length ≤ maxLen := Nat.le_trans hk (by decide)
            have hown := own_of_blk (base := 0) (n := z.length) (sz := (tb.rep n).sz) h2'.1 (Nat.zero_le _) hml (by simpa using h6.len)
            refine PkPost.item (F1 := F1) (u := .slice (some ⟨g, 0, none⟩) z.length z.length) ⟨app_at _ _ _, rfl⟩ ⟨_, _, app_at _ _ _, ⟨cs, h6, by simpa using hown⟩, fun j => ?_⟩ h3 h4 h5
            rw [h2'.2 j]
            exact ⟨fun e => by subst e; rfl, fun e => by cases e; rfl⟩
  · cases h
    obtain ⟨v, rfl, hv⟩ := hr.one
    have hv : v = .slice none 0 0 := hv
    subst hv
    exact PkPost.item (F1 := fun _ => False) (u := .slice none 0 0) ⟨app_at _ _ _, rfl⟩ ⟨none, 0, app_at _ _ _, ⟨[], rfl, World.ownsRow_nil _ _ _ _⟩, fun k => ⟨False.elim, fun e => by cases e⟩⟩ hs (fun _ e => e.elim) (fun k e => e.elim False.elim id)
  · cases h
theorem pk_own {tb : Tab} (ok : TabOk tb) (st : Nat) (t : Nat) (s : Sh) (ih : PkOk tb st s) : PkOk tb st (.own t s) := by
  intro as σ σ' x h η m vs w F hr hs η0
  obtain ⟨id, st', c, rfl, hl, h⟩ := pkOwn_some tb (show pkOwn tb t as σ (pk tb s) = some (x, σ') from h)
  obtain ⟨v, rfl, hv⟩ := hr.one
  obtain ⟨F1, F2, ⟨g, cs, h1, h2, h2'⟩, h3, h4, h5⟩ := Sep_lk hl hs
  obtain ⟨g', k1, rfl⟩ := hv
  rw [h1] at k1
  cases k1
  have hp := ih h h2 h3 (η0 ++ [.pointer (some ⟨g, 0, none⟩)])
  rw [List.length_append, List.length_singleton] at hp
  unfold up
  generalize up tb st s x (η0.length + 1) = u at hp ⊢
  obtain ⟨as', σ1, c'⟩ := u
  obtain ⟨η1, h6, h7, G1, G2, h8, h9, h10, h11⟩ := hp
  simp only at h6 h7 h8
  have e : η0 ++ [Value.pointer (some ⟨g, 0, none⟩)] ++ η1 = η0 ++ (.pointer (some ⟨g, 0, none⟩) :: η1) := by simp
  rw [e] at h6 h7 h8
  refine ⟨.pointer (some ⟨g, 0, none⟩) :: η1, h6, RL.mk1 ⟨g, app_at _ _ _, rfl⟩, fun k => F1 k ∨ G1 k, G2, ?_, h9, ?_, ?_⟩
  · exact ⟨F1, G1, ⟨g, cs, app_at _ _ _, h7, h2'⟩, h8, fun k a b => h4 k a (h11 k (.inl b)), fun k => Iff.rfl⟩
  · intro k a b
    exact a.elim (fun a => h4 k a (h11 k (.inr b))) (fun a => h10 k a b)
  · exact fun k e => h5 k (e.elim (fun e => e.elim .inl (fun e => .inr (h11 k (.inl e)))) (fun e => .inr (h11 k (.inr e))))
theorem pk_agg {tb : Tab} (ok : TabOk tb) (st : Nat) (s : Sh) (ih : PkOk tb st s) : PkOk tb st (.agg s) := by
  intro as σ σ' x h η m vs w F hr hs η0
  obtain ⟨c, rfl, h⟩ := pkAgg_some tb (show pkAgg tb as (fun c => pk tb s c σ) = some (x, σ') from h)
  obtain ⟨v, rfl, cs, rfl, hv⟩ := hr.one
  have hp := ih h hv hs η0
  unfold up
  generalize up tb st s x η0.length = u at hp ⊢
  obtain ⟨as', σ1, c'⟩ := u
  obtain ⟨η1, h6, h7, h8⟩ := hp
  exact ⟨η1, h6, RL.mk1 ⟨cs, rfl, h7⟩, h8⟩
theorem pk_fn {tb : Tab} (ok : TabOk tb) (st : Nat) (f : Nat) (k : Nat) (s : Sh) (ih : PkOk tb st s) : PkOk tb st (.fn f k s) := by
  intro as σ σ' x h η m vs w F hr hs η0
  obtain ⟨l, c, rfl, hk, h⟩ := pkFn_some tb (show pkFn tb f k as (fun c => pk tb s c σ) = some (x, σ') from h)
  obtain ⟨v, rfl, xs, ys, rfl, hx, hy⟩ := hr.one
  have hp := ih h (hx.app hy) hs η0
  unfold up
  generalize up tb st s x η0.length = u at hp ⊢
  obtain ⟨as', σ1, c'⟩ := u
  obtain ⟨η1, h6, h7, h8⟩ := hp
  refine ⟨η1, h6, RL.mk1 ⟨xs, ys, rfl, ?_, ?_⟩, h8⟩
  · have := h7.take k
    rwa [List.take_left' (by rw [hx.len]; exact hk)] at this
  · have := h7.drop k
    rwa [List.drop_left' (by rw [hx.len]; exact hk)] at this
theorem pk_alt {tb : Tab} (ok : TabOk tb) (st : Nat) (a b : Sh) (iha : PkOk tb st a) (ihb : PkOk tb st b) : PkOk tb st (.alt a b) := by
  intro as σ σ' x h η m vs w F hr hs η0
  rcases pkAlt_some (show pkAlt (pk tb a as σ) (fun _ => pk tb b as σ) = some (x, σ') from h) with ⟨y, h1, h2⟩ | ⟨y, h1, h2⟩
  · have h2 : x = .inl y := h2
    subst h2
    exact iha h1 hr hs η0
  · have h2 : x = .inr y := h2
    subst h2
    exact ihb h1 hr hs η0
theorem pk_nil {tb : Tab} (ok : TabOk tb) (st : Nat)  : PkOk tb st .nil := by
  intro as σ σ' x h η m vs w F hr hs η0
  unfold pk at h
  split at h
  · cases h; exact PkPost.pure hr hs
  · cases h
theorem pk_cons {tb : Tab} (ok : TabOk tb) (st : Nat) (hd : Sh) (r : Sh) (ih1 : PkOk tb st hd) (ih2 : PkOk tb st r) : PkOk tb st (.cons hd r) := by
  intro as σ σ' x h η m vs w F hr hs η0
  obtain ⟨a, as, rfl, hh⟩ := pkCons_some tb (show pkCons tb r.isNil as σ (pk tb hd) (pk tb r) = some (x, σ') from h)
  clear h
  have h := hh
  clear hh
  · obtain ⟨v, vs', rfl, hv, hvs⟩ := hr
    unfold pkC at h
    cases h1 : pk tb hd [a] σ with
    | none => rw [h1] at h; cases h
    | some p =>
      obtain ⟨y, σ1⟩ := p
      rw [h1] at h
      simp only at h
      have hp := ih1 h1 (RL.mk1 hv) hs η0
      unfold up
      simp only [Sh.ty] at x h
      generalize hi : r.isNil = i at x h ⊢
      cases i with
      | true =>
        simp only at h
        cases hb : as.isEmpty with
        | false => rw [hb] at h; cases h
        | true =>
          rw [hb] at h
          simp only [cond_true, Option.some.injEq, Prod.mk.injEq] at h
          obtain ⟨rfl, rfl⟩ := h
          have := List.isEmpty_iff.1 hb
          subst this
          have : vs' = [] := hvs
          subst this
          exact hp
      | false =>
        simp only at h
        cases h2 : pk tb r as σ1 with
        | none => rw [h2] at h; cases h
        | some p2 =>
          obtain ⟨z, σ2⟩ := p2
          rw [h2] at h
          simp only [Option.some.injEq, Prod.mk.injEq] at h
          obtain ⟨rfl, rfl⟩ := h
          simp only [upC]
          generalize up tb st hd y η0.length = u at hp ⊢
          obtain ⟨bs, τ, c1⟩ := u
          obtain ⟨η1, h6, h7, F1, F2, h8, h9, h10, h11⟩ := hp
          simp only at h6 h7 h8
          subst h6
          have hp2 := ih2 h2 hvs h9 (η0 ++ η1)
          simp only
          generalize up tb st r z (η0 ++ η1).length = u at hp2 ⊢
          obtain ⟨bs2, τ2, c2⟩ := u
          obtain ⟨η2, k6, k7, G1, G2, k8, k9, k10, k11⟩ := hp2
          simp only at k6 k7 k8
          have e : η0 ++ η1 ++ η2 = η0 ++ (η1 ++ η2) := List.append_assoc _ _ _
          have hle := Le.app (η0 ++ η1) η2
          obtain ⟨q1, q2, q3⟩ := sep_assoc (its_le hle τ h8) k8 h10 h11 k10 k11
          rw [e] at k6 k7 q1 hle
          refine ⟨η1 ++ η2, k6, ?_, fun k => F1 k ∨ G1 k, G2, ?_, k9, q2, q3⟩
          · have := (RL.mono hle (Sub.refl _) bs h7).app k7
            simpa using this
          · rw [its_app]
            exact q1
theorem pk_ok {tb : Tab} (ok : TabOk tb) (st : Nat) : ∀ sh : Sh, PkOk tb st sh
  | .i64 => pk_i64 ok st
  | .u8 => pk_u8 ok st
  | .u32 => pk_u32 ok st
  | .u64 => pk_u64 ok st
  | .bool => pk_bool ok st
  | .str => pk_str ok st
  | .nilp => pk_nilp ok st
  | .sl n => pk_sl ok st n
  | .row n t => pk_row ok st n t
  | .own t s => pk_own ok st t s (pk_ok ok st s)
  | .agg s => pk_agg ok st s (pk_ok ok st s)
  | .fn f k s => pk_fn ok st f k s (pk_ok ok st s)
  | .alt a b => pk_alt ok st a b (pk_ok ok st a) (pk_ok ok st b)
  | .lit l => pk_lit ok st l
  | .pt n => pk_pt ok st n
  | .gen n => pk_gen ok st n
  | .nil => pk_nil ok st
  | .cons hd r => pk_cons ok st hd r (pk_ok ok st hd) (pk_ok ok st r)
/-! ### All ways that a value may have -/
def altE {A B C : Type} (x : A ⊕ B) (f : A → C) (g : B → C) : C := match x with
  | .inl y => f y
  | .inr y => g y
def splC {A B C : Type} (i : Bool) (f : A → (A → C) → C) (g : B → (B → C) → C) (x : cond i A (A × B)) (k : cond i A (A × B) → C) : C := match i, x, k with
  | true, x, k => f x k
  | false, x, k => f x.1 fun a => g x.2 fun b => k (a, b)
/-- Told for each alternative. -/
def split {T : Nat → Type} {C : Type} : (sh : Sh) → sh.ty T → (sh.ty T → C) → C
  | .own _ s, x, k => split s x k
  | .agg s, x, k => split s x k
  | .fn _ _ s, x, k => split s x k
  | .alt a b, x, k => altE x (fun y => split a y fun y => k (.inl y)) (fun y => split b y fun y => k (.inr y))
  | .cons h r, x, k => splC r.isNil (split h) (split r) x k
  | _, x, k => k x
theorem split_eq {T : Nat → Type} {C : Type} : ∀ (sh : Sh) (x : sh.ty T) (k : sh.ty T → C), split sh x k = k x
  | .own _ s, x, k => split_eq s x k
  | .agg s, x, k => split_eq s x k
  | .fn _ _ s, x, k => split_eq s x k
  | .alt a b, x, k => match x with
    | .inl y => split_eq a y fun y => k (.inl y)
    | .inr y => split_eq b y fun y => k (.inr y)
  | .cons h r, x, k => by
    have h1 := fun x k => split_eq (T := T) (C := C) h x k
    have h2 := fun x k => split_eq (T := T) (C := C) r x k
    unfold split
    simp only [Sh.ty] at x k
    generalize hi : r.isNil = i at x k ⊢
    cases i with
    | true => exact h1 x k
    | false => show split h x.1 (fun a => split r x.2 fun b => k (a, b)) = _; rw [h1, h2]; rfl
  | .i64, _, _ => rfl
  | .u8, _, _ => rfl
  | .u32, _, _ => rfl
  | .u64, _, _ => rfl
  | .bool, _, _ => rfl
  | .str, _, _ => rfl
  | .nilp, _, _ => rfl
  | .lit _, _, _ => rfl
  | .pt _, _, _ => rfl
  | .gen _, _, _ => rfl
  | .sl _, _, _ => rfl
  | .row _ _, _, _ => rfl
  | .nil, _, _ => rfl
end Go.Proofs.YtbldeodchhfjfaaGreatDoor.K.E
