/- E, part 1: abstract values and memory; how they stand to the machine's; shapes, packing and unpacking. -/
import Derived.Test.YtbldeodchhfjfaaGreatDoorE0
set_option linter.unusedVariables false
set_option linter.unusedSimpArgs false
set_option linter.unusedSectionVars false
namespace Go.Proofs.YtbldeodchhfjfaaGreatDoor.K.E
open Go Go.RowKit

/-- A value as the walk knows it; T: the types of elements, by number. -/
inductive AV (T : Nat → Type) : Type where
  | i64 (x : Int)
  | u8 (x : UInt8)
  | u32 (x : UInt32)
  | u64 (x : UInt64)
  | bool (x : Bool)
  | str (l : List UInt8)
  | sl (n : Nat) (l : List (T n))
  | nils
  | nilp
  | row (id : Nat)
  | ptr (id off : Nat)
  | elt (id : Nat) (i : Int) (n off : Nat)
  | cells (off : Nat) (l : List (AV T))
  | glob (g : Nat)
  | agg (l : List (AV T))
  | tup (l : List (AV T))
  | fn (f : FuncId) (l c : List (AV T))
  | lit (v : Value)
  | any

/-- A kind of rows whose elements own a row (hk: with the row of one of them taken out). -/
structure DP (T : Nat → Type) (rep : ∀ n, Rep (T n)) (k : Nat) where
  n : Nat
  nk : Nat
  t : Nat
  tk : Nat
  off : Nat
  hk : Nat
  D : Deep (T n) (T nk) (rep n) (rep nk) off
  to : T k → List (T n)
  of : List (T n) → T k
  toh : T hk → List (T n) × Int × T n
  ofh : List (T n) × Int × T n → T hk
/-- A kind of maps. -/
structure MP (T : Nat → Type) (rep : ∀ n, Rep (T n)) (k : Nat) where
  α : Type
  b : BEq α
  K : @Key α b
  wf : α → Prop
  av : α → AV T
  va : AV T → Option α
  ktd : TypeDesc → Bool
  n : Nat
  g : Bool
  to : T k → List (α × T n)
  of : List (α × T n) → T k
instance {T : Nat → Type} {rep : ∀ n, Rep (T n)} {k : Nat} (d : MP T rep k) : BEq d.α := d.b
structure Tab where
  T : Nat → Type
  rep : ∀ n, Rep (T n)
  ex : ∀ n, T n → List (AV T)
  im : ∀ n, List (AV T) → Option (T n)
  code : TypeId → Option Nat
  gl : Nat → Option ((n : Nat) × List (T n))
  u8c : Nat
  tou8 : ∀ n, List (T n) → Option (List UInt8)
  ofu8 : List UInt8 → List (T u8c)
  gi : ∀ n, T n → Value → Value → Item
  dp : ∀ k, Option (DP T rep k)
  hd : Nat → Option Nat
  mp : ∀ k, Option (MP T rep k)
  gcode : TypeId → Option Nat

mutual
def R (tb : Tab) (η : List Value) (m : Mem) : AV tb.T → Value → Prop
  | .i64 x, v => v = .int .i64 x
  | .u8 x, v => v = .int .u8 (x.toNat : Int)
  | .u32 x, v => v = .int .u32 (x.toNat : Int)
  | .u64 x, v => v = .int .u64 (x.toNat : Int)
  | .bool x, v => v = .bool x
  | .str l, v => v = .string ⟨l.toArray⟩ ∧ l.length ≤ 9223372036854775807
  | .sl n l, v => ∃ A c, v = .slice A l.length c ∧ SlI (tb.rep n) m A c l
  | .nils, v => v = .slice none 0 0
  | .nilp, v => v = .pointer none
  | .row id, v => η[id]? = some v ∧ v.oneCell' = true
  | .ptr id off, v => ∃ g, η[id]? = some (.pointer (some ⟨g, 0, none⟩)) ∧ v = .pointer (some ⟨g, off, none⟩)
  | .elt id i n off, v => ∃ (ad : Addr) (len c : Nat), η[id]? = some (.slice (some ad) len c) ∧ 0 ≤ i ∧ i < len ∧ v = .pointer (some ((ad.add (i.toNat * (tb.rep n).sz)).add off))
  | .cells off l, v => ∃ (A : Addr) (cs : List Value), v = .pointer (some (A.add off)) ∧ CsM m (some A) cs ∧ RL tb η m l cs
  | .glob g, v => v = .pointer (some ⟨g, 0, none⟩)
  | .agg l, v => ∃ cs : List Value, v = .agg cs.toArray ∧ RL tb η m l cs
  | .tup l, v => ∃ cs : List Value, v = .tuple cs.toArray ∧ RL tb η m l cs
  | .fn f l c, v => ∃ xs ys : List Value, v = .func (.func f) xs.toArray ys.toArray ∧ RL tb η m l xs ∧ RL tb η m c ys
  | .lit u, v => v = u
  | .any, _ => True
def RL (tb : Tab) (η : List Value) (m : Mem) : List (AV tb.T) → List Value → Prop
  | [], vs => vs = []
  | a :: l, vs => ∃ v r, vs = v :: r ∧ R tb η m a v ∧ RL tb η m l r
end

/-- More is known. -/
def Le (η η' : List Value) : Prop := ∀ (i : Nat) (v : Value), η[i]? = some v → η'[i]? = some v
theorem Le.refl (η : List Value) : Le η η := fun _ _ h => h
theorem Le.trans {a b c : List Value} (h : Le a b) (h' : Le b c) : Le a c := fun i v e => h' i v (h i v e)
theorem Le.app (η η' : List Value) : Le η (η ++ η') := fun i v h => by
  rw [List.getElem?_append_left (List.getElem?_eq_some_iff.1 h).1]; exact h
section
variable {tb : Tab}
mutual
theorem R.mono {η η' : List Value} {m m' : Mem} (hη : Le η η') (hm : Sub m m') : ∀ (a : AV tb.T) {v : Value}, R tb η m a v → R tb η' m' a v
  | .i64 _, _, h => h
  | .u8 _, _, h => h
  | .u32 _, _, h => h
  | .u64 _, _, h => h
  | .bool _, _, h => h
  | .str _, _, h => h
  | .sl _ _, _, ⟨A, c, h1, h2⟩ => ⟨A, c, h1, h2.mono hm⟩
  | .nils, _, h => h
  | .nilp, _, h => h
  | .row _, _, ⟨h1, h2⟩ => ⟨hη _ _ h1, h2⟩
  | .ptr _ _, _, ⟨g, h1, h2⟩ => ⟨g, hη _ _ h1, h2⟩
  | .elt _ _ _ _, _, ⟨ad, len, c, h1, h2⟩ => ⟨ad, len, c, hη _ _ h1, h2⟩
  | .cells _ l, _, ⟨A, cs, h1, h2, h3⟩ => ⟨A, cs, h1, h2.mono hm, RL.mono hη hm l h3⟩
  | .glob _, _, h => h
  | .agg l, _, ⟨cs, h1, h3⟩ => ⟨cs, h1, RL.mono hη hm l h3⟩
  | .tup l, _, ⟨cs, h1, h3⟩ => ⟨cs, h1, RL.mono hη hm l h3⟩
  | .fn _ l c, _, ⟨xs, ys, h1, h3, h4⟩ => ⟨xs, ys, h1, RL.mono hη hm l h3, RL.mono hη hm c h4⟩
  | .lit _, _, h => h
  | .any, _, _ => trivial
theorem RL.mono {η η' : List Value} {m m' : Mem} (hη : Le η η') (hm : Sub m m') : ∀ (l : List (AV tb.T)) {vs : List Value}, RL tb η m l vs → RL tb η' m' l vs
  | [], _, h => h
  | a :: l, _, ⟨v, r, h1, h2, h3⟩ => ⟨v, r, h1, R.mono hη hm a h2, RL.mono hη hm l h3⟩
end
theorem take_get {η η0 : List Value} {i : Nat} {v v0 : Value} (h0 : η0[i]? = some v0) (h : η[i]? = some v) : (η.take η0.length)[i]? = some v := by
  rw [List.getElem?_take, if_pos (List.getElem?_eq_some_iff.1 h0).1]; exact h
mutual
/-- What was known before hangs on what was known before. -/
theorem R.cut {η η0 : List Value} {m m0 : Mem} : ∀ (a : AV tb.T) {v v0 : Value}, R tb η0 m0 a v0 → R tb η m a v → R tb (η.take η0.length) m a v
  | .i64 _, _, _, _, h => h
  | .u8 _, _, _, _, h => h
  | .u32 _, _, _, _, h => h
  | .u64 _, _, _, _, h => h
  | .bool _, _, _, _, h => h
  | .str _, _, _, _, h => h
  | .sl _ _, _, _, _, h => h
  | .nils, _, _, _, h => h
  | .nilp, _, _, _, h => h
  | .row _, _, _, ⟨h1, _⟩, ⟨k1, k2⟩ => ⟨take_get h1 k1, k2⟩
  | .ptr _ _, _, _, ⟨g, h1, _⟩, ⟨g', k1, k2⟩ => ⟨g', take_get h1 k1, k2⟩
  | .elt _ _ _ _, _, _, ⟨_, _, _, h1, _⟩, ⟨ad, len, c, k1, k2⟩ => ⟨ad, len, c, take_get h1 k1, k2⟩
  | .cells _ l, _, _, ⟨_, _, _, _, h3⟩, ⟨A, cs, k1, k2, k3⟩ => ⟨A, cs, k1, k2, RL.cut l h3 k3⟩
  | .glob _, _, _, _, h => h
  | .agg l, _, _, ⟨_, _, h3⟩, ⟨cs, k1, k3⟩ => ⟨cs, k1, RL.cut l h3 k3⟩
  | .tup l, _, _, ⟨_, _, h3⟩, ⟨cs, k1, k3⟩ => ⟨cs, k1, RL.cut l h3 k3⟩
  | .fn _ l c, _, _, ⟨_, _, _, h3, h4⟩, ⟨xs, ys, k1, k3, k4⟩ => ⟨xs, ys, k1, RL.cut l h3 k3, RL.cut c h4 k4⟩
  | .lit _, _, _, _, h => h
  | .any, _, _, _, _ => trivial
theorem RL.cut {η η0 : List Value} {m m0 : Mem} : ∀ (l : List (AV tb.T)) {vs vs0 : List Value}, RL tb η0 m0 l vs0 → RL tb η m l vs → RL tb (η.take η0.length) m l vs
  | [], _, _, _, h => h
  | a :: l, _, _, ⟨_, _, _, h2, h3⟩, ⟨v, r, k1, k2, k3⟩ => ⟨v, r, k1, R.cut a h2 k2, RL.cut l h3 k3⟩
end
theorem RL.app {η : List Value} {m : Mem} : ∀ {l l' : List (AV tb.T)} {vs vs' : List Value}, RL tb η m l vs → RL tb η m l' vs' → RL tb η m (l ++ l') (vs ++ vs')
  | [], l', vs, vs', h, h' => by rw [show vs = [] from h]; exact h'
  | a :: l, l', vs, vs', ⟨v, r, h1, h2, h3⟩, h' => ⟨v, r ++ vs', by rw [h1]; rfl, h2, h3.app h'⟩
theorem RL.inv {η : List Value} {m : Mem} : ∀ {l l' : List (AV tb.T)} {vs : List Value}, RL tb η m (l ++ l') vs → ∃ v1 v2, vs = v1 ++ v2 ∧ RL tb η m l v1 ∧ RL tb η m l' v2
  | [], l', vs, h => ⟨[], vs, rfl, rfl, h⟩
  | a :: l, l', vs, ⟨v, r, h1, h2, h3⟩ => by
    obtain ⟨v1, v2, rfl, h4, h5⟩ := RL.inv h3
    exact ⟨v :: v1, v2, by rw [h1]; rfl, ⟨v, v1, rfl, h2, h4⟩, h5⟩
theorem RL.len {η : List Value} {m : Mem} : ∀ {l : List (AV tb.T)} {vs : List Value}, RL tb η m l vs → vs.length = l.length
  | [], vs, h => by rw [show vs = [] from h]; rfl
  | a :: l, vs, ⟨v, r, h1, h2, h3⟩ => by rw [h1, List.length_cons, List.length_cons, h3.len]
theorem RL.get {η : List Value} {m : Mem} : ∀ {l : List (AV tb.T)} {vs : List Value} {i : Nat} {a : AV tb.T}, RL tb η m l vs → l[i]? = some a → ∃ v, vs[i]? = some v ∧ R tb η m a v
  | [], vs, i, a, h, hi => by simp at hi
  | b :: l, vs, 0, a, ⟨v, r, h1, h2, h3⟩, hi => by
    simp at hi; subst hi; exact ⟨v, by rw [h1]; rfl, h2⟩
  | b :: l, vs, i + 1, a, ⟨v, r, h1, h2, h3⟩, hi => by
    obtain ⟨u, h4, h5⟩ := h3.get (by simpa using hi)
    exact ⟨u, by rw [h1]; simpa using h4, h5⟩
theorem RL.take {η : List Value} {m : Mem} : ∀ {l : List (AV tb.T)} {vs : List Value} (n : Nat), RL tb η m l vs → RL tb η m (l.take n) (vs.take n)
  | _, _, 0, h => by simp [RL]
  | [], vs, n + 1, h => by rw [show vs = [] from h]; rfl
  | b :: l, vs, n + 1, ⟨v, r, h1, h2, h3⟩ => ⟨v, r.take n, by rw [h1]; rfl, h2, h3.take n⟩
theorem RL.drop {η : List Value} {m : Mem} : ∀ {l : List (AV tb.T)} {vs : List Value} (n : Nat), RL tb η m l vs → RL tb η m (l.drop n) (vs.drop n)
  | _, _, 0, h => by simpa using h
  | [], vs, n + 1, h => by rw [show vs = [] from h]; rfl
  | b :: l, vs, n + 1, ⟨v, r, h1, h2, h3⟩ => by rw [h1]; exact h3.drop n
theorem RL.set {η : List Value} {m : Mem} : ∀ {l : List (AV tb.T)} {vs : List Value} {i : Nat} {a : AV tb.T} {v : Value}, RL tb η m l vs → R tb η m a v → RL tb η m (l.set i a) (vs.set i v)
  | [], vs, i, a, v, h, _ => by rw [show vs = [] from h]; rfl
  | b :: l, vs, 0, a, v, ⟨u, r, h1, h2, h3⟩, hv => ⟨v, r, by rw [h1]; rfl, hv, h3⟩
  | b :: l, vs, i + 1, a, v, ⟨u, r, h1, h2, h3⟩, hv => ⟨u, r.set i v, by rw [h1]; rfl, h2, h3.set hv⟩
theorem RL.one {η : List Value} {m : Mem} {a : AV tb.T} {vs : List Value} (h : RL tb η m [a] vs) : ∃ v, vs = [v] ∧ R tb η m a v := by
  obtain ⟨v, r, h1, h2, h3⟩ := h
  exact ⟨v, by rw [h1, show r = [] from h3], h2⟩
theorem RL.mk1 {η : List Value} {m : Mem} {a : AV tb.T} {v : Value} (h : R tb η m a v) : RL tb η m [a] [v] := ⟨v, [], rfl, h, rfl⟩
end

/-- Does it fill one cell? -/
def oneA {T : Nat → Type} : AV T → Bool
  | .agg _ => false
  | .tup _ => false
  | .any => false
  | .lit v => v.oneCell'
  | _ => true
theorem oneA_ok {tb : Tab} {η : List Value} {m : Mem} {a : AV tb.T} {v : Value} (h : R tb η m a v) (ho : oneA a = true) : v.oneCell' = true := by
  cases a <;> simp only [R] at h <;> simp only [oneA, Bool.false_eq_true] at ho
  case str => rw [h.1]; rfl
  case sl => obtain ⟨A, c, rfl, _⟩ := h; rfl
  case row => exact h.2
  case ptr => obtain ⟨g, _, rfl⟩ := h; rfl
  case elt => obtain ⟨_, _, _, _, _, _, rfl⟩ := h; rfl
  case cells => obtain ⟨A, cs, rfl, _⟩ := h; rfl
  case fn => obtain ⟨xs, ys, rfl, _⟩ := h; rfl
  case lit => rw [h]; exact ho
  all_goals (subst h; rfl)
theorem oneL {tb : Tab} {η : List Value} {m : Mem} : ∀ {l : List (AV tb.T)} {vs : List Value}, RL tb η m l vs → l.all oneA = true → vs.all (·.oneCell') = true
  | [], vs, h, _ => by rw [show vs = [] from h]; rfl
  | a :: l, vs, ⟨v, r, h1, h2, h3⟩, ho => by
    rw [List.all_cons, Bool.and_eq_true] at ho
    rw [h1, List.all_cons, oneA_ok h2 ho.1, oneL h3 ho.2]
    rfl

/-! ### Lists by number -/
def lk {α : Type} : List (Nat × Nat × α) → Nat → Option (Nat × α)
  | [], _ => none
  | (i, st, v) :: r, t => cond (Nat.beq i t) (some (st, v)) (lk r t)
def del {α : Type} : List (Nat × Nat × α) → Nat → List (Nat × Nat × α)
  | [], _ => []
  | (i, st, v) :: r, t => cond (Nat.beq i t) (del r t) ((i, st, v) :: del r t)
def sto {α : Type} (l : List (Nat × Nat × α)) (t st : Nat) (v : α) : List (Nat × Nat × α) := (t, st, v) :: del l t
theorem beq_t {a b : Nat} (h : Nat.beq a b = true) : a = b := Nat.eq_of_beq_eq_true h
/-! ### Items -/
inductive DI (T : Nat → Type) : Type where
  | blk (t : TypeId) (c : List (AV T))
  | row (n t : Nat) (l : List (T n))
  | lit (t : TypeId) (k : Nat) (c : List (AV T))
  | kep (t : TypeId) (c : List (AV T)) (j : Nat)
  | gen (n : Nat) (x : T n) (j : Nat)

abbrev Sg (T : Nat → Type) := List (Nat × Nat × DI T)

def DI.item (tb : Tab) (η : List Value) (id : Nat) : DI tb.T → Item
  | .blk t c => {
    P := fun m w F => ∃ (g : Nat) (cs : List Value), η[id]? = some (.pointer (some ⟨g, 0, none⟩)) ∧ RL tb η m c cs ∧ (blkI g cs t).P m w F
    loc := fun ⟨g, cs, h1, h2, h3⟩ hk => ⟨g, cs, h1, h2, (blkI g cs t).loc h3 hk⟩
    mono := fun hs ⟨g, cs, h1, h2, h3⟩ => ⟨g, cs, h1, RL.mono (Le.refl _) hs c h2, (blkI g cs t).mono hs h3⟩
    dom := fun ⟨g, cs, h1, h2, h3⟩ => (blkI g cs t).dom h3 }
  | .row n t l => {
    P := fun m w F => ∃ (A : Option Addr) (c : Nat), η[id]? = some (.slice A l.length c) ∧ (rowI (tb.rep n) t A c l).P m w F
    loc := fun ⟨A, c, h1, h3⟩ hk => ⟨A, c, h1, (rowI (tb.rep n) t A c l).loc h3 hk⟩
    mono := fun hs ⟨A, c, h1, h3⟩ => ⟨A, c, h1, (rowI (tb.rep n) t A c l).mono hs h3⟩
    dom := fun ⟨A, c, h1, h3⟩ => (rowI (tb.rep n) t A c l).dom h3 }
  | .lit t k c => {
    P := fun m w F => ∃ (g : Nat) (cs : List Value), η[id]? = some (.slice (some ⟨g, 0, none⟩) k k) ∧ RL tb η m c cs ∧ (blkI g cs t).P m w F
    loc := fun ⟨g, cs, h1, h2, h3⟩ hk => ⟨g, cs, h1, h2, (blkI g cs t).loc h3 hk⟩
    mono := fun hs ⟨g, cs, h1, h2, h3⟩ => ⟨g, cs, h1, RL.mono (Le.refl _) hs c h2, (blkI g cs t).mono hs h3⟩
    dom := fun ⟨g, cs, h1, h2, h3⟩ => (blkI g cs t).dom h3 }
  | .kep t c j => {
    P := fun m w F => ∃ (g : Nat) (cs : List Value), (η[id]? = some (.pointer (some ⟨g, 0, none⟩)) ∧ η[j]? = some (.agg cs.toArray)) ∧ RL tb η m c cs ∧ (blkI g cs t).P m w F
    loc := fun ⟨g, cs, h1, h2, h3⟩ hk => ⟨g, cs, h1, h2, (blkI g cs t).loc h3 hk⟩
    mono := fun hs ⟨g, cs, h1, h2, h3⟩ => ⟨g, cs, h1, RL.mono (Le.refl _) hs c h2, (blkI g cs t).mono hs h3⟩
    dom := fun ⟨g, cs, h1, h2, h3⟩ => (blkI g cs t).dom h3 }
  | .gen n x j => {
    P := fun m w F => ∃ v u : Value, (η[id]? = some v ∧ η[j]? = some u) ∧ v.oneCell' = true ∧ (tb.gi n x v u).P m w F
    loc := fun ⟨v, u, h1, h2, h3⟩ hk => ⟨v, u, h1, h2, (tb.gi n x v u).loc h3 hk⟩
    mono := fun hs ⟨v, u, h1, h2, h3⟩ => ⟨v, u, h1, h2, (tb.gi n x v u).mono hs h3⟩
    dom := fun ⟨v, u, h1, h2, h3⟩ => (tb.gi n x v u).dom h3 }
def its (tb : Tab) (η : List Value) (σ : Sg tb.T) : List Item := σ.map fun e => e.2.2.item tb η e.1
section
variable {tb : Tab} {η η' : List Value} {m m' : Mem} {w : World}
theorem item_le (hη : Le η η') (id : Nat) (x : DI tb.T) {F : Nat → Prop} (h : (x.item tb η id).P m w F) : (x.item tb η' id).P m w F := by
  cases x with
  | blk t c => obtain ⟨g, cs, h1, h2, h3⟩ := h; exact ⟨g, cs, hη _ _ h1, RL.mono hη (Sub.refl _) c h2, h3⟩
  | row n t l => obtain ⟨A, c, h1, h3⟩ := h; exact ⟨A, c, hη _ _ h1, h3⟩
  | lit t k c => obtain ⟨g, cs, h1, h2, h3⟩ := h; exact ⟨g, cs, hη _ _ h1, RL.mono hη (Sub.refl _) c h2, h3⟩
  | kep t c j => obtain ⟨g, cs, ⟨h1, h4⟩, h2, h3⟩ := h; exact ⟨g, cs, ⟨hη _ _ h1, hη _ _ h4⟩, RL.mono hη (Sub.refl _) c h2, h3⟩
  | gen n x j => obtain ⟨v, u, ⟨h1, h4⟩, h2, h3⟩ := h; exact ⟨v, u, ⟨hη _ _ h1, hη _ _ h4⟩, h2, h3⟩
theorem its_le (hη : Le η η') : ∀ (σ : Sg tb.T) {F : Nat → Prop}, Sep m w (its tb η σ) F → Sep m w (its tb η' σ) F
  | [], _, h => h
  | (id, st, x) :: r, F, ⟨F1, F2, h1, h2, h3, h4⟩ => ⟨F1, F2, item_le hη id x h1, its_le hη r h2, h3, h4⟩
theorem its_app (σ τ : Sg tb.T) : its tb η (σ ++ τ) = its tb η σ ++ its tb η τ := by unfold its; exact List.map_append
theorem its_del : ∀ (σ : Sg tb.T) (id : Nat) {F : Nat → Prop}, Sep m w (its tb η σ) F → ∃ F', (∀ k, F' k → F k) ∧ Sep m w (its tb η (del σ id)) F'
  | [], _, F, h => ⟨F, fun _ e => e, h⟩
  | (i, st, x) :: r, id, F, ⟨F1, F2, h1, h2, h3, h4⟩ => by
    obtain ⟨F', k1, k2⟩ := its_del r id h2
    simp only [del]
    cases Nat.beq i id with
    | true => exact ⟨F', fun k e => (h4 k).2 (.inr (k1 k e)), k2⟩
    | false => exact ⟨fun k => F1 k ∨ F' k, fun k e => (h4 k).2 (e.elim .inl (fun e => .inr (k1 k e))), F1, F', h1, k2, fun k a b => h3 k a (k1 k b), fun k => Iff.rfl⟩
/-- One out of all. -/
theorem Sep_lk : ∀ {σ : Sg tb.T} {id : Nat} {p : Nat × DI tb.T}, lk σ id = some p → ∀ {F : Nat → Prop}, Sep m w (its tb η σ) F → ∃ F1 F2, (p.2.item tb η id).P m w F1 ∧ Sep m w (its tb η (del σ id)) F2 ∧ (∀ k, F1 k → F2 k → False) ∧ ∀ k, F1 k ∨ F2 k → F k
  | [], _, _, h, _, _ => by cases h
  | (i, st, x) :: r, id, p, h, F, ⟨F1, F2, h1, h2, h3, h4⟩ => by
    simp only [lk] at h
    simp only [del]
    cases hb : Nat.beq i id with
    | true =>
      rw [hb] at h
      have := beq_t hb
      subst this
      cases h
      obtain ⟨F', k1, k2⟩ := its_del r i h2
      exact ⟨F1, F', h1, k2, fun k a b => h3 k a (k1 k b), fun k e => (h4 k).2 (e.elim .inl (fun e => .inr (k1 k e)))⟩
    | false =>
      rw [hb] at h
      obtain ⟨G1, G2, k1, k2, k3, k4⟩ := Sep_lk (σ := r) h h2
      exact ⟨G1, fun k => F1 k ∨ G2 k, k1, ⟨F1, G2, h1, k2, fun k a b => h3 k a (k4 k (.inr b)), fun k => Iff.rfl⟩, fun k a b => b.elim (fun b => h3 k b (k4 k (.inl a))) (k3 k a),
        fun k e => (h4 k).2 (e.elim (fun e => .inr (k4 k (.inl e))) (fun e => e.elim .inl (fun e => .inr (k4 k (.inr e)))))⟩
end
end Go.Proofs.YtbldeodchhfjfaaGreatDoor.K.E
