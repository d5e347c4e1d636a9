/- E, part 16: words of the printed texts. -/
import Derived.Test.YtbldeodchhfjfaaGreatDoorE15
set_option linter.unusedVariables false
set_option linter.unusedSimpArgs false
set_option linter.unusedSectionVars false
namespace Go.Proofs.YtbldeodchhfjfaaGreatDoor.K.E
open Go Go.RowKit

def sh : List Sh → Sh
  | [] => .nil
  | h :: r => .cons h (sh r)
/-- Many ways, all the same. -/
inductive Dp
  | o
  | f (a b : Dp)
noncomputable def dup {ρ : Type} : Dp → Option ρ → Option ρ
  | .o, x => x
  | .f a b, x => fork (dup a x) (dup b x)
theorem dup_eq {ρ : Type} (x : Option ρ) : ∀ t : Dp, dup t x = x
  | .o => rfl
  | .f a b => by rw [dup, dup_eq x a, dup_eq x b, fork_same]
theorem fork_comm {α β γ : Type} (a : Option α) (b : Option β) (k : α → β → Option γ) : fork (a.bind fun x => b.bind fun y => k x y) (b.bind fun y => a.bind fun x => k x y) = a.bind fun x => b.bind fun y => k x y := by
  rw [show (b.bind fun y => a.bind fun x => k x y) = a.bind fun x => b.bind fun y => k x y from by cases a <;> cases b <;> rfl, fork_same]
theorem conPNil {np : Nat} {P : Program} {tb : Tab} {pt : TypeId} : ∀ cn ∈ ([] : List (ConP np tb.T)), ConPOk P tb pt cn := fun _ h => by cases h
theorem conPCons {P : Program} {tb : Tab} {pt : TypeId} {np : Nat} {c : ConP np tb.T} {cs : List (ConP np tb.T)} (h : ConPOk P tb pt c) (hs : ∀ cn ∈ cs, ConPOk P tb pt cn) : ∀ cn ∈ c :: cs, ConPOk P tb pt cn := by
  intro cn hm
  rcases List.mem_cons.1 hm with rfl | hm
  · exact h
  · exact hs cn hm
/-- A function of which nothing is told. -/
theorem conP0 {P : Program} {tb : Tab} {pt : TypeId} {np : Nat} {cn : ConP np tb.T} (h : ∀ x, cn.F x = none) : ConPOk P tb pt cn := fun st x yo hy => by rw [h x] at hy; cases hy
theorem conNil {P : Program} {tb : Tab} : ∀ cn ∈ ([] : List (Con tb.T)), ConOk P tb cn := fun _ h => by cases h
theorem conCons {P : Program} {tb : Tab} {c : Con tb.T} {l : List (Con tb.T)} (h : ConOk P tb c) (hl : ∀ cn ∈ l, ConOk P tb cn) : ∀ cn ∈ c :: l, ConOk P tb cn := fun cn hm => by
  rcases List.mem_cons.1 hm with e | e
  · subst e; exact h
  · exact hl cn e
def rNo : Rep Unit where
  sz := 1
  im _ cs _ := cs = [.bool true]
  wf _ := True
  mono _ h := h
  len h := by rw [h]; rfl
  one h := by rw [h]; intro u hu; simp only [List.mem_singleton] at hu; subst hu; rfl
/-- A type that is no element's. -/
def rNone (α : Type) : Rep α where
  sz := 1
  im _ _ _ := False
  wf _ := True
  mono _ h := h
  len h := h.elim
  one h := h.elim
theorem set_back {cs : List Value} {i : Nat} {v u : Value} (h : cs[i]? = some v) : cs = (cs.set i u).set i v := by
  rw [List.set_set]
  obtain ⟨hi, rfl⟩ := List.getElem?_eq_some_iff.1 h
  exact (List.set_getElem_self hi).symm
def wfS (x : List UInt8) : Prop := x.length ≤ 9223372036854775807
def wfI (_ : Int) : Prop := True
def mpStr {T : Nat → Type} {rep : ∀ n, Rep (T n)} (k n : Nat) (g : Bool) (to : T k → List (List UInt8 × T n)) (of : List (List UInt8 × T n) → T k) : MP T rep k where
  α := List UInt8
  b := inferInstance
  K := kStr
  wf := wfS
  av x := .str x
  va a := match a with
    | .str x => some x
    | _ => none
  ktd td := match td with
    | .string => true
    | _ => false
  n := n
  g := g
  to := to
  of := of
def mpInt {T : Nat → Type} {rep : ∀ n, Rep (T n)} (k n : Nat) (g : Bool) (to : T k → List (Int × T n)) (of : List (Int × T n) → T k) : MP T rep k where
  α := Int
  b := inferInstance
  K := kI64
  wf := wfI
  av x := .i64 x
  va a := match a with
    | .i64 x => some x
    | _ => none
  ktd td := match td with
    | .int .i64 => true
    | _ => false
  n := n
  g := g
  to := to
  of := of
theorem mpStr_ok {tb : Tab} {k n : Nat} {g : Bool} {to : tb.T k → List (List UInt8 × tb.T n)} {of : List (List UInt8 × tb.T n) → tb.T k} (h1 : ∀ x v u, tb.gi k x v u = mapG kStr wfS (tb.rep n) g (to x) v) (h2 : ∀ l, to (of l) = l) (d : MP tb.T tb.rep k) (hd : d = mpStr k n g to of) :
    (∀ x v u, tb.gi k x v u = @mapG d.α (tb.T d.n) d.b d.K d.wf (tb.rep d.n) d.g (d.to x) v) ∧ (∀ l, d.to (d.of l) = l) ∧ (∀ (η : List Value) (m : Mem) (a : AV tb.T) (x : d.α) (v : Value), d.va a = some x → R tb η m a v → v = d.K.fk x ∧ d.wf x) ∧
    (∀ (η : List Value) (m : Mem) (x : d.α), d.wf x → R tb η m (d.av x) (d.K.fk x)) ∧ ∀ td, d.ktd td = true → td = d.K.td := by
  subst hd
  refine ⟨h1, h2, fun η m a x v h hr => ?_, fun η m x h => ⟨rfl, h⟩, fun td h => ?_⟩
  · cases a <;> first | (cases h; done) | skip
    cases h
    exact hr
  · cases td <;> first | rfl | cases h
theorem mpInt_ok {tb : Tab} {k n : Nat} {g : Bool} {to : tb.T k → List (Int × tb.T n)} {of : List (Int × tb.T n) → tb.T k} (h1 : ∀ x v u, tb.gi k x v u = mapG kI64 wfI (tb.rep n) g (to x) v) (h2 : ∀ l, to (of l) = l) (d : MP tb.T tb.rep k) (hd : d = mpInt k n g to of) :
    (∀ x v u, tb.gi k x v u = @mapG d.α (tb.T d.n) d.b d.K d.wf (tb.rep d.n) d.g (d.to x) v) ∧ (∀ l, d.to (d.of l) = l) ∧ (∀ (η : List Value) (m : Mem) (a : AV tb.T) (x : d.α) (v : Value), d.va a = some x → R tb η m a v → v = d.K.fk x ∧ d.wf x) ∧
    (∀ (η : List Value) (m : Mem) (x : d.α), d.wf x → R tb η m (d.av x) (d.K.fk x)) ∧ ∀ td, d.ktd td = true → td = d.K.td := by
  subst hd
  refine ⟨h1, h2, fun η m a x v h hr => ?_, fun η m x h => rfl, fun td h => ?_⟩
  · cases a <;> first | (cases h; done) | skip
    cases h
    exact ⟨hr, trivial⟩
  · cases td with
    | int k => cases k <;> first | rfl | cases h
    | _ => cases h
section
variable {T : Nat → Type}
def gI64 : AV T → Option Int
  | .i64 x => some x
  | _ => none
def gU8 : AV T → Option UInt8
  | .u8 x => some x
  | _ => none
def gU32 : AV T → Option UInt32
  | .u32 x => some x
  | _ => none
def gU64 : AV T → Option UInt64
  | .u64 x => some x
  | _ => none
def gBool : AV T → Option Bool
  | .bool x => some x
  | _ => none
def gStr : AV T → Option (List UInt8)
  | .str x => some x
  | _ => none
def gSl (n : Nat) : AV T → Option (List (T n))
  | .sl n' x => castL n n' x
  | .nils => some []
  | _ => none
end
section
variable {tb : Tab} {η : List Value} {m : Mem} {a : AV tb.T} {v : Value}
theorem gI64_ok {x : Int} (h : gI64 a = some x) (hr : R tb η m a v) : v = .int .i64 x := by
  unfold gI64 at h; split at h <;> cases h; exact hr
theorem gU8_ok {x : UInt8} (h : gU8 a = some x) (hr : R tb η m a v) : v = .int .u8 (x.toNat : Int) := by
  unfold gU8 at h; split at h <;> cases h; exact hr
theorem gU32_ok {x : UInt32} (h : gU32 a = some x) (hr : R tb η m a v) : v = .int .u32 (x.toNat : Int) := by
  unfold gU32 at h; split at h <;> cases h; exact hr
theorem gU64_ok {x : UInt64} (h : gU64 a = some x) (hr : R tb η m a v) : v = .int .u64 (x.toNat : Int) := by
  unfold gU64 at h; split at h <;> cases h; exact hr
theorem gBool_ok {x : Bool} (h : gBool a = some x) (hr : R tb η m a v) : v = .bool x := by
  unfold gBool at h; split at h <;> cases h; exact hr
theorem gStr_ok {x : List UInt8} (h : gStr a = some x) (hr : R tb η m a v) : v = .string ⟨x.toArray⟩ ∧ x.length ≤ 9223372036854775807 := by
  unfold gStr at h; split at h <;> cases h; exact hr
theorem gSl_ok {n : Nat} {x : List (tb.T n)} (h : gSl n a = some x) (hr : R tb η m a v) : ∃ A c, v = .slice A x.length c ∧ SlI (tb.rep n) m A c x := by
  unfold gSl at h
  split at h
  · rename_i n' l
    exact castL_cases h (M := fun k l => ∃ A c, v = .slice A l.length c ∧ SlI (tb.rep k) m A c l) hr
  · cases h
    exact ⟨none, 0, hr, SlI.nil _ _⟩
  · cases h
end
end Go.Proofs.YtbldeodchhfjfaaGreatDoor.K.E
