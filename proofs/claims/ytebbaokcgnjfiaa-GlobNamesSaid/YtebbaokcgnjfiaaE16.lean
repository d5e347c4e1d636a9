/- E, part 16: words of the printed texts. -/
import Derived.Test.YtebbaokcgnjfiaaE15
set_option linter.unusedVariables false
set_option linter.unusedSimpArgs false
set_option linter.unusedSectionVars false
namespace Go.Proofs.Ytebbaokcgnjfiaa.K.E
open Go Go.RowKit

def sh : List Sh → Sh
  | [] => .nil
  | h :: r => .cons h (sh r)
/-- Many ways, all the same. -/
inductive Dp
  | o
  | f (a b : Dp)
noncomputable def dup {ρ : Type} : Dp → Option ρ → Option ρ
  | .o, x => x
  | .f a b, x => fork (dup a x) (dup b x)
theorem dup_eq {ρ : Type} (x : Option ρ) : ∀ t : Dp, dup t x = x
  | .o => rfl
  | .f a b => by rw [dup, dup_eq x a, dup_eq x b, fork_same]
theorem fork_comm {α β γ : Type} (a : Option α) (b : Option β) (k : α → β → Option γ) : fork (a.bind fun x => b.bind fun y => k x y) (b.bind fun y => a.bind fun x => k x y) = a.bind fun x => b.bind fun y => k x y := by
  rw [show (b.bind fun y => a.bind fun x => k x y) = a.bind fun x => b.bind fun y => k x y from by cases a <;> cases b <;> rfl, fork_same]
theorem conNil {P : Program} {tb : Tab} : ∀ cn ∈ ([] : List (Con tb.T)), ConOk P tb cn := fun _ h => by cases h
theorem conCons {P : Program} {tb : Tab} {c : Con tb.T} {l : List (Con tb.T)} (h : ConOk P tb c) (hl : ∀ cn ∈ l, ConOk P tb cn) : ∀ cn ∈ c :: l, ConOk P tb cn := fun cn hm => by
  rcases List.mem_cons.1 hm with e | e
  · subst e; exact h
  · exact hl cn e
def rNo : Rep Unit where
  sz := 1
  im _ cs _ := cs = [.bool true]
  wf _ := True
  mono _ h := h
  len h := by rw [h]; rfl
  one h := by rw [h]; intro u hu; simp only [List.mem_singleton] at hu; subst hu; rfl
section
variable {T : Nat → Type}
def gI64 : AV T → Option Int
  | .i64 x => some x
  | _ => none
def gU8 : AV T → Option UInt8
  | .u8 x => some x
  | _ => none
def gU32 : AV T → Option UInt32
  | .u32 x => some x
  | _ => none
def gU64 : AV T → Option UInt64
  | .u64 x => some x
  | _ => none
def gBool : AV T → Option Bool
  | .bool x => some x
  | _ => none
def gStr : AV T → Option (List UInt8)
  | .str x => some x
  | _ => none
def gSl (n : Nat) : AV T → Option (List (T n))
  | .sl n' x => castL n n' x
  | .nils => some []
  | _ => none
end
section
variable {tb : Tab} {η : List Value} {m : Mem} {a : AV tb.T} {v : Value}
theorem gI64_ok {x : Int} (h : gI64 a = some x) (hr : R tb η m a v) : v = .int .i64 x := by
  unfold gI64 at h; split at h <;> cases h; exact hr
theorem gU8_ok {x : UInt8} (h : gU8 a = some x) (hr : R tb η m a v) : v = .int .u8 (x.toNat : Int) := by
  unfold gU8 at h; split at h <;> cases h; exact hr
theorem gU32_ok {x : UInt32} (h : gU32 a = some x) (hr : R tb η m a v) : v = .int .u32 (x.toNat : Int) := by
  unfold gU32 at h; split at h <;> cases h; exact hr
theorem gU64_ok {x : UInt64} (h : gU64 a = some x) (hr : R tb η m a v) : v = .int .u64 (x.toNat : Int) := by
  unfold gU64 at h; split at h <;> cases h; exact hr
theorem gBool_ok {x : Bool} (h : gBool a = some x) (hr : R tb η m a v) : v = .bool x := by
  unfold gBool at h; split at h <;> cases h; exact hr
theorem gStr_ok {x : List UInt8} (h : gStr a = some x) (hr : R tb η m a v) : v = .string ⟨x.toArray⟩ ∧ x.length ≤ 9223372036854775807 := by
  unfold gStr at h; split at h <;> cases h; exact hr
theorem gSl_ok {n : Nat} {x : List (tb.T n)} (h : gSl n a = some x) (hr : R tb η m a v) : ∃ A c, v = .slice A x.length c ∧ SlI (tb.rep n) m A c x := by
  unfold gSl at h
  split at h
  · rename_i n' l
    exact castL_cases h (M := fun k l => ∃ A c, v = .slice A l.length c ∧ SlI (tb.rep k) m A c l) hr
  · cases h
    exact ⟨none, 0, hr, SlI.nil _ _⟩
  · cases h
end
end Go.Proofs.Ytebbaokcgnjfiaa.K.E
