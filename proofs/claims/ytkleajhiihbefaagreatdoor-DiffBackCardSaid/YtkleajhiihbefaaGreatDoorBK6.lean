/- Texts in one: E16 E17 E19 E20 E20B. -/
import Derived.Test.YtkleajhiihbefaaGreatDoorBK5
import Derived.Shelf.SlSortCmp.NoneTotal
set_option linter.unusedVariables false
set_option linter.unusedSimpArgs false
set_option linter.unusedSectionVars false
namespace Go.Proofs.YtkleajhiihbefaaGreatDoor.K.E
open Go Go.RowKit
def sh : List Sh → Sh
 | [] => .nil
 | h :: r => .cons h (sh r)
def imOne {T : Nat → Type} (k : Nat) (l : List (AV T)) : Option (T k) := match l with
 | [.one n x] => castT k n x
 | _ => none
theorem imOne_ok {tb : Tab} (k : Nat) {l : List (AV tb.T)} {x : tb.T k} {η : List Value} {m : Mem} {vs : List Value} (h : imOne k l = some x) (hr : RL tb η m l vs) : (tb.rep k).im m vs x := by
 unfold imOne at h
 split at h
 ·obtain ⟨e, rfl⟩ := castT_some h
  subst e
  obtain ⟨v, rfl, hv⟩ := hr.one
  exact hv
 ·cases h
theorem exOne_ok {tb : Tab} (k : Nat) (hz : (tb.rep k).sz = 1) {x : tb.T k} {η : List Value} {m : Mem} {vs : List Value} (h : (tb.rep k).im m vs x) : RL tb η m [.one k x] vs := by
 have hl := (tb.rep k).len h
 rw [hz] at hl
 match vs, hl with
 | [v], _ => exact RL.mk1 h
inductive Dp
 | o
 | f (a b : Dp)
noncomputable def dup {ρ : Type} : Dp → Option ρ → Option ρ
 | .o, x => x
 | .f a b, x => fork (dup a x) (dup b x)
theorem dup_eq {ρ : Type} (x : Option ρ) : ∀ t : Dp, dup t x = x
 | .o => rfl
 | .f a b => by rw [dup, dup_eq x a, dup_eq x b, fork_same]
theorem conPNil {np : Nat} {P : Program} {tb : Tab} {pt : TypeId} : ∀ cn ∈ ([] : List (ConP np tb.T)), ConPOk P tb pt cn := fun _ h => by cases h
theorem conPCons {P : Program} {tb : Tab} {pt : TypeId} {np : Nat} {c : ConP np tb.T} {cs : List (ConP np tb.T)} (h : ConPOk P tb pt c) (hs : ∀ cn ∈ cs, ConPOk P tb pt cn) : ∀ cn ∈ c :: cs, ConPOk P tb pt cn := by
 intro cn hm
 rcases List.mem_cons.1 hm with rfl | hm
 ·exact h
 ·exact hs cn hm
theorem conP0 {P : Program} {tb : Tab} {pt : TypeId} {np : Nat} {cn : ConP np tb.T} (h : ∀ x, cn.F x = none) : ConPOk P tb pt cn := fun st x yo hy => by rw [h x] at hy; cases hy
theorem conNil {P : Program} {tb : Tab} : ∀ cn ∈ ([] : List (Con tb.T)), ConOk P tb cn := fun _ h => by cases h
theorem conCons {P : Program} {tb : Tab} {c : Con tb.T} {l : List (Con tb.T)} (h : ConOk P tb c) (hl : ∀ cn ∈ l, ConOk P tb cn) : ∀ cn ∈ c :: l, ConOk P tb cn := fun cn hm => by
 rcases List.mem_cons.1 hm with e | e
 ·subst e; exact h
 ·exact hl cn e
def rNo : Rep Unit where
 sz := 1
 im _ cs _ := cs = [.bool true]
 wf _ := True
 mono _ h := h
 len h := by rw [h]; rfl
 one h := by rw [h]; intro u hu; simp only [List.mem_singleton] at hu; subst hu; rfl
def rNone (α : Type) : Rep α where
 sz := 1
 im _ _ _ := False
 wf _ := True
 mono _ h := h
 len h := h.elim
 one h := h.elim
theorem set_back {cs : List Value} {i : Nat} {v u : Value} (h : cs[i]? = some v) : cs = (cs.set i u).set i v := by
 rw [List.set_set]
 obtain ⟨hi, rfl⟩ := List.getElem?_eq_some_iff.1 h
 exact (List.set_getElem_self hi).symm
def wfS (x : List UInt8) : Prop := x.length ≤ 9223372036854775807
def wfI (_ : Int) : Prop := True
def mpStr {T : Nat → Type} {rep : ∀ n, Rep (T n)} (k n : Nat) (g : Bool) (to : T k → List (List UInt8 × T n)) (of : List (List UInt8 × T n) → T k) : MP T rep k where
 α := List UInt8
 b := inferInstance
 K := kStr
 wf := wfS
 av x := .str x
 va a := match a with
  | .str x => some x
  | _ => none
 ktd td := match td with
  | .string => true
  | _ => false
 n := n
 g := g
 to := to
 of := of
def mpInt {T : Nat → Type} {rep : ∀ n, Rep (T n)} (k n : Nat) (g : Bool) (to : T k → List (Int × T n)) (of : List (Int × T n) → T k) : MP T rep k where
 α := Int
 b := inferInstance
 K := kI64
 wf := wfI
 av x := .i64 x
 va a := match a with
  | .i64 x => some x
  | _ => none
 ktd td := match td with
  | .int .i64 => true
  | _ => false
 n := n
 g := g
 to := to
 of := of
theorem mpStr_ok {tb : Tab} {k n : Nat} {g : Bool} {to : tb.T k → List (List UInt8 × tb.T n)} {of : List (List UInt8 × tb.T n) → tb.T k} (h1 : ∀ x v u, tb.gi k x v u = mapG kStr wfS (tb.rep n) g (to x) v) (h2 : ∀ l, to (of l) = l) (d : MP tb.T tb.rep k) (hd : d = mpStr k n g to of) :
  (∀ x v u, tb.gi k x v u = @mapG d.α (tb.T d.n) d.b d.K d.wf (tb.rep d.n) d.g (d.to x) v) ∧ (∀ l, d.to (d.of l) = l) ∧ (∀ (η : List Value) (m : Mem) (a : AV tb.T) (x : d.α) (v : Value), d.va a = some x → R tb η m a v → v = d.K.fk x ∧ d.wf x) ∧
  (∀ (η : List Value) (m : Mem) (x : d.α), d.wf x → R tb η m (d.av x) (d.K.fk x)) ∧ ∀ td, d.ktd td = true → td = d.K.td := by
 subst hd
 refine ⟨h1, h2, fun η m a x v h hr => ?_, fun η m x h => ⟨rfl, h⟩, fun td h => ?_⟩
 ·cases a <;> first | (cases h; done) | skip
  cases h
  exact hr
 ·cases td <;> first | rfl | cases h
theorem mpInt_ok {tb : Tab} {k n : Nat} {g : Bool} {to : tb.T k → List (Int × tb.T n)} {of : List (Int × tb.T n) → tb.T k} (h1 : ∀ x v u, tb.gi k x v u = mapG kI64 wfI (tb.rep n) g (to x) v) (h2 : ∀ l, to (of l) = l) (d : MP tb.T tb.rep k) (hd : d = mpInt k n g to of) :
  (∀ x v u, tb.gi k x v u = @mapG d.α (tb.T d.n) d.b d.K d.wf (tb.rep d.n) d.g (d.to x) v) ∧ (∀ l, d.to (d.of l) = l) ∧ (∀ (η : List Value) (m : Mem) (a : AV tb.T) (x : d.α) (v : Value), d.va a = some x → R tb η m a v → v = d.K.fk x ∧ d.wf x) ∧
  (∀ (η : List Value) (m : Mem) (x : d.α), d.wf x → R tb η m (d.av x) (d.K.fk x)) ∧ ∀ td, d.ktd td = true → td = d.K.td := by
 subst hd
 refine ⟨h1, h2, fun η m a x v h hr => ?_, fun η m x h => rfl, fun td h => ?_⟩
 ·cases a <;> first | (cases h; done) | skip
  cases h
  exact ⟨hr, trivial⟩
 ·cases td with
  | int k => cases k <;> first | rfl | cases h
  | _ => cases h
section
variable {T : Nat → Type}
def gI64 : AV T → Option Int
 | .i64 x => some x
 | _ => none
def gU8 : AV T → Option UInt8
 | .u8 x => some x
 | _ => none
def gBool : AV T → Option Bool
 | .bool x => some x
 | _ => none
def gStr : AV T → Option (List UInt8)
 | .str x => some x
 | _ => none
def gSl (n : Nat) : AV T → Option (List (T n))
 | .sl n' x => castL n n' x
 | .nils => some []
 | _ => none
end
section
variable {tb : Tab} {η : List Value} {m : Mem} {a : AV tb.T} {v : Value}
theorem gI64_ok {x : Int} (h : gI64 a = some x) (hr : R tb η m a v) : v = .int .i64 x := by
 unfold gI64 at h; split at h <;> cases h; exact hr
theorem gU8_ok {x : UInt8} (h : gU8 a = some x) (hr : R tb η m a v) : v = .int .u8 (x.toNat : Int) := by
 unfold gU8 at h; split at h <;> cases h; exact hr
theorem gBool_ok {x : Bool} (h : gBool a = some x) (hr : R tb η m a v) : v = .bool x := by
 unfold gBool at h; split at h <;> cases h; exact hr
theorem gStr_ok {x : List UInt8} (h : gStr a = some x) (hr : R tb η m a v) : v = .string ⟨x.toArray⟩ ∧ x.length ≤ 9223372036854775807 := by
 unfold gStr at h; split at h <;> cases h; exact hr
theorem gSl_ok {n : Nat} {x : List (tb.T n)} (h : gSl n a = some x) (hr : R tb η m a v) : ∃ A c, v = .slice A x.length c ∧ SlI (tb.rep n) m A c x := by
 unfold gSl at h
 split at h
 ·rename_i n' l
  exact castL_cases h (M := fun k l => ∃ A c, v = .slice A l.length c ∧ SlI (tb.rep k) m A c l) hr
 ·cases h
  exact ⟨none, 0, hr, SlI.nil _ _⟩
 ·cases h
end
def rPt {α : Type} (r : Rep α) : Rep α where
 sz := 1
 im m cs x := ∃ (A : Addr) (ds : List Value), cs = [.pointer (some A)] ∧ CsM m (some A) ds ∧ r.im m ds x
 wf _ := True
 mono := fun hs ⟨A, ds, h1, h2, h3⟩ => ⟨A, ds, h1, h2.mono hs, r.mono hs h3⟩
 len := fun ⟨A, ds, h1, _⟩ => by rw [h1]; rfl
 one := fun ⟨A, ds, h1, _⟩ => by rw [h1]; intro u hu; simp only [List.mem_singleton] at hu; subst hu; rfl
def imPt {T : Nat → Type} {α : Type} (f : List (AV T) → Option α) : List (AV T) → Option α
 | [.cells o l] => cond (Nat.beq o 0) (f l) none
 | _ => none
theorem ptIm {tb : Tab} {α : Type} {r : Rep α} {f : List (AV tb.T) → Option α} (hf : ∀ {l : List (AV tb.T)} {x : α} {η : List Value} {m : Mem} {vs : List Value}, f l = some x → RL tb η m l vs → r.im m vs x) {av : List (AV tb.T)} {x : α} {η : List Value} {m : Mem} {vs : List Value}
  (h : imPt f av = some x) (hr : RL tb η m av vs) : (rPt r).im m vs x := by
 unfold imPt at h
 split at h
 ·rename_i o l
  cases ho : Nat.beq o 0 with
  | false => rw [ho] at h; cases h
  | true =>
   rw [ho] at h
   obtain ⟨v, rfl, A, cs, h1, h2, h3⟩ := RL.one hr
   have := Nat.eq_of_beq_eq_true ho
   subst this
   exact ⟨A, cs, by rw [h1]; simp [Addr.add], h2, hf h h3⟩
 ·cases h
theorem ptEx {tb : Tab} {α : Type} {r : Rep α} {g : α → List (AV tb.T)} (hg : ∀ {x : α} {η : List Value} {m : Mem} {vs : List Value}, r.im m vs x → RL tb η m (g x) vs) {x : α} {η : List Value} {m : Mem} {vs : List Value} (h : (rPt r).im m vs x) : RL tb η m [.cells 0 (g x)] vs := by
 obtain ⟨A, ds, rfl, h2, h3⟩ := h
 exact RL.mk1 (a := .cells 0 (g x)) ⟨A, ds, by simp [Addr.add], h2, hg h3⟩
end Go.Proofs.YtkleajhiihbefaaGreatDoor.K.E
set_option linter.unusedVariables false
set_option linter.unusedSimpArgs false
set_option linter.unusedSectionVars false
namespace Go.Proofs.YtkleajhiihbefaaGreatDoor.K.E
open Go Go.RowKit
def ixb (l : List UInt8) (c : UInt8) : Option Int := some (Lib.indexByte l c)
theorem ixb_ok {P : Program} {tb : Tab} {f : FuncId} {fn : Func} (hf : P.funcs[f]? = some fn) (hname : (fn.name == "runtime.NumGoroutine") = false) (hb : fn.body.isNone = true) (hn : Extern.findNext fn = none) (he : Extern.find fn = some Extern.BytealgIndexByte.indexByte) :
  ConOk P tb ⟨f, sh [.str, .u8], sh [.i64], 1, [], [], fun x => ixb x.1 x.2⟩ := by
 intro st x y hy η m w F vals hr hlen has gl hs hd
 have hr : RL tb η m [.str x.1, .u8 x.2] vals := hr
 obtain ⟨v0, r0, rfl, ⟨e0, _⟩, v1, r1, rfl, e1, e2⟩ := hr
 have e1 : v1 = _ := e1
 have e2 : r1 = [] := e2
 subst e0 e1 e2
 have hy : some (Lib.indexByte x.1 x.2) = some y := hy
 cases hy
 refine .inr ⟨.int .i64 (Lib.indexByte x.1 x.2), w, ?_, [], m, [.int .i64 (Lib.indexByte x.1 x.2)], [], rfl, rfl, ⟨_, _, rfl, rfl, rfl⟩, by rw [List.append_nil]; rfl, St.start has hs hd, rfl⟩
 show (callFunc f #[.string ⟨x.1.toArray⟩, .int .u8 (x.2.toNat : Int)]).run P w = _
 rw [run_callFunc_extern hf hname hb hn he, Lib.run_indexByteString]
 simp
 exact congrArg _ (UInt8.ofNat_toNat ..)
def ctb (l : List UInt8) (c : UInt8) : Option Int := some ((l.count c : Nat) : Int)
theorem ctb_ok {P : Program} {tb : Tab} {f : FuncId} {fn : Func} (hf : P.funcs[f]? = some fn) (hname : (fn.name == "runtime.NumGoroutine") = false) (hb : fn.body.isNone = true) (hn : Extern.findNext fn = none) (he : Extern.find fn = some Extern.BytealgCount.count) :
  ConOk P tb ⟨f, sh [.str, .u8], sh [.i64], 1, [], [], fun x => ctb x.1 x.2⟩ := by
 intro st x y hy η m w F vals hr hlen has gl hs hd
 have hr : RL tb η m [.str x.1, .u8 x.2] vals := hr
 obtain ⟨v0, r0, rfl, ⟨e0, _⟩, v1, r1, rfl, e1, e2⟩ := hr
 have e1 : v1 = _ := e1
 have e2 : r1 = [] := e2
 subst e0 e1 e2
 have hy : some ((List.count (α := UInt8) x.2 x.1 : Nat) : Int) = some y := hy
 cases hy
 refine .inr ⟨.int .i64 ((List.count (α := UInt8) x.2 x.1 : Nat) : Int), w, ?_, [], m, [.int .i64 ((List.count (α := UInt8) x.2 x.1 : Nat) : Int)], [], rfl, rfl, ⟨_, _, rfl, rfl, rfl⟩, by rw [List.append_nil]; rfl, St.start has hs hd, rfl⟩
 show (callFunc f #[.string ⟨x.1.toArray⟩, .int .u8 (x.2.toNat : Int)]).run P w = _
 rw [run_callFunc_extern hf hname hb hn he, Lib.run_countString]
 unfold Lib.countByte
 have e : ∀ c : UInt8, (c.toNat : Int).toNat.toUInt8 = c := fun c => by simp
 rw [e x.2]
 rfl
theorem ConOk.congr {P : Program} {tb : Tab} {f : FuncId} {ar os : Sh} {nr : Nat} {bk : List (Nat × TypeId)} {rk : List Nat} {F G : ar.ty tb.T → Option (os.ty tb.T)} (h : ConOk P tb ⟨f, ar, os, nr, bk, rk, F⟩) (e : ∀ x, G x = F x) : ConOk P tb ⟨f, ar, os, nr, bk, rk, G⟩ := by
 rw [show G = F from funext e]
 exact h
theorem clone_eq (x : List UInt8) : app [] x = cond x.isEmpty (fork (some []) (Option.bind (app ([] : List UInt8) x) fun z => some z)) (Option.bind (app ([] : List UInt8) x) fun z => some z) := by
 have e : (Option.bind (app ([] : List UInt8) x) fun z => some z) = app [] x := by cases app ([] : List UInt8) x <;> rfl
 rw [e]
 cases x with
 | nil =>
  have e2 : app ([] : List UInt8) [] = some [] := rfl
  rw [e2, fork_same]
  rfl
 | cons => rfl
theorem ConOk.law {P : Program} {tb : Tab} {f : FuncId} {ar : Sh} {F : ar.ty tb.T → Option ((sh [.bool]).ty tb.T)} (h : ConOk P tb ⟨f, ar, sh [.bool], 1, [], [], F⟩) (hcall : ∀ args w, (callFunc f args).run P w = .ok (.enter f args) w)
  {m : Mem} {w : World} (hm : Has m w) (hg : Glob tb m) (x : ar.ty tb.T) (vals : List Value) (hargs : RL tb [] m (up tb 0 ar x 0).1 vals) (h0 : (up tb 0 ar x 0).2.2 = 0) (h1 : (up tb 0 ar x 0).2.1 = []) {r : Bool} (hf : F x = some r) :
  Calls P f vals.toArray w fun e w' => ∃ v, e = .returned v ∧ v = .bool r ∧ Go.Proofs.YtkleajhiihbefaaGreatDoor.K.Ex w w' := by
 have hc := h 0 x r hf [] m w noF vals hargs h0.symm hm hg (by rw [h1]; exact fun _ h => h) (fun _ h => h.elim)
 rcases hc with ⟨_, hc⟩ | ⟨v, w', hv, _⟩
 ·refine hc.mono fun e w' ⟨v, he, η2, m', rv, bv, hv, hl, hr, _, hS, _⟩ => ?_
  refine ⟨v, he, ?_, hS.dropAll.scalar⟩
  have hr : RL tb ([] ++ η2) m' [.bool r] (rv ++ bv) := hr
  obtain ⟨v1, r1, e1, e2, e3⟩ := hr
  have e2 : v1 = .bool r := e2
  have e3 : r1 = [] := e3
  subst e2 e3
  match rv, hl, e1 with
  | [u], _, e1 =>
   simp only [List.cons_append, List.nil_append, List.cons.injEq] at e1
   obtain ⟨rfl, _⟩ := e1
   rw [hv]; rfl
 ·have := (hcall vals.toArray w).symm.trans hv
  cases this
theorem ConOk.plain {P : Program} {tb : Tab} {f : FuncId} {ar os : Sh} {nr : Nat} {F : ar.ty tb.T → Option (os.ty tb.T)} (h : ConOk P tb ⟨f, ar, os, nr, [], [], F⟩) (hcall : ∀ args w, (callFunc f args).run P w = .ok (.enter f args) w)
  {m : Mem} {w : World} (hm : Has m w) (hg : Glob tb m) (x : ar.ty tb.T) (vals : List Value) (hargs : RL tb [] m (up tb 0 ar x 0).1 vals) (h0 : (up tb 0 ar x 0).2.2 = 0) (h1 : (up tb 0 ar x 0).2.1 = []) {y : os.ty tb.T} (hf : F x = some y)
  (rvs : List Value) (hn : rvs.length = nr) (hr : ∀ (η : List Value) (m : Mem) (vs : List Value), RL tb η m (up tb 0 os y 0).1 vs → vs = rvs) :
  Calls P f vals.toArray w fun e w' => ∃ v, e = .returned v ∧ v = packV rvs ∧ Go.Proofs.YtkleajhiihbefaaGreatDoor.K.Ex w w' := by
 have hc := h 0 x y hf [] m w noF vals hargs h0.symm hm hg (by rw [h1]; exact fun _ h => h) (fun _ h => h.elim)
 rcases hc with ⟨_, hc⟩ | ⟨v, w', hv, _⟩
 ·refine hc.mono fun e w' ⟨v, he, η2, m', rv, bv, hv, hl, hr', _, hS, _⟩ => ?_
  refine ⟨v, he, ?_, hS.dropAll.scalar⟩
  have e1 := hr _ _ _ hr'
  have e2 : (rv ++ bv).length = nr := by rw [e1, hn]
  have hl : rv.length = nr := hl
  rw [List.length_append, hl] at e2
  have : bv = [] := List.length_eq_zero_iff.1 (by omega)
  subst this
  rw [List.append_nil] at e1
  rw [hv, e1]
 ·have := (hcall vals.toArray w).symm.trans hv
  cases this
end Go.Proofs.YtkleajhiihbefaaGreatDoor.K.E
set_option linter.unusedVariables false
namespace Go.Proofs.YtkleajhiihbefaaGreatDoor.K.E
def ltC {α : Type} (cmp : α → α → Option Int) (x y : α) : Bool := match cmp x y with
 | some v => decide (v < 0)
 | none => false
def insC {α : Type} (lt : α → α → Bool) (x : α) : List α → List α
 | [] => [x]
 | y :: l => cond (lt y x) (y :: insC lt x l) (x :: y :: l)
def isort {α : Type} (lt : α → α → Bool) : List α → List α
 | [] => []
 | x :: l => insC lt x (isort lt l)
def sortOk {α : Type} [DecidableEq α] (cmp : α → α → Option Int) (l : List α) : Bool := l.all fun x => !ltC cmp x x && l.all fun y => (cmp x y).isSome && ((ltC cmp x y || (ltC cmp y x || decide (x = y))) && l.all fun z => (!(ltC cmp x y && ltC cmp y z) || ltC cmp x z) && (ltC cmp x y || (ltC cmp y z || !ltC cmp x z)))
def sortBy {α : Type} [DecidableEq α] (cmp : α → α → Option Int) (l : List α) : Option (List α) := cond (Nat.blt l.length 4611686018427387904 && sortOk cmp l) (some (isort (ltC cmp) l)) none
structure SortSpec {α : Type} (cmp : α → α → Option Int) (l l' : List α) : Prop where
 len : l.length < 4611686018427387904
 all : ∀ x ∈ l, ∀ y ∈ l, (cmp x y).isSome = true
 irr : ∀ x ∈ l, ltC cmp x x = false
 tr : ∀ x ∈ l, ∀ y ∈ l, ∀ z ∈ l, ltC cmp x y = true → ltC cmp y z = true → ltC cmp x z = true
 ntr : ∀ x ∈ l, ∀ y ∈ l, ∀ z ∈ l, ltC cmp x y = false → ltC cmp y z = false → ltC cmp x z = false
 uniq : ∀ l'', l''.Perm l → l''.Pairwise (fun a b => ltC cmp b a = false) → l'' = l'
theorem insC_perm {α : Type} (lt : α → α → Bool) (x : α) : ∀ l : List α, (insC lt x l).Perm (x :: l)
 | [] => List.Perm.refl _
 | y :: l => by
  unfold insC
  cases lt y x with
  | true => exact ((insC_perm lt x l).cons y).trans (List.Perm.swap x y l)
  | false => exact List.Perm.refl _
theorem isort_perm {α : Type} (lt : α → α → Bool) : ∀ l : List α, (isort lt l).Perm l
 | [] => List.Perm.refl _
 | x :: l => (insC_perm lt x _).trans ((isort_perm lt l).cons x)
theorem insC_sorted {α : Type} {lt : α → α → Bool} {p : α → Prop} (irr : ∀ x, p x → lt x x = false) (tr : ∀ x y z, p x → p y → p z → lt x y = true → lt y z = true → lt x z = true) (ntr : ∀ x y z, p x → p y → p z → lt x y = false → lt y z = false → lt x z = false) {x : α} (hx : p x) : ∀ {l : List α}, (∀ y ∈ l, p y) → l.Pairwise (fun a b => lt b a = false) → (insC lt x l).Pairwise (fun a b => lt b a = false)
 | [], _, _ => by simp [insC]
 | y :: l, hp, h => by
  rw [List.pairwise_cons] at h
  have hy := hp y (List.mem_cons_self ..)
  unfold insC
  cases hb : lt y x with
  | true =>
   simp only [cond_true, List.pairwise_cons]
   refine ⟨fun z hz => ?_, insC_sorted irr tr ntr hx (fun z hz => hp z (List.mem_cons_of_mem _ hz)) h.2⟩
   rcases List.mem_cons.1 ((insC_perm lt x l).mem_iff.1 hz) with rfl | hz
   ·cases hc : lt z y with
    | false => rfl
    | true => have := tr _ _ _ hy hx hy hb hc; rw [irr y hy] at this; cases this
   ·exact h.1 z hz
  | false =>
   simp only [cond_false, List.pairwise_cons]
   refine ⟨fun z hz => ?_, h.1, h.2⟩
   rcases List.mem_cons.1 hz with rfl | hz
   ·exact hb
   ·exact ntr z y x (hp z (List.mem_cons_of_mem _ hz)) hy hx (h.1 z hz) hb
theorem isort_sorted {α : Type} {lt : α → α → Bool} {p : α → Prop} (irr : ∀ x, p x → lt x x = false) (tr : ∀ x y z, p x → p y → p z → lt x y = true → lt y z = true → lt x z = true) (ntr : ∀ x y z, p x → p y → p z → lt x y = false → lt y z = false → lt x z = false) : ∀ {l : List α}, (∀ y ∈ l, p y) → (isort lt l).Pairwise (fun a b => lt b a = false)
 | [], _ => by simp [isort]
 | x :: l, hp => by
  unfold isort
  refine insC_sorted irr tr ntr (hp x (List.mem_cons_self ..)) (fun y hy => hp y (List.mem_cons_of_mem _ ((isort_perm lt l).mem_iff.1 hy))) (isort_sorted irr tr ntr (fun y hy => hp y (List.mem_cons_of_mem _ hy)))
theorem sorted_uniq {α : Type} {lt : α → α → Bool} : ∀ {l l' : List α}, (∀ x ∈ l, ∀ y ∈ l, lt x y = false → lt y x = false → x = y) → l.Perm l' → l.Pairwise (fun a b => lt b a = false) → l'.Pairwise (fun a b => lt b a = false) → l = l'
 | [], l', _, hp, _, _ => (List.Perm.nil_eq hp).symm ▸ rfl
 | x :: l, [], _, hp, _, _ => by have := hp.length_eq; simp at this
 | x :: l, y :: l', ha, hp, h1, h2 => by
  rw [List.pairwise_cons] at h1 h2
  have hxy : x = y := by
   have hy : y ∈ x :: l := hp.mem_iff.2 (List.mem_cons_self ..)
   have hx : x ∈ y :: l' := hp.mem_iff.1 (List.mem_cons_self ..)
   rcases List.mem_cons.1 hy with e | hy'
   ·exact e.symm
   ·rcases List.mem_cons.1 hx with e | hx'
    ·exact e
    ·exact ha x (List.mem_cons_self ..) y hy (h2.1 x hx') (h1.1 y hy')
  subst hxy
  rw [sorted_uniq (fun a h b h' => ha a (List.mem_cons_of_mem _ h) b (List.mem_cons_of_mem _ h')) (List.perm_cons x |>.1 hp) h1.2 h2.2]
theorem sortBy_spec {α : Type} [DecidableEq α] {cmp : α → α → Option Int} {l l' : List α} (h : sortBy cmp l = some l') : SortSpec cmp l l' := by
 unfold sortBy at h
 cases hb0 : (Nat.blt l.length 4611686018427387904 && sortOk cmp l) with
 | false => rw [hb0] at h; cases h
 | true =>
  rw [hb0] at h
  cases h
  rw [Bool.and_eq_true] at hb0
  have hb := hb0.2
  have hlen : l.length < 4611686018427387904 := Nat.le_of_ble_eq_true hb0.1
  have key : ∀ x ∈ l, ltC cmp x x = false ∧ ∀ y ∈ l, (cmp x y).isSome = true ∧ (ltC cmp x y = true ∨ ltC cmp y x = true ∨ x = y) ∧ ∀ z ∈ l, ((ltC cmp x y = true → ltC cmp y z = true → ltC cmp x z = true) ∧ (ltC cmp x y = false → ltC cmp y z = false → ltC cmp x z = false)) := by
   intro x hx
   have h1 := List.all_eq_true.1 hb x hx
   simp only [Bool.and_eq_true, Bool.not_eq_true'] at h1
   refine ⟨h1.1, fun y hy => ?_⟩
   have h2 := List.all_eq_true.1 h1.2 y hy
   simp only [Bool.and_eq_true, Bool.or_eq_true, decide_eq_true_eq] at h2
   refine ⟨h2.1, h2.2.1, fun z hz => ?_⟩
   have h3 := List.all_eq_true.1 h2.2.2 z hz
   clear h1 h2 hb hb0
   generalize ltC cmp x y = a at h3 ⊢
   generalize ltC cmp y z = b at h3 ⊢
   generalize ltC cmp x z = c at h3 ⊢
   cases a <;> cases b <;> cases c <;> simp_all
  have hp := isort_perm (ltC cmp) l
  refine ⟨hlen, fun x hx y hy => ((key x hx).2 y hy).1, fun x hx => (key x hx).1, fun x hx y hy z hz => (((key x hx).2 y hy).2.2 z hz).1, fun x hx y hy z hz => (((key x hx).2 y hy).2.2 z hz).2, fun l'' h1 h2 => ?_⟩
  refine sorted_uniq (lt := ltC cmp) ?_ (h1.trans hp.symm) h2 (isort_sorted (p := fun x => x ∈ l) (fun x hx => (key x hx).1) (fun x y z hx hy hz => (((key x hx).2 y hy).2.2 z hz).1) (fun x y z hx hy hz => (((key x hx).2 y hy).2.2 z hz).2) (fun y hy => hy))
  intro x hx y hy e1 e2
  rcases ((key x (h1.mem_iff.1 hx)).2 y (h1.mem_iff.1 hy)).2.1 with h | h | h
  ·rw [e1] at h; cases h
  ·rw [e2] at h; cases h
  ·exact h
end Go.Proofs.YtkleajhiihbefaaGreatDoor.K.E
set_option linter.unusedVariables false
set_option linter.unusedSimpArgs false
set_option linter.unusedSectionVars false
namespace Go.Proofs.YtkleajhiihbefaaGreatDoor.K.E
open Go Go.RowKit Go.Sort
theorem ex_grow {w w' : World} (h : Go.Proofs.YtkleajhiihbefaaGreatDoor.K.Ex w w') : ∃ q os, w' = grow (w.drewN q) os := by
 refine ⟨w'.drawn - w.drawn, w'.heap.extract w.heap.size w'.heap.size, ?_⟩
 obtain ⟨h1, h2, h3, h4, h5, h6⟩ := h
 have hh : w'.heap = w.heap ++ w'.heap.extract w.heap.size w'.heap.size := by
  apply Array.ext_getElem?
  intro k
  by_cases hk : k < w.heap.size
  ·rw [h5 k hk (fun e => e), Array.getElem?_append, if_pos hk]
  ·rw [Array.getElem?_append, if_neg hk, Array.getElem?_extract]
   by_cases hk2 : k < w'.heap.size
   ·rw [if_pos (by omega), show w.heap.size + (k - w.heap.size) = k by omega]
   ·rw [if_neg (by omega), Array.getElem?_eq_none (by omega)]
 cases w
 cases w'
 simp only [grow, World.drewN] at *
 subst h1 h2 h3
 rw [← hh]
 congr 1
 omega
section
variable {α : Type} [Inhabited α] {enc : α → List Value} {k : Nat}
theorem flat_get (hk : ∀ x, (enc x).length = k) (h0 : 0 < k) : ∀ (l : List α) (t : Nat), t < l.length * k → (l.map enc).flatten[t]? = some ((enc (l[t / k]!))[t % k]!)
 | [], t, h => by simp at h
 | x :: l, t, h => by
  rw [List.map_cons, List.flatten_cons]
  by_cases ht : t < k
  ·rw [List.getElem?_append_left (by rw [hk]; exact ht), Nat.div_eq_of_lt ht, Nat.mod_eq_of_lt ht]
   simp [List.getElem?_eq_getElem (show t < (enc x).length by rw [hk]; exact ht), List.getElem!_eq_getElem?_getD]
  ·have h1 : t / k = (t - k) / k + 1 := by
    rw [Nat.div_eq_sub_div h0 (by omega)]
   have h2 : t % k = (t - k) % k := by rw [Nat.mod_eq_sub_mod (by omega)]
   rw [List.getElem?_append_right (by rw [hk]; omega), hk, flat_get hk h0 l (t - k) (by rw [List.length_cons, Nat.add_mul] at h; omega), h1, h2]
   simp
theorem flatK_list (hk : ∀ x, (enc x).length = k) (h0 : 0 < k) (d : Array α) : (Go.Sort.flatK enc k d).toList = (d.toList.map enc).flatten := by
 have hl : (d.toList.map enc).flatten.length = d.size * k := by
  rw [List.length_flatten, List.map_map]
  have : (d.toList.map (List.length ∘ enc)) = List.replicate d.size k := by
   rw [List.eq_replicate_iff]
   refine ⟨by simp, fun b hb => ?_⟩
   obtain ⟨x, _, rfl⟩ := List.mem_map.1 hb
   exact hk x
  rw [this]
  simp
 apply List.ext_getElem?
 intro t
 by_cases ht : t < d.size * k
 ·rw [flat_get hk h0 _ _ (by simpa using ht)]
  simp only [Go.Sort.flatK, Array.toList_map, Array.toList_range, List.getElem?_map, List.getElem?_range ht, Option.map_some]
  have e : d[t / k]! = d.toList[t / k]! := by
   rw [List.getElem!_eq_getElem?_getD, Array.getElem?_toList, Array.getElem!_eq_getD, Array.getD_eq_getD_getElem?]
  rw [e]
 ·rw [List.getElem?_eq_none (by simp [Go.Sort.flatK]; omega), List.getElem?_eq_none (by omega)]
end
theorem take_putCells (cur : Array Value) (vs : Array Value) (h : vs.size ≤ cur.size) : (putCells id 0 vs cur).toList.take vs.size = vs.toList := by
 apply List.ext_getElem?
 intro j
 by_cases hj : j < vs.size
 ·rw [List.getElem?_take_of_lt hj, Array.getElem?_toList]
  simp [putCells, hj, show j < cur.size by omega]
 ·rw [List.getElem?_take_eq_none (by omega), List.getElem?_eq_none (by simp; omega)]
def CmpOk (P : Program) (tb : Tab) (g n : Nat) (cmp : tb.T n → tb.T n → Option Int) : Prop := ∀ (x y : tb.T n) (v : Int), cmp x y = some v → ∀ (m : Mem) (w : World) (cs ds : List Value), Has m w → Glob tb m → (tb.rep n).im m cs x → (tb.rep n).im m ds y →
 Calls P g #[.agg cs.toArray, .agg ds.toArray] w fun e w' => e = .returned (.int .i64 v) ∧ Go.Proofs.YtkleajhiihbefaaGreatDoor.K.Ex w w'
abbrev Elt (tb : Tab) (m : Mem) (n : Nat) (l : List (tb.T n)) := { p : List Value × tb.T n // (tb.rep n).im m p.1 p.2 ∧ p.2 ∈ l }
theorem elts {tb : Tab} {m : Mem} {n : Nat} {l : List (tb.T n)} : ∀ {xs : List Value} {l' : List (tb.T n)}, Rows (tb.rep n) m xs l' → (∀ x ∈ l', x ∈ l) → ∃ ds : List (Elt tb m n l), (ds.map (·.1.1)).flatten = xs ∧ ds.map (·.1.2) = l'
 | xs, [], h, _ => ⟨[], by rw [show xs = [] from h]; rfl, rfl⟩
 | xs, x :: l', ⟨cs, ys, h1, h2, h3⟩, hl => by
  obtain ⟨ds, e1, e2⟩ := elts h3 (fun y hy => hl y (List.mem_cons_of_mem _ hy))
  exact ⟨⟨(cs, x), h2, hl x (List.mem_cons_self ..)⟩ :: ds, by rw [List.map_cons, List.flatten_cons, e1, h1], by rw [List.map_cons, e2]⟩
theorem rows_elts {tb : Tab} {m : Mem} {n : Nat} {l : List (tb.T n)} : ∀ ds : List (Elt tb m n l), Rows (tb.rep n) m (ds.map (·.1.1)).flatten (ds.map (·.1.2))
 | [] => rfl
 | d :: ds => ⟨d.1.1, (ds.map (·.1.1)).flatten, by rw [List.map_cons, List.flatten_cons], d.2.1, rows_elts ds⟩
theorem heap_world {α : Type} [Inhabited α] (enc : α → List Value) (k : Nat) (w : World) (g n : Nat) (d : Array α) (os : Array Obj) {j : Nat} (hj : j < w.heap.size) (hne : j ≠ g) : (sortWorldK enc k w g 0 n d os).heap[j]? = w.heap[j]? := by
 unfold sortWorldK putRowK
 rw [heap_grow_old _ _ (by simpa [putRow, mapBlock, Sort.ahead] using hj)]
 simp [putRow, mapBlock, Sort.ahead, Array.getElem?_modify, hne.symm]
theorem sort_ok {P : Program} {tb : Tab} (T : TabOk tb) {ρ : Go.Shelf.Ren} (L : Go.Proofs.SlLaysF0.n6 P ρ) {f g n t : Nat} (hf : ρ.f 6 = f) (aE : ∀ w, (isAgg (ρ.t 24)).run P w = .ok true w) (zE : ∀ w, (Go.sizeOf (ρ.t 24)).run P w = .ok (tb.rep n).sz w) (h0 : 0 < (tb.rep n).sz)
  (hcall : ∀ args w, (callFunc f args).run P w = .ok (.enter f args) w) (eg : ∀ args w, (callFunc g args).run P w = .ok (.enter g args) w) {cmp : tb.T n → tb.T n → Option Int} {S : List (tb.T n) → Option (List (tb.T n))} (hS : ∀ l l', S l = some l' → SortSpec cmp l l')
  (hc : CmpOk P tb g n cmp) :
  ConOk P tb ⟨f, sh [.row n t, .fn g 0 .nil], sh [.row n t], 0, [], [0], fun x => S x.1⟩ := by
 subst hf
 intro st x y hy η m w F vals hr hlen has gl hs hd
 obtain ⟨l, u⟩ := x
 have hr : RL tb η m [.row 0, .fn g [] []] vals := hr
 have hlen : η.length = 1 := hlen
 have hs : Sep m w (its tb η [(0, st, .row n t l)]) F := hs
 have hy : S l = some y := hy
 have spec := hS l y hy
 obtain ⟨v0, r0, rfl, ⟨e0, _⟩, hr1⟩ := hr
 obtain ⟨v1, rfl, xs1, ys1, rfl, hx1, hy1⟩ := hr1.one
 have hx1 : xs1 = [] := hx1
 have hy1 : ys1 = [] := hy1
 subst hx1 hy1
 obtain ⟨F1, F2, ⟨A, c, e1, ⟨xs, h1, hown⟩, hF⟩, h2, h3, h4⟩ := hs
 rw [e0] at e1
 cases e1
 have hη : η = [.slice A l.length c] := by
  match η, hlen, e0 with
  | [u], _, e => simp at e; rw [e]
 have fin : ∀ {w' : World} {xs' : List Value}, Kp F w w' → Rows (tb.rep n) m xs' y → y.length = l.length → w'.ownsRow 0 t (tb.rep n).sz (.slice A l.length c) l.length xs' →
   ∃ (η2 : List Value) (m' : Mem) (rv bv : List Value), Value.tuple #[] = packV rv ∧ rv.length = 0 ∧ RL tb (η ++ η2) m' (up tb st (sh [.row n t]) y η.length).1 (rv ++ bv) ∧ (η ++ η2).length = (up tb st (sh [.row n t]) y η.length).2.2 ∧
   St w F m m' (bkV [.slice A l.length c, .func (.func g) #[] #[]] [] bv ++ its tb (η ++ η2) (up tb st (sh [.row n t]) y η.length).2.1) w' ∧ bv.drop 0 = [0].map (fun j => ([.slice A l.length c, .func (.func g) #[] #[]] : List Value)[j]?.getD undef) := by
  intro w' xs' hkp hrows hlen' hown'
  subst hη
  refine ⟨[.slice A l.length c], m, [], [.slice A l.length c], rfl, rfl, ?_, rfl, ?_, rfl⟩
  ·exact RL.mk1 (a := .row 1) ⟨rfl, rfl⟩
  ·have hmem : Has m w' := has.kp hkp hd
   refine ⟨hkp, Sub.refl _, hmem, fun _ _ e => .inl e, F1, ⟨F1, fun _ => False, ⟨A, c, by rw [hlen']; rfl, ⟨xs', hrows, by rw [hlen']; exact hown'⟩, fun k => by rw [hlen']; exact hF k⟩, fun _ e => e, fun _ _ e => e, fun k => ⟨.inl, fun e => e.elim id False.elim⟩⟩, fun k e => hd k ((h4 k).2 (.inl e)), fun k e => .inl ((h4 k).2 (.inl e))⟩
 refine .inl ⟨hcall _ _, ?_⟩
 cases hl : l with
 | nil =>
  subst hl
  have hyn : y = [] := (spec.uniq [] (List.Perm.refl _) (by simp)).symm
  subst hyn
  refine (Go.Proofs.AnyF.slices_SortFunc_none { L with } A c _ w).mono ?_
  rintro e w' ⟨rfl, rfl⟩
  exact ⟨_, rfl, fin (Kp.refl _ _) h1 rfl hown⟩
 | cons a0 l0 =>
  have hlpos : 0 < l.length := by rw [hl]; simp
  rw [← hl]
  obtain ⟨g0, cur, hA, hb, hg, hcs, htk, hnc, hcm⟩ := own_blk hown hlpos
  subst hA
  obtain ⟨ds, d1, d2⟩ := elts (l := l) h1 (fun x hx => hx)
  have hdl : ds.length = l.length := by have := congrArg List.length d2; simpa using this
  let dflt : Elt tb m n l := ds[0]'(by omega)
  letI : Inhabited (Elt tb m n l) := ⟨dflt⟩
  let enc : Elt tb m n l → List Value := fun p => p.1.1
  let cf : Elt tb m n l → Elt tb m n l → Int := fun p q => (cmp p.1.2 q.1.2).getD 0
  have hk : ∀ x, (enc x).length = (tb.rep n).sz := fun x => (tb.rep n).len x.2.1
  have h1c : ∀ x, ∀ v ∈ enc x, v.oneCell' = true := fun x v hv => (tb.rep n).one x.2.1 v hv
  have hcf : ∀ p q : Elt tb m n l, cmp p.1.2 q.1.2 = some (cf p q) := fun p q => by
   obtain ⟨v, hv⟩ := Option.isSome_iff_exists.1 (spec.all _ p.2.2 _ q.2.2)
   show cmp p.1.2 q.1.2 = some ((cmp p.1.2 q.1.2).getD 0)
   rw [hv]; rfl
  have hlt : ∀ p q : Elt tb m n l, Go.Proofs.ltOf cf p q = ltC cmp p.1.2 q.1.2 := fun p q => by
   unfold Go.Proofs.ltOf ltC
   rw [hcf p q]
  have hO : SWO (Go.Proofs.ltOf cf) := ⟨fun x => by rw [hlt]; exact spec.irr _ x.2.2, fun x y z a b => by rw [hlt] at *; exact spec.tr _ x.2.2 _ y.2.2 _ z.2.2 a b, fun x y z a b => by rw [hlt] at *; exact spec.ntr _ x.2.2 _ y.2.2 _ z.2.2 a b⟩
  have hds : ds.toArray.size = l.length := by simpa using hdl
  have hflat : (Go.Sort.flatK enc (tb.rep n).sz ds.toArray).toList = xs := by rw [flatK_list hk h0]; exact d1
  have hxl : xs.length = l.length * (tb.rep n).sz := h1.len
  have hblk : g0 < w.heap.size := blk_lt hg
  have hH : HoldsK enc (tb.rep n).sz w g0 0 ds.toArray := by
   intro j hj
   have hj' : j < xs.length := by rw [← hflat]; simpa using hj
   refine ⟨?_, by simp [World.frozen?, hg]⟩
   simp only [World.cell?, hg, Nat.zero_add, Option.isSome_none, Bool.false_eq_true, if_false]
   have h5 : (cur.toList.take (l.length * (tb.rep n).sz))[j]? = xs[j]? := by rw [htk]
   rw [List.getElem?_take_of_lt (by omega), Array.getElem?_toList] at h5
   rw [h5, ← hflat, Array.getElem?_toList]
   simp only [id_eq]
   rw [getElem!_pos _ j hj, Array.getElem?_eq_getElem hj]
  have hF0 : ∀ k, F k ↔ k = g0 := fun k => by
   rw [h4 k, hF k]
   exact ⟨fun e => e.elim (fun e => by cases e; rfl) (fun e => (h2 k e).elim), fun e => .inl (by rw [e]; rfl)⟩
  have hm0 : m g0 = none := hd g0 ((hF0 g0).2 rfl)
  have hcmp : Go.Proofs.CmpLays P g #[] enc (tb.rep n).sz cf g0 0 ds.toArray.size w := by
   intro mm os dk hdk x y
   have hasW : Has m (sortWorldK enc (tb.rep n).sz w g0 0 mm dk os) := fun j o e => by
    rw [heap_world _ _ _ _ _ _ _ (has.lt e) (fun e2 => by rw [e2, hm0] at e; cases e)]
    exact has j o e
   refine (hc x.1.2 y.1.2 (cf x y) (hcf x y) m _ x.1.1 y.1.1 hasW gl x.2.1 y.2.1).mono ?_
   rintro e w' ⟨rfl, hex⟩
   exact ⟨rfl, ex_grow hex⟩
  have key := Go.Proofs.AnyQ.slices_SortFunc L (tb.rep n).sz aE zE enc hk h1c cf hO g #[] g0 0 c ds.toArray w eg hcmp hH hblk (by rw [hds]; exact spec.len)
  rw [hds] at key
  refine key.mono ?_
  rintro e w' ⟨rfl, d', nn, os, hperm, hsort, rfl⟩
  obtain ⟨p1, p2, p3⟩ := hperm
  have hds' : d'.size = l.length := by rw [p1, hds]
  have e5 : d'.extract 0 l.length = d' := by
   rw [← hds']; exact Array.extract_size
  have e6 : ds.toArray.extract 0 l.length = ds.toArray := by
   rw [← hds]; exact Array.extract_size
  rw [e5, e6] at p3
  have hy2 : d'.toList.map (·.1.2) = y := by
   refine spec.uniq _ ?_ ?_
   ·have := p3.map (fun p : Elt tb m n l => p.1.2)
    rw [show (ds.toArray.toList.map fun p : Elt tb m n l => p.1.2) = l from d2] at this
    exact this
   ·rw [List.pairwise_map, List.pairwise_iff_getElem]
    intro i j hi hj hij
    have := hsort i j (Nat.zero_le _) hij (by rw [← hds']; simpa using hj)
    rw [hlt, getElem!_pos d' j (by simpa using hj), getElem!_pos d' i (by simpa using hi)] at this
    simpa using this
  have hyl : y.length = l.length := by rw [← hy2, List.length_map, Array.length_toList, hds']
  have hheap : (sortWorldK enc (tb.rep n).sz w g0 0 nn d' os).heap[g0]? = some (.cells (putCells id 0 (Go.Sort.flatK enc (tb.rep n).sz d') cur) t (0, 0)) := by
   unfold sortWorldK putRowK
   rw [heap_grow_old _ _ (by simpa [putRow, mapBlock, Sort.ahead] using hblk)]
   simp [putRow, mapBlock, Sort.ahead, Array.getElem?_modify, hg, onCells]
  have hfs : (Go.Sort.flatK enc (tb.rep n).sz d').size = l.length * (tb.rep n).sz := by rw [size_flatK, hds']
  have hle : l.length * (tb.rep n).sz ≤ cur.size := by rw [hcs]; exact Nat.mul_le_mul_right _ hnc
  have hkp : Kp F w (sortWorldK enc (tb.rep n).sz w g0 0 nn d' os) := by
   refine ⟨rfl, rfl, rfl, ?_, fun k hk hn => heap_world _ _ _ _ _ _ _ hk (fun e => hn ((hF0 k).2 e)), ?_⟩
   ·simp [sortWorldK, putRowK, putRow, mapBlock, Sort.ahead, grow]
   ·show w.drawn ≤ w.drawn + nn; exact Nat.le_add_right _ _
  refine ⟨_, rfl, fin hkp (xs' := (d'.toList.map enc).flatten) ?_ hyl ?_⟩
  ·rw [← hy2]; exact rows_elts d'.toList
  ·refine ⟨by rw [← flatK_list hk h0, Array.length_toList, hfs], .inr ⟨g0, c, _, rfl, hb, hheap, hnc, hcm, ?_, ?_⟩⟩
   ·simp [putCells, hcs]
   ·rw [← hfs, take_putCells _ _ (by rw [hfs]; exact hle), flatK_list hk h0]
end Go.Proofs.YtkleajhiihbefaaGreatDoor.K.E
set_option linter.unusedVariables false
set_option linter.unusedSimpArgs false
set_option linter.unusedSectionVars false
namespace Go.Proofs.YtkleajhiihbefaaGreatDoor.K.E
open Go Go.RowKit Go.Sort
theorem RL.two {tb : Tab} {η : List Value} {m : Mem} {a b : AV tb.T} {x y : Value} (h : RL tb η m [a] [x]) (h' : RL tb η m [b] [y]) : RL tb η m [a, b] [x, y] := h.app h'
def Cmp1Ok (P : Program) (tb : Tab) (g n : Nat) (cmp : tb.T n → tb.T n → Option Int) : Prop := ∀ (x y : tb.T n) (v : Int), cmp x y = some v → ∀ (m : Mem) (w : World) (a b : Value), Has m w → Glob tb m → (tb.rep n).im m [a] x → (tb.rep n).im m [b] y →
 Calls P g #[a, b] w fun e w' => e = .returned (.int .i64 v) ∧ Go.Proofs.YtkleajhiihbefaaGreatDoor.K.Ex w w'
theorem heap_world1 {α : Type} [Inhabited α] (enc : α → Value) (w : World) (g n : Nat) (d : Array α) (os : Array Obj) {j : Nat} (hj : j < w.heap.size) (hne : j ≠ g) : (sortWorld enc w g 0 n d os).heap[j]? = w.heap[j]? := by
 unfold sortWorld
 rw [heap_grow_old _ _ (by simpa [putRow, mapBlock, Sort.ahead] using hj)]
 simp [putRow, mapBlock, Sort.ahead, Array.getElem?_modify, hne.symm]
theorem take_putCells1 {α : Type} [Inhabited α] (enc : α → Value) (cur : Array Value) (d : Array α) (h : d.size ≤ cur.size) : (putCells enc 0 d cur).toList.take d.size = d.toList.map enc := by
 apply List.ext_getElem?
 intro j
 by_cases hj : j < d.size
 ·rw [List.getElem?_take_of_lt hj, Array.getElem?_toList, List.getElem?_map, Array.getElem?_toList]
  simp [putCells, hj, show j < cur.size by omega]
 ·rw [List.getElem?_take_eq_none (by omega), List.getElem?_eq_none (by simp; omega)]
theorem sort1_ok {P : Program} {tb : Tab} (T : TabOk tb) {ρ : Go.Shelf.Ren} (L : Go.Proofs.SlLaysF.n6 P ρ) {f g n t : Nat} (hf : ρ.f 6 = f) (h0 : (tb.rep n).sz = 1)
  (hcall : ∀ args w, (callFunc f args).run P w = .ok (.enter f args) w) (eg : ∀ args w, (callFunc g args).run P w = .ok (.enter g args) w) {cmp : tb.T n → tb.T n → Option Int} {S : List (tb.T n) → Option (List (tb.T n))} (hS : ∀ l l', S l = some l' → SortSpec cmp l l')
  (hc : Cmp1Ok P tb g n cmp) :
  ConOk P tb ⟨f, sh [.row n t, .fn g 0 .nil], sh [.row n t], 0, [], [0], fun x => S x.1⟩ := by
 subst hf
 intro st x y hy η m w F vals hr hlen has gl hs hd
 obtain ⟨l, u⟩ := x
 have hr : RL tb η m [.row 0, .fn g [] []] vals := hr
 have hlen : η.length = 1 := hlen
 have hs : Sep m w (its tb η [(0, st, .row n t l)]) F := hs
 have hy : S l = some y := hy
 have spec := hS l y hy
 obtain ⟨v0, r0, rfl, ⟨e0, _⟩, hr1⟩ := hr
 obtain ⟨v1, rfl, xs1, ys1, rfl, hx1, hy1⟩ := hr1.one
 have hx1 : xs1 = [] := hx1
 have hy1 : ys1 = [] := hy1
 subst hx1 hy1
 obtain ⟨F1, F2, ⟨A, c, e1, ⟨xs, h1, hown⟩, hF⟩, h2, h3, h4⟩ := hs
 rw [e0] at e1
 cases e1
 have hη : η = [.slice A l.length c] := by
  match η, hlen, e0 with
  | [u], _, e => simp at e; rw [e]
 have fin : ∀ {w' : World} {xs' : List Value}, Kp F w w' → Rows (tb.rep n) m xs' y → y.length = l.length → w'.ownsRow 0 t (tb.rep n).sz (.slice A l.length c) l.length xs' →
   ∃ (η2 : List Value) (m' : Mem) (rv bv : List Value), Value.tuple #[] = packV rv ∧ rv.length = 0 ∧ RL tb (η ++ η2) m' (up tb st (sh [.row n t]) y η.length).1 (rv ++ bv) ∧ (η ++ η2).length = (up tb st (sh [.row n t]) y η.length).2.2 ∧
   St w F m m' (bkV [.slice A l.length c, .func (.func g) #[] #[]] [] bv ++ its tb (η ++ η2) (up tb st (sh [.row n t]) y η.length).2.1) w' ∧ bv.drop 0 = [0].map (fun j => ([.slice A l.length c, .func (.func g) #[] #[]] : List Value)[j]?.getD undef) := by
  intro w' xs' hkp hrows hlen' hown'
  subst hη
  refine ⟨[.slice A l.length c], m, [], [.slice A l.length c], rfl, rfl, ?_, rfl, ?_, rfl⟩
  ·exact RL.mk1 (a := .row 1) ⟨rfl, rfl⟩
  ·have hmem : Has m w' := has.kp hkp hd
   refine ⟨hkp, Sub.refl _, hmem, fun _ _ e => .inl e, F1, ⟨F1, fun _ => False, ⟨A, c, by rw [hlen']; rfl, ⟨xs', hrows, by rw [hlen']; exact hown'⟩, fun k => by rw [hlen']; exact hF k⟩, fun _ e => e, fun _ _ e => e, fun k => ⟨.inl, fun e => e.elim id False.elim⟩⟩, fun k e => hd k ((h4 k).2 (.inl e)), fun k e => .inl ((h4 k).2 (.inl e))⟩
 refine .inl ⟨hcall _ _, ?_⟩
 cases hl : l with
 | nil =>
  subst hl
  have hyn : y = [] := (spec.uniq [] (List.Perm.refl _) (by simp)).symm
  subst hyn
  refine (Go.Proofs.AnyF.slices_SortFunc_none { L with } A c _ w).mono ?_
  rintro e w' ⟨rfl, rfl⟩
  exact ⟨_, rfl, fin (Kp.refl _ _) h1 rfl hown⟩
 | cons a0 l0 =>
  have hlpos : 0 < l.length := by rw [hl]; simp
  rw [← hl]
  obtain ⟨g0, cur, hA, hb, hg, hcs, htk, hnc, hcm⟩ := own_blk hown hlpos
  subst hA
  obtain ⟨ds, d1, d2⟩ := elts (l := l) h1 (fun x hx => hx)
  have hdl : ds.length = l.length := by have := congrArg List.length d2; simpa using this
  let dflt : Elt tb m n l := ds[0]'(by omega)
  letI : Inhabited (Elt tb m n l) := ⟨dflt⟩
  let enc : Elt tb m n l → Value := fun p => p.1.1.headD undef
  let cf : Elt tb m n l → Elt tb m n l → Int := fun p q => (cmp p.1.2 q.1.2).getD 0
  have he1 : ∀ x : Elt tb m n l, x.1.1 = [enc x] := fun x => by
   have h5 := (tb.rep n).len x.2.1
   rw [h0] at h5
   show x.1.1 = [x.1.1.headD undef]
   match x.1.1, h5 with
   | [u], _ => rfl
  have h1c : OneCell enc := fun x => (tb.rep n).one x.2.1 _ (by rw [he1 x]; exact List.mem_singleton.2 rfl)
  have hcf : ∀ p q : Elt tb m n l, cmp p.1.2 q.1.2 = some (cf p q) := fun p q => by
   obtain ⟨v, hv⟩ := Option.isSome_iff_exists.1 (spec.all _ p.2.2 _ q.2.2)
   show cmp p.1.2 q.1.2 = some ((cmp p.1.2 q.1.2).getD 0)
   rw [hv]; rfl
  have hlt : ∀ p q : Elt tb m n l, Go.Proofs.ltOf cf p q = ltC cmp p.1.2 q.1.2 := fun p q => by
   unfold Go.Proofs.ltOf ltC
   rw [hcf p q]
  have hO : SWO (Go.Proofs.ltOf cf) := ⟨fun x => by rw [hlt]; exact spec.irr _ x.2.2, fun x y z a b => by rw [hlt] at *; exact spec.tr _ x.2.2 _ y.2.2 _ z.2.2 a b, fun x y z a b => by rw [hlt] at *; exact spec.ntr _ x.2.2 _ y.2.2 _ z.2.2 a b⟩
  have hds : ds.toArray.size = l.length := by simpa using hdl
  have flat1 : ∀ e : List (Elt tb m n l), (e.map (·.1.1)).flatten = e.map enc := fun e => by
   induction e with
   | nil => rfl
   | cons a r ih => rw [List.map_cons, List.flatten_cons, ih, he1 a]; rfl
  have hxs : xs = ds.map enc := by rw [← d1, flat1]
  have hblk : g0 < w.heap.size := blk_lt hg
  rw [h0, Nat.mul_one] at hcs htk
  have hH : Holds enc w g0 0 ds.toArray := by
   intro j hj
   have hj' : j < ds.length := by simpa using hj
   refine ⟨?_, by simp [World.frozen?, hg]⟩
   simp only [World.cell?, hg, Nat.zero_add, Option.isSome_none, Bool.false_eq_true, if_false]
   have h5 : (cur.toList.take l.length)[j]? = xs[j]? := by rw [htk]
   rw [List.getElem?_take_of_lt (by omega), Array.getElem?_toList] at h5
   rw [h5, hxs, List.getElem?_map, List.getElem?_eq_getElem hj', getElem!_pos _ j hj]
   simp
  have hF0 : ∀ k, F k ↔ k = g0 := fun k => by
   rw [h4 k, hF k]
   exact ⟨fun e => e.elim (fun e => by cases e; rfl) (fun e => (h2 k e).elim), fun e => .inl (by rw [e]; rfl)⟩
  have hm0 : m g0 = none := hd g0 ((hF0 g0).2 rfl)
  have hcmp : Go.Proofs.CmpLays1 P g #[] enc cf g0 0 ds.toArray.size w := by
   intro mm os dk hdk x y
   have hasW : Has m (sortWorld enc w g0 0 mm dk os) := fun j o e => by
    rw [heap_world1 _ _ _ _ _ _ (has.lt e) (fun e2 => by rw [e2, hm0] at e; cases e)]
    exact has j o e
   refine (hc x.1.2 y.1.2 (cf x y) (hcf x y) m _ (enc x) (enc y) hasW gl (by rw [← he1 x]; exact x.2.1) (by rw [← he1 y]; exact y.2.1)).mono ?_
   rintro e w' ⟨rfl, hex⟩
   exact ⟨rfl, ex_grow hex⟩
  have key := Go.Proofs.Any.slices_SortFunc L enc h1c cf hO g #[] g0 0 c ds.toArray w eg hcmp hH hblk (by rw [hds]; exact spec.len)
  rw [hds] at key
  refine key.mono ?_
  rintro e w' ⟨rfl, d', nn, os, hperm, hsort, rfl⟩
  obtain ⟨p1, p2, p3⟩ := hperm
  have hds' : d'.size = l.length := by rw [p1, hds]
  have e5 : d'.extract 0 l.length = d' := by
   rw [← hds']; exact Array.extract_size
  have e6 : ds.toArray.extract 0 l.length = ds.toArray := by
   rw [← hds]; exact Array.extract_size
  rw [e5, e6] at p3
  have hy2 : d'.toList.map (·.1.2) = y := by
   refine spec.uniq _ ?_ ?_
   ·have := p3.map (fun p : Elt tb m n l => p.1.2)
    rw [show (ds.toArray.toList.map fun p : Elt tb m n l => p.1.2) = l from d2] at this
    exact this
   ·rw [List.pairwise_map, List.pairwise_iff_getElem]
    intro i j hi hj hij
    have := hsort i j (Nat.zero_le _) hij (by rw [← hds']; simpa using hj)
    rw [hlt, getElem!_pos d' j (by simpa using hj), getElem!_pos d' i (by simpa using hi)] at this
    simpa using this
  have hyl : y.length = l.length := by rw [← hy2, List.length_map, Array.length_toList, hds']
  have hheap : (sortWorld enc w g0 0 nn d' os).heap[g0]? = some (.cells (putCells enc 0 d' cur) t (0, 0)) := by
   unfold sortWorld
   rw [heap_grow_old _ _ (by simpa [putRow, mapBlock, Sort.ahead] using hblk)]
   simp [putRow, mapBlock, Sort.ahead, Array.getElem?_modify, hg, onCells]
  have hle : l.length ≤ cur.size := by rw [hcs]; exact hnc
  have hkp : Kp F w (sortWorld enc w g0 0 nn d' os) := by
   refine ⟨rfl, rfl, rfl, ?_, fun k hk hn => heap_world1 _ _ _ _ _ _ hk (fun e => hn ((hF0 k).2 e)), ?_⟩
   ·simp [sortWorld, putRow, mapBlock, Sort.ahead, grow]
   ·show w.drawn ≤ w.drawn + nn; exact Nat.le_add_right _ _
  refine ⟨_, rfl, fin hkp (xs' := d'.toList.map enc) ?_ hyl ?_⟩
  ·rw [← hy2, ← flat1]; exact rows_elts d'.toList
  ·refine ⟨by rw [List.length_map, Array.length_toList, hds', h0, Nat.mul_one], .inr ⟨g0, c, _, rfl, hb, hheap, hnc, hcm, ?_, ?_⟩⟩
   ·rw [h0]; simp [putCells, hcs]
   ·rw [h0, Nat.mul_one, ← hds', take_putCells1 _ _ _ (by rw [hds']; exact hle)]
end Go.Proofs.YtkleajhiihbefaaGreatDoor.K.E
