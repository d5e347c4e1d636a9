/- E, part 17: a law out of its function's contract. -/
import Derived.Test.YtbldeodchhfjfaaGreatDoorE16
set_option linter.unusedVariables false
set_option linter.unusedSimpArgs false
set_option linter.unusedSectionVars false
namespace Go.Proofs.YtbldeodchhfjfaaGreatDoor.K.E
open Go Go.RowKit

/-- internal/bytealg.IndexByteString. -/
def ixb (l : List UInt8) (c : UInt8) : Option Int := some (Lib.indexByte l c)
theorem ixb_ok {P : Program} {tb : Tab} {f : FuncId} {fn : Func} (hf : P.funcs[f]? = some fn) (hname : (fn.name == "runtime.NumGoroutine") = false) (hb : fn.body.isNone = true) (hn : Extern.findNext fn = none) (he : Extern.find fn = some Extern.BytealgIndexByte.indexByte) :
    ConOk P tb ⟨f, sh [.str, .u8], sh [.i64], 1, [], [], fun x => ixb x.1 x.2⟩ := by
  intro st x y hy η m w F vals hr hlen has gl hs hd
  have hr : RL tb η m [.str x.1, .u8 x.2] vals := hr
  obtain ⟨v0, r0, rfl, ⟨e0, _⟩, v1, r1, rfl, e1, e2⟩ := hr
  have e1 : v1 = _ := e1
  have e2 : r1 = [] := e2
  subst e0 e1 e2
  have hy : some (Lib.indexByte x.1 x.2) = some y := hy
  cases hy
  refine .inr ⟨.int .i64 (Lib.indexByte x.1 x.2), w, ?_, [], m, [.int .i64 (Lib.indexByte x.1 x.2)], [], rfl, rfl, ⟨_, _, rfl, rfl, rfl⟩, by rw [List.append_nil]; rfl, St.start has hs hd, rfl⟩
  show (callFunc f #[.string ⟨x.1.toArray⟩, .int .u8 (x.2.toNat : Int)]).run P w = _
  rw [run_callFunc_extern hf hname hb hn he, Lib.run_indexByteString]
  simp
  exact congrArg _ (UInt8.ofNat_toNat ..)
/-- internal/bytealg.CountString. -/
def ctb (l : List UInt8) (c : UInt8) : Option Int := some ((l.count c : Nat) : Int)
theorem ctb_ok {P : Program} {tb : Tab} {f : FuncId} {fn : Func} (hf : P.funcs[f]? = some fn) (hname : (fn.name == "runtime.NumGoroutine") = false) (hb : fn.body.isNone = true) (hn : Extern.findNext fn = none) (he : Extern.find fn = some Extern.BytealgCount.count) :
    ConOk P tb ⟨f, sh [.str, .u8], sh [.i64], 1, [], [], fun x => ctb x.1 x.2⟩ := by
  intro st x y hy η m w F vals hr hlen has gl hs hd
  have hr : RL tb η m [.str x.1, .u8 x.2] vals := hr
  obtain ⟨v0, r0, rfl, ⟨e0, _⟩, v1, r1, rfl, e1, e2⟩ := hr
  have e1 : v1 = _ := e1
  have e2 : r1 = [] := e2
  subst e0 e1 e2
  have hy : some ((List.count (α := UInt8) x.2 x.1 : Nat) : Int) = some y := hy
  cases hy
  refine .inr ⟨.int .i64 ((List.count (α := UInt8) x.2 x.1 : Nat) : Int), w, ?_, [], m, [.int .i64 ((List.count (α := UInt8) x.2 x.1 : Nat) : Int)], [], rfl, rfl, ⟨_, _, rfl, rfl, rfl⟩, by rw [List.append_nil]; rfl, St.start has hs hd, rfl⟩
  show (callFunc f #[.string ⟨x.1.toArray⟩, .int .u8 (x.2.toNat : Int)]).run P w = _
  rw [run_callFunc_extern hf hname hb hn he, Lib.run_countString]
  unfold Lib.countByte
  have e : ∀ c : UInt8, (c.toNat : Int).toNat.toUInt8 = c := fun c => by simp
  rw [e x.2]
  rfl
theorem ConOk.congr {P : Program} {tb : Tab} {f : FuncId} {ar os : Sh} {nr : Nat} {bk : List (Nat × TypeId)} {rk : List Nat} {F G : ar.ty tb.T → Option (os.ty tb.T)} (h : ConOk P tb ⟨f, ar, os, nr, bk, rk, F⟩) (e : ∀ x, G x = F x) : ConOk P tb ⟨f, ar, os, nr, bk, rk, G⟩ := by
  rw [show G = F from funext e]
  exact h
theorem clone_eq (x : List UInt8) : app [] x = cond x.isEmpty (fork (some []) (Option.bind (app ([] : List UInt8) x) fun z => some z)) (Option.bind (app ([] : List UInt8) x) fun z => some z) := by
  have e : (Option.bind (app ([] : List UInt8) x) fun z => some z) = app [] x := by cases app ([] : List UInt8) x <;> rfl
  rw [e]
  cases x with
  | nil =>
    have e2 : app ([] : List UInt8) [] = some [] := rfl
    rw [e2, fork_same]
    rfl
  | cons => rfl
theorem rows_u64 {m : Mem} : ∀ {l : List UInt64}, Rows rU64 m (l.map fU64) l
  | [] => rfl
  | b :: l => ⟨_, l.map fU64, rfl, rfl, rows_u64⟩
theorem rows_u8 {m : Mem} : ∀ {l : List UInt8}, Rows rU8 m (l.map fU8) l
  | [] => rfl
  | b :: l => ⟨_, l.map fU8, rfl, rfl, rows_u8⟩
theorem ConOk.law {P : Program} {tb : Tab} {f : FuncId} {ar : Sh} {F : ar.ty tb.T → Option ((sh [.bool]).ty tb.T)} (h : ConOk P tb ⟨f, ar, sh [.bool], 1, [], [], F⟩) (hcall : ∀ args w, (callFunc f args).run P w = .ok (.enter f args) w)
    {m : Mem} {w : World} (hm : Has m w) (hg : Glob tb m) (x : ar.ty tb.T) (vals : List Value) (hargs : RL tb [] m (up tb 0 ar x 0).1 vals) (h0 : (up tb 0 ar x 0).2.2 = 0) (h1 : (up tb 0 ar x 0).2.1 = []) {r : Bool} (hf : F x = some r) :
    Calls P f vals.toArray w fun e w' => ∃ v, e = .returned v ∧ v = .bool r ∧ Go.Proofs.YtbldeodchhfjfaaGreatDoor.K.Ex w w' := by
  have hc := h 0 x r hf [] m w noF vals hargs h0.symm hm hg (by rw [h1]; exact fun _ h => h) (fun _ h => h.elim)
  rcases hc with ⟨_, hc⟩ | ⟨v, w', hv, _⟩
  · refine hc.mono fun e w' ⟨v, he, η2, m', rv, bv, hv, hl, hr, _, hS, _⟩ => ?_
    refine ⟨v, he, ?_, hS.dropAll.scalar⟩
    have hr : RL tb ([] ++ η2) m' [.bool r] (rv ++ bv) := hr
    obtain ⟨v1, r1, e1, e2, e3⟩ := hr
    have e2 : v1 = .bool r := e2
    have e3 : r1 = [] := e3
    subst e2 e3
    match rv, hl, e1 with
    | [u], _, e1 =>
      simp only [List.cons_append, List.nil_append, List.cons.injEq] at e1
      obtain ⟨rfl, _⟩ := e1
      rw [hv]; rfl
  · have := (hcall vals.toArray w).symm.trans hv
    cases this
theorem ConOk.plain {P : Program} {tb : Tab} {f : FuncId} {ar os : Sh} {nr : Nat} {F : ar.ty tb.T → Option (os.ty tb.T)} (h : ConOk P tb ⟨f, ar, os, nr, [], [], F⟩) (hcall : ∀ args w, (callFunc f args).run P w = .ok (.enter f args) w)
    {m : Mem} {w : World} (hm : Has m w) (hg : Glob tb m) (x : ar.ty tb.T) (vals : List Value) (hargs : RL tb [] m (up tb 0 ar x 0).1 vals) (h0 : (up tb 0 ar x 0).2.2 = 0) (h1 : (up tb 0 ar x 0).2.1 = []) {y : os.ty tb.T} (hf : F x = some y)
    (rvs : List Value) (hn : rvs.length = nr) (hr : ∀ (η : List Value) (m : Mem) (vs : List Value), RL tb η m (up tb 0 os y 0).1 vs → vs = rvs) :
    Calls P f vals.toArray w fun e w' => ∃ v, e = .returned v ∧ v = packV rvs ∧ Go.Proofs.YtbldeodchhfjfaaGreatDoor.K.Ex w w' := by
  have hc := h 0 x y hf [] m w noF vals hargs h0.symm hm hg (by rw [h1]; exact fun _ h => h) (fun _ h => h.elim)
  rcases hc with ⟨_, hc⟩ | ⟨v, w', hv, _⟩
  · refine hc.mono fun e w' ⟨v, he, η2, m', rv, bv, hv, hl, hr', _, hS, _⟩ => ?_
    refine ⟨v, he, ?_, hS.dropAll.scalar⟩
    have e1 := hr _ _ _ hr'
    have e2 : (rv ++ bv).length = nr := by rw [e1, hn]
    have hl : rv.length = nr := hl
    rw [List.length_append, hl] at e2
    have : bv = [] := List.length_eq_zero_iff.1 (by omega)
    subst this
    rw [List.append_nil] at e1
    rw [hv, e1]
  · have := (hcall vals.toArray w).symm.trans hv
    cases this
end Go.Proofs.YtbldeodchhfjfaaGreatDoor.K.E
