/- E, part 11: any operation; regions. -/
import Derived.Test.YtbldeodchhfjfaaGreatDoorE10
set_option linter.unusedVariables false
set_option linter.unusedSimpArgs false
set_option linter.unusedSectionVars false
namespace Go.Proofs.YtbldeodchhfjfaaGreatDoor.K.E
open Go Go.RowKit

def memA {T : Nat → Type} : AV T → Bool
  | .row _ => true
  | .ptr _ _ => true
  | .elt _ _ _ _ => true
  | _ => false
def isCells {T : Nat → Type} : AV T → Bool
  | .cells _ _ => true
  | _ => false
def isStrA {T : Nat → Type} : AV T → Bool
  | .str _ => true
  | _ => false
section
variable (P : Program) (tb : Tab) (cs : List (Con tb.T)) {ρ : Type}
def callE (o : Oper) (c : Call) (s : S tb.T) (k : KO tb.T ρ) : Option ρ := match c.callee with
  | .builtin .append => match evL (evA s.κ) c.args.toList, c.argTypes.toList with
    | some [a, b], [t, t2] => appM P tb t t2 a b s k
    | _, _ => none
  | .builtin .len => match evL (evA s.κ) c.args.toList, c.argTypes.toList with
    | some [a], [t] => cond (memA a) (lenM P tb t a s k) (opB P tb (evA s.κ) o (fun v => k v s))
    | _, _ => none
  | .builtin _ => opB P tb (evA s.κ) o (fun v => k v s)
  | .value f => match evA s.κ f, evL (evA s.κ) c.args.toList with
    | some (.fn g l cap), some as => tryC tb g (l ++ as ++ cap) s k cs
    | _, _ => none
  | .invoke _ _ => none
def opE0 (o : Oper) (s : S tb.T) (k : KO tb.T ρ) : Option ρ := match o.op with
  | .alloc _ => newM P tb o.op s k
  | .box _ _ => newM P tb o.op s k
  | .buildSlice _ _ _ => newM P tb o.op s k
  | .makeSlice t l c => makM P tb t l c s k
  | .store t x y => match evA s.κ x, evA s.κ y with
    | some a, some b => storeM P tb t a b s k
    | _, _ => none
  | .load t x => match evA s.κ x with
    | some a => cond (memA a) (loadM P tb t a s k) (opB P tb (evA s.κ) o (fun v => k v s))
    | none => none
  | .indexAddr t x y => match evA s.κ x, evA s.κ y with
    | some a, some b => cond (memA a || isCells a) (idxM P tb t a b s k) (opB P tb (evA s.κ) o (fun v => k v s))
    | _, _ => none
  | .slice t x lo hi none => match evA s.κ x with
    | some a => cond (memA a) (sliceM P tb t a lo hi s k) (opB P tb (evA s.κ) o (fun v => k v s))
    | none => none
  | .convert sT d x => match evA s.κ x with
    | some a => cond (memA a || (isStrA a && (slcE P d).isSome)) (convM P tb sT d a s k) (opB P tb (evA s.κ) o (fun v => k v s))
    | none => none
  | .call c => callE P tb cs o c s k
  | _ => opB P tb (evA s.κ) o (fun v => k v s)
noncomputable def opE (o : Oper) (s : S tb.T) (k : KO tb.T ρ) : Option ρ := match isGen P tb o s with
  | true => genR P tb o s k
  | false => opE0 P tb cs o s k
/-- The operation, or none if its guard says so. -/
def guardE (ops : Array Oper) (o : Oper) (s : S tb.T) (run skip : S tb.T → Option ρ) : Option ρ := match o.guard with
  | none => run s
  | some (j, want) => match ops[j]? with
    | none => none
    | some oj => match oj.dst with
      | none => none
      | some d => match lk s.κ d with
        | some (_, .bool b) => match want with
          | true => cond b (run (s.put (some d) (.bool true))) (skip (s.put (some d) (.bool false)))
          | false => cond b (skip (s.put (some d) (.bool true))) (run (s.put (some d) (.bool false)))
        | some (_, .tup _) => skip s
        | some (_, .lit (.tuple _)) => skip s
        | _ => none
def fitE (nt : Nat) (o : Oper) (s : S tb.T) : Bool := dok o.dst nt && (noSel o.op && o.op.operands.all fun x => (evA s.κ x).isSome)
noncomputable def stepE (nt : Nat) (ops : Array Oper) (o : Oper) (s : S tb.T) (K : S tb.T → Option ρ) : Option ρ :=
  guardE tb ops o s (fun s => cond (fitE tb nt o s) (opE P tb cs o s (fun v s => K (s.put o.dst v))) none) (fun s => cond (dok o.dst nt) (K (s.put o.dst undA)) none)
noncomputable def seqE (nt : Nat) (ops : Array Oper) : List Oper → S tb.T → (S tb.T → Option ρ) → Option ρ
  | [], s, K => K s
  | o :: r, s, K => stepE P tb cs nt ops o s (fun s => seqE nt ops r s K)
end
section
variable {P : Program} {tb : Tab} {cs : List (Con tb.T)} {bs : Bs} {η : List Value} {m : Mem} {s : S tb.T} {w : World} {κc : Kn} {B : Code} {n : Cx} {p : List Nat} {i : Nat} {o : Oper} {ρ' : Type} {k : KO tb.T ρ'} {ans : ρ'}
theorem exec_call {ρ : Operand → Value} {c : Call} {f : Operand} {g : FuncId} {xs ys : List Value} (h : o.op = .call c) (hc : c.callee = .value f) (hf : ρ f = .func (.func g) xs.toArray ys.toArray) : execOp ρ o = callFunc g (xs ++ c.args.toList.map ρ ++ ys).toArray := by
  unfold execOp
  rw [h]
  simp only [resolve, hc, Deferred.ofValue, hf]
  show callFunc g _ = _
  congr 1
  apply Array.ext'
  simp
theorem arr1 {α : Type} {a : Array α} {x : α} (h : a.toList = [x]) : a = #[x] := by rw [← Array.toArray_toList (xs := a), h]
theorem arr2 {α : Type} {a : Array α} {x y : α} (h : a.toList = [x, y]) : a = #[x, y] := by rw [← Array.toArray_toList (xs := a), h]
theorem callE_step (T : TabOk tb) (C : ∀ cn ∈ cs, ConOk P tb cn) (hw : Wd tb bs η m s w) (hk : KR tb η m s.κ κc) (fo : fetch B n p i κc = some (o.dst, execOp (evT κc) o)) {c : Call} (ho : o.op = .call c) (h : callE P tb cs o c s k = some ans) :
    Step P B n p i κc w (YX tb bs η m o.dst s k ans κc) := by
  unfold callE at h
  split at h
  · rename_i hc
    split at h
    · rename_i a b t t2 has hts
      have hr := evL_ok hk.ev has
      obtain ⟨x, r, e1, e2, e3⟩ := hr
      obtain ⟨y, rfl, e4⟩ := e3.one
      have ht := arr2 hts
      have ha : c.args.map (evT κc) = #[x, y] := by
        apply Array.ext'
        rw [Array.toList_map, e1]
      rw [exec_builtin ho hc, ht, ha] at fo
      exact appM_step hw hk T (ty := o.type) fo e2 e4 h
    · cases h
  · rename_i hc
    split at h
    · rename_i a t has hts
      have hr := evL_ok hk.ev has
      obtain ⟨x, e1, e2⟩ := hr.one
      have ht := arr1 hts
      have ha : c.args.map (evT κc) = #[x] := by
        apply Array.ext'
        rw [Array.toList_map, e1]
      cases hm : memA a with
      | true =>
        rw [hm] at h
        rw [exec_builtin ho hc, ht, ha] at fo
        exact lenM_step hw hk (ty := o.type) fo e2 h
      | false => rw [hm] at h; exact opB_step hw hk fo T h
    · cases h
  · exact opB_step hw hk fo T h
  · rename_i f hc
    split at h
    · rename_i g l cap as hf has
      obtain ⟨xs, ys, e1, e2, e3⟩ := hk.ev _ _ hf
      rw [exec_call ho hc e1] at fo
      exact tryC_step T hw hk fo ((e2.app (evL_ok hk.ev has)).app e3) cs C h
    · cases h
  · cases h
theorem opE0_step (T : TabOk tb) (C : ∀ cn ∈ cs, ConOk P tb cn) (hw : Wd tb bs η m s w) (hk : KR tb η m s.κ κc) (fo : fetch B n p i κc = some (o.dst, execOp (evT κc) o)) (h : opE0 P tb cs o s k = some ans) :
    Step P B n p i κc w (YX tb bs η m o.dst s k ans κc) := by
  unfold opE0 at h
  split at h
  · exact newM_step hw hk fo h
  · exact newM_step hw hk fo h
  · exact newM_step hw hk fo h
  · rename_i t l c ho; exact makM_step T hw hk fo ho h
  · rename_i t x y ho
    split at h
    · rename_i a b ha hb
      have fo2 := fo
      rw [exec_store ho] at fo2
      exact storeM_step hw hk fo T fo2 (hk.ev _ _ ha) (hk.ev _ _ hb) h
    · cases h
  · rename_i t x ho
    split at h
    · rename_i a ha
      cases hm : memA a with
      | true => rw [hm] at h; have fo2 := fo; rw [exec_load ho] at fo2; exact loadM_step hw hk fo T fo2 (hk.ev _ _ ha) h
      | false => rw [hm] at h; exact opB_step hw hk fo T h
    · cases h
  · rename_i t x y ho
    split at h
    · rename_i a b ha hb
      cases hm : (memA a || isCells a) with
      | true => rw [hm] at h; rw [exec_indexAddr ho] at fo; exact idxM_step hw hk T fo (hk.ev _ _ ha) (hk.ev _ _ hb) h
      | false => rw [hm] at h; exact opB_step hw hk fo T h
    · cases h
  · rename_i t x lo hi ho
    split at h
    · rename_i a ha
      cases hm : memA a with
      | true => rw [hm] at h; rw [exec_slice ho] at fo; exact sliceM_step hw hk T fo (hk.ev _ _ ha) h
      | false => rw [hm] at h; exact opB_step hw hk fo T h
    · cases h
  · rename_i sT d x ho
    split at h
    · rename_i a ha
      cases hm : (memA a || (isStrA a && (slcE P d).isSome)) with
      | true => rw [hm] at h; rw [exec_convert ho] at fo; exact convM_step hw hk T fo (hk.ev _ _ ha) h
      | false => rw [hm] at h; exact opB_step hw hk fo T h
    · cases h
  · rename_i c ho
    exact callE_step T C hw hk fo ho h
  · exact opB_step hw hk fo T h
theorem opE_step (T : TabOk tb) (C : ∀ cn ∈ cs, ConOk P tb cn) (hw : Wd tb bs η m s w) (hk : KR tb η m s.κ κc) (fo : fetch B n p i κc = some (o.dst, execOp (evT κc) o)) (h : opE P tb cs o s k = some ans) :
    Step P B n p i κc w (YX tb bs η m o.dst s k ans κc) := by
  unfold opE at h
  cases hg : isGen P tb o s with
  | true => rw [hg] at h; exact genR_step T hw hk fo h
  | false => rw [hg] at h; exact opE0_step T C hw hk fo h
end
end Go.Proofs.YtbldeodchhfjfaaGreatDoor.K.E
