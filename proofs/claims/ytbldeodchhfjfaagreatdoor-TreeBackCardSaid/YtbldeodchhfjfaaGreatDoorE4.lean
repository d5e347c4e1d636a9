/- E, part 4: operations that leave memory as it is. -/
import Derived.Test.YtbldeodchhfjfaaGreatDoorE3
set_option linter.unusedVariables false
set_option linter.unusedSimpArgs false
set_option linter.unusedSectionVars false
namespace Go.Proofs.YtbldeodchhfjfaaGreatDoor.K.E
open Go Go.RowKit

section
variable {T : Nat → Type}
def isFnA : AV T → Bool
  | .fn _ _ _ => true
  | _ => false
def lenA (P : Program) (t : TypeId) (a : AV T) : Option (AV T) := match P.underlying t with
  | some (.slice _) => match a with
    | .sl _ l => some (.i64 (l.length : Int))
    | .nils => some (.i64 0)
    | _ => none
  | some .string => match a with
    | .str l => some (.i64 (l.length : Int))
    | _ => none
  | _ => none
def callV (P : Program) (ev : Operand → Option (AV T)) (o : Oper) (c : Call) : Option (AV T) := match c.callee with
  | .builtin .len => match c.args.toList, c.argTypes.toList with
    | [x], [t] => match ev x with
      | some a => lenA P t a
      | none => none
    | _, _ => none
  | .builtin .max => fb P ev o
  | .builtin .min => fb P ev o
  | _ => none
/-- A struct of numbers. -/
def iV (l : List Int) : Value := .agg (l.map fun x => Value.int .i64 x).toArray
def intsA : List (AV T) → Option (List Int)
  | [] => some []
  | .i64 x :: r => match intsA r with
    | some l => some (x :: l)
    | none => none
  | _ => none
/-- An interface value that bears a struct of numbers. -/
def mkI (P : Program) (t : TypeId) (a : AV T) : Option (AV T) := match a with
  | .agg l => match P.underlying t with
    | some (.struct _) => match intsA l with
      | some x => some (.lit (.iface t (iV x)))
      | none => none
    | _ => none
  | _ => none
def opV (P : Program) (ev : Operand → Option (AV T)) (o : Oper) : Option (AV T) := match o.op with
  | .move x => ev x
  | .assign x => ev x
  | .nilCheck x => match ev x with
    | some a => cond (isPtr a || isFnA a) (some a) none
    | none => none
  | .extract x i => match ev x with
    | some (.tup l) => l[i]?
    | _ => fb P ev o
  | .field t x i => match ev x with
    | some a => fieldA P t i a
    | none => none
  | .build t ps => buildA P ev t ps
  | .fieldAddr t x i => match ev x with
    | some a => fAddrA P t i a
    | none => none
  | .makeFunc (.func f) first cap => match evL ev first.toList, evL ev cap.toList with
    | some l, some c => some (.fn f l c)
    | _, _ => none
  | .binOp op t x y _ => match ev x, ev y with
    | some a, some b => match binU op a b with
      | some v => some v
      | none => match nilA P op t a b with
        | some v => some v
        | none => fb P ev o
    | _, _ => none
  | .unOp op _ x => match ev x with
    | some a => match unA op a with
      | some v => some v
      | none => fb P ev o
    | none => none
  | .convert s d x => match ev x with
    | some a => match convA P s d a with
      | some v => some v
      | none => fb P ev o
    | none => none
  | .makeInterface t x => match ev x with
    | some a => mkI P t a
    | none => none
  | .pick _ _ _ => fb P ev o
  | .call c => callV P ev o c
  | _ => none
end
section
variable {P : Program} {tb : Tab} {η : List Value} {m : Mem} {ev : Operand → Option (AV tb.T)} {ρ : Operand → Value} {o : Oper} {v a b : AV tb.T} {x y : Value}
theorem exec_move {z : Operand} (h : o.op = .move z) : execOp ρ o = pure (.value (ρ z)) := by unfold execOp; rw [h]
theorem exec_assign {z : Operand} (h : o.op = .assign z) : execOp ρ o = pure (.value (ρ z)) := by unfold execOp; rw [h]
theorem exec_extract {z : Operand} {i : Nat} (h : o.op = .extract z i) : execOp ρ o = vS (Instr.extract (ρ z) i) := by unfold execOp; rw [h]; rfl
theorem exec_field {z : Operand} {t i : Nat} (h : o.op = .field t z i) : execOp ρ o = vS (Instr.field t (ρ z) i) := by unfold execOp; rw [h]; rfl
theorem exec_build {t : TypeId} {ps : Array (Nat × Operand)} (h : o.op = .build t ps) : execOp ρ o = vS (Instr.build t (ps.map fun (i, x) => (i, ρ x))) := by unfold execOp; rw [h]; rfl
theorem exec_fieldAddr {z : Operand} {t i : Nat} (h : o.op = .fieldAddr t z i) : execOp ρ o = vS (Instr.fieldAt t (ρ z) i) := by unfold execOp; rw [h]; rfl
theorem exec_makeFunc {f : Fn} {l c : Array Operand} (h : o.op = .makeFunc f l c) : execOp ρ o = vS (Instr.makeFunc f (l.map ρ) (c.map ρ)) := by unfold execOp; rw [h]; rfl
theorem exec_binOp {op : BinOp} {t yt : TypeId} {p q : Operand} (h : o.op = .binOp op t p q yt) : execOp ρ o = vS (do eqGuard op t p q (ρ p) (ρ q); binOp op t (ρ p) (ρ q)) := by unfold execOp; rw [h]; rfl
theorem exec_unOp {op : UnOp} {t : TypeId} {z : Operand} (h : o.op = .unOp op t z) : execOp ρ o = vS (Op.unary op (ρ z)) := by unfold execOp; rw [h]; rfl
theorem exec_convert {s d : TypeId} {z : Operand} (h : o.op = .convert s d z) : execOp ρ o = vS (convert s d (ρ z)) := by unfold execOp; rw [h]; rfl
theorem exec_builtin {c : Call} {b : Builtin} (h : o.op = .call c) (hc : c.callee = .builtin b) : execOp ρ o = builtin b c.argTypes o.type (c.args.map fun | .const _ => true | _ => false) (c.args.map ρ) := by
  unfold execOp; rw [h]; simp only [resolve, hc]; rfl
theorem Run0.fix {P : Program} {s : Sem Next} {u : Value} (h : ∀ w, s.run P w = .ok (.value u) w) (hr : R tb η m v u) : Run0 P tb η m s v := ⟨u, fun w _ => h w, hr⟩
theorem lenA_ok {t : TypeId} (h : lenA P t a = some v) (ha : R tb η m a x) (ty : TypeId) : Run0 P tb η m (vS (Builtin.len_ #[t] ty #[x])) v := by
  unfold lenA at h
  split at h
  · rename_i e hu
    split at h <;> cases h
    · obtain ⟨A, c, rfl, _⟩ := ha
      refine Run0.fix (fun w => vS_run ?_) rfl
      simp only [Builtin.len_, List.getElem?_toArray, List.getElem?_cons_zero, Sem.run_bind, run_und hu, Result.andThen_ok]
      rfl
    · have ha : x = _ := ha
      subst ha
      refine Run0.fix (fun w => vS_run ?_) rfl
      simp only [Builtin.len_, List.getElem?_toArray, List.getElem?_cons_zero, Sem.run_bind, run_und hu, Result.andThen_ok]
      rfl
  · rename_i hu
    split at h <;> cases h
    obtain ⟨rfl, _⟩ := ha
    refine Run0.fix (fun w => vS_run ?_) rfl
    simp only [Builtin.len_, List.getElem?_toArray, List.getElem?_cons_zero, Sem.run_bind, run_und hu, Result.andThen_ok]
    rfl
  · cases h
theorem isFn_ok (h : isFnA a = true) (ha : R tb η m a x) : ∃ f xs ys, x = .func (.func f) xs ys := by
  cases a <;> simp only [isFnA, Bool.false_eq_true] at h
  obtain ⟨xs, ys, rfl, _⟩ := ha
  exact ⟨_, _, _, rfl⟩
theorem intsA_ok : ∀ {l : List (AV tb.T)} {xs : List Int} {cs : List Value}, intsA l = some xs → RL tb η m l cs → cs = xs.map fun x => Value.int .i64 x
  | [], xs, cs, h, hr => by
    simp only [intsA, Option.some.injEq] at h; subst h; exact hr
  | a :: r, xs, cs, h, ⟨v, vs, h1, h2, h3⟩ => by
    subst h1
    unfold intsA at h
    split at h
    · rename_i e; cases e
    · rename_i x r' e
      cases e
      split at h
      · rename_i l' hl
        cases h
        have h2 : v = .int .i64 x := h2
        rw [intsA_ok hl h3, h2]; rfl
      · cases h
    · cases h
theorem opV_ok (he : Ev tb η m ev ρ) (h : opV P ev o = some v) : Run0 P tb η m (execOp ρ o) v := by
  unfold opV at h
  split at h
  · rename_i z ho
    rw [exec_move ho]; exact Run0.fix (fun _ => rfl) (he _ _ h)
  · rename_i z ho
    rw [exec_assign ho]; exact Run0.fix (fun _ => rfl) (he _ _ h)
  · rename_i z ho
    split at h
    · rename_i a ha
      have hr := he _ _ ha
      cases hc : (isPtr a || isFnA a) with
      | false => rw [hc] at h; cases h
      | true =>
        rw [hc] at h
        cases h
        refine Run0.fix (u := ρ z) (fun w => ?_) hr
        rw [Bool.or_eq_true] at hc
        rcases hc with hc | hc
        · obtain ⟨ad, hx⟩ := isPtr_ok hc hr
          unfold execOp
          rw [ho]
          simp only [hx]
          rfl
        · obtain ⟨f, xs, ys, hx⟩ := isFn_ok hc hr
          unfold execOp
          rw [ho]
          simp only [hx]
          rfl
    · cases h
  · rename_i z i ho
    split at h
    · rename_i l hl
      rw [exec_extract ho]
      obtain ⟨cs, hx, hr⟩ := he _ _ hl
      obtain ⟨u, hu, hr2⟩ := hr.get h
      refine Run0.fix (fun w => vS_run ?_) hr2
      rw [hx]
      have : cs.toArray[i]? = some u := by simpa using hu
      simp only [Instr.extract, this]
      rfl
    · exact fb_ok h he
  · rename_i t z i ho
    split at h
    · rename_i a ha
      rw [exec_field ho]; exact fieldA_ok h (he _ _ ha)
    · cases h
  · rename_i t ps ho
    rw [exec_build ho]; exact buildA_ok he h
  · rename_i t z i ho
    split at h
    · rename_i a ha
      rw [exec_fieldAddr ho]; exact fAddrA_ok h (he _ _ ha)
    · cases h
  · rename_i f l c ho
    split at h
    · rename_i as bs h1 h2
      cases h
      rw [exec_makeFunc ho]
      refine Run0.fix (u := .func (.func f) (l.map ρ) (c.map ρ)) (fun w => rfl) ⟨l.toList.map ρ, c.toList.map ρ, ?_, evL_ok he h1, evL_ok he h2⟩
      rw [← Array.toList_map, ← Array.toList_map, Array.toArray_toList, Array.toArray_toList]
    · cases h
  · rename_i op t p q yt ho
    split at h
    · rename_i a b ha hb
      split at h
      · rename_i v' hv
        cases h
        rw [exec_binOp ho]; exact binU_ok hv (he _ _ ha) (he _ _ hb)
      · split at h
        · rename_i v' hv
          cases h
          rw [exec_binOp ho]; exact nilA_ok hv (he _ _ ha) (he _ _ hb)
        · exact fb_ok h he
    · cases h
  · rename_i op t z ho
    split at h
    · rename_i a ha
      split at h
      · rename_i v' hv
        cases h
        rw [exec_unOp ho]; exact unA_ok hv (he _ _ ha)
      · exact fb_ok h he
    · cases h
  · rename_i s d z ho
    split at h
    · rename_i a ha
      split at h
      · rename_i v' hv
        cases h
        rw [exec_convert ho]; exact convA_ok hv (he _ _ ha)
      · exact fb_ok h he
    · cases h
  · rename_i t z ho
    split at h
    · rename_i a ha
      unfold mkI at h
      split at h
      · rename_i al
        split at h
        · rename_i fs hu
          split at h
          · rename_i xs hxs
            cases h
            have hr : R tb η m (.agg al) (ρ z) := he _ _ ha
            obtain ⟨cs, hx, h2⟩ := hr
            have h2 := intsA_ok hxs h2
            subst h2
            refine Run0.fix (u := .iface t (iV xs)) (fun w => ?_) rfl
            unfold execOp
            rw [ho]
            simp only [hx]
            refine vS_run ?_
            simp [Instr.makeInterface, run_underlying hu, iV]
          · cases h
        · cases h
      · cases h
    · cases h
  · exact fb_ok h he
  · rename_i c ho
    unfold callV at h
    split at h
    · rename_i hc
      split at h
      · rename_i z t hx ht
        split at h
        · rename_i a ha
          have h1 : c.args = #[z] := by rw [← Array.toArray_toList (xs := c.args), hx]
          have h2 : c.argTypes = #[t] := by rw [← Array.toArray_toList (xs := c.argTypes), ht]
          rw [exec_builtin ho hc, h1, h2, show (#[z] : Array Operand).map ρ = #[ρ z] from by simp]
          exact lenA_ok h (he _ _ ha) o.type
        · cases h
      · cases h
    · exact fb_ok h he
    · exact fb_ok h he
    · cases h
  · cases h
end
end Go.Proofs.YtbldeodchhfjfaaGreatDoor.K.E
