/- E, part 3: operations that touch no memory. -/
import Derived.Test.YtbldeodchhfjfaaGreatDoorE2
set_option linter.unusedVariables false
set_option linter.unusedSimpArgs false
set_option linter.unusedSectionVars false
namespace Go.Proofs.YtbldeodchhfjfaaGreatDoor.K.E
open Go Go.RowKit

/-! ### Constants; what has one value -/
section
variable {T : Nat → Type}
def cst1 : Value → AV T
  | .int .i64 n => .i64 n
  | .int .u8 n => cond (decide (((UInt8.ofNat n.toNat).toNat : Int) = n)) (.u8 (UInt8.ofNat n.toNat)) (.lit (.int .u8 n))
  | .int .u32 n => cond (decide (((UInt32.ofNat n.toNat).toNat : Int) = n)) (.u32 (UInt32.ofNat n.toNat)) (.lit (.int .u32 n))
  | .int .u64 n => cond (decide (((UInt64.ofNat n.toNat).toNat : Int) = n)) (.u64 (UInt64.ofNat n.toNat)) (.lit (.int .u64 n))
  | .bool b => .bool b
  | .string s => cond (Nat.ble s.data.toList.length 9223372036854775807) (.str s.data.toList) (.lit (.string s))
  | .pointer none => .nilp
  | .slice none 0 0 => .nils
  | v => .lit v
def cst : Value → AV T
  | .agg cs => .agg (cs.toList.map cst1)
  | v => cst1 v
/-- The value, where it is known whole. -/
def conc : AV T → Option Value
  | .i64 x => some (.int .i64 x)
  | .u8 x => some (.int .u8 (x.toNat : Int))
  | .u32 x => some (.int .u32 (x.toNat : Int))
  | .u64 x => some (.int .u64 (x.toNat : Int))
  | .bool x => some (.bool x)
  | .str l => some (.string ⟨l.toArray⟩)
  | .nils => some (.slice none 0 0)
  | .nilp => some (.pointer none)
  | .glob g => some (.pointer (some ⟨g, 0, none⟩))
  | .lit v => some v
  | _ => none
def ofV : Value → AV T
  | .int .i64 n => .i64 n
  | .bool b => .bool b
  | .pointer none => .nilp
  | v => .lit v
end
section
variable {tb : Tab} {η : List Value} {m : Mem}
theorem cond_lit {a : AV tb.T} (v : Value) (p : Prop) [Decidable p] (h : p → R tb η m a v) : R tb η m (cond (decide p) a (.lit v)) v := by
  by_cases hp : p
  · rw [decide_eq_true hp]; exact h hp
  · rw [decide_eq_false hp]; exact rfl
theorem cst1_ok (v : Value) : R tb η m (cst1 v) v := by
  unfold cst1
  split
  · rfl
  · refine cond_lit _ _ ?_; intro h; show _ = _; rw [h]
  · refine cond_lit _ _ ?_; intro h; show _ = _; rw [h]
  · refine cond_lit _ _ ?_; intro h; show _ = _; rw [h]
  · rfl
  · rename_i s
    cases h : Nat.ble s.data.toList.length 9223372036854775807
    · rfl
    · exact ⟨by simp, Nat.le_of_ble_eq_true h⟩
  · rfl
  · rfl
  · rfl
theorem cst1L_ok : ∀ l : List Value, RL tb η m (l.map cst1) l
  | [] => rfl
  | v :: l => ⟨v, l, rfl, cst1_ok v, cst1L_ok l⟩
theorem cst_ok (v : Value) : R tb η m (cst v) v := by
  unfold cst
  split
  · rename_i cs; exact ⟨cs.toList, by simp, cst1L_ok _⟩
  · exact cst1_ok v
theorem conc_ok {a : AV tb.T} {u v : Value} (h : conc a = some u) (hr : R tb η m a v) : v = u := by
  cases a <;> simp only [conc, Option.some.injEq, reduceCtorEq] at h <;> simp only [R] at hr <;> subst h
  case str => exact hr.1
  all_goals exact hr
theorem ofV_ok (v : Value) : R tb η m (ofV v) v := by
  unfold ofV
  split <;> rfl
end

/-! ### Slots -/
structure S (T : Nat → Type) where
  κ : List (Nat × Nat × AV T)
  σ : Sg T
  c : Nat
  d : Nat
section
variable {T : Nat → Type}
def S.put (s : S T) (d : Option Nat) (v : AV T) : S T := match d with
  | some t => { s with κ := (t, s.d, v) :: s.κ, d := s.d + 1 }
  | none => s
def evA (κ : List (Nat × Nat × AV T)) : Operand → Option (AV T)
  | .tmp t => match lk κ t with
    | some (_, v) => some v
    | none => none
  | .const v => some (cst v)
  | .global g => some (.glob g)
  | .func f => some (.fn f [] [])
def evL (ev : Operand → Option (AV T)) : List Operand → Option (List (AV T))
  | [] => some []
  | x :: r => match ev x with
    | some a => match evL ev r with
      | some l => some (a :: l)
      | none => none
    | none => none
def cv (ev : Operand → Option (AV T)) (x : Operand) : Value := match ev x with
  | some a => match conc a with
    | some v => v
    | none => undef
  | none => undef
def allC (ev : Operand → Option (AV T)) (l : List Operand) : Bool := l.all fun x => match ev x with
  | some a => (conc a).isSome
  | none => false
/-- What it comes to by the machine itself. -/
def fb (P : Program) (ev : Operand → Option (AV T)) (o : Oper) : Option (AV T) := cond (noSel o.op && allC ev o.op.operands.toList) (match takeN.pureV P (execOp (cv ev) o) with
  | some v => some (ofV v)
  | none => none) none
end
/-- The operands stand as told. -/
def Ev (tb : Tab) (η : List Value) (m : Mem) (ev : Operand → Option (AV tb.T)) (ρ : Operand → Value) : Prop := ∀ x a, ev x = some a → R tb η m a (ρ x)
section
variable {P : Program} {tb : Tab} {η : List Value} {m : Mem} {ev : Operand → Option (AV tb.T)} {ρ : Operand → Value} {o : Oper} {v : AV tb.T} {w : World}
/-- An operation's run, the world as it was. -/
def Run0 (P : Program) (tb : Tab) (η : List Value) (m : Mem) (s : Sem Next) (v : AV tb.T) : Prop := ∃ u, (∀ w, Has m w → s.run P w = .ok (.value u) w) ∧ R tb η m v u
theorem fb_ok (h : fb P ev o = some v) (he : Ev tb η m ev ρ) : Run0 P tb η m (execOp ρ o) v := by
  unfold fb at h
  cases hc : (noSel o.op && allC ev o.op.operands.toList) with
  | false => rw [hc] at h; cases h
  | true =>
    rw [hc] at h
    simp only [cond_true] at h
    rw [Bool.and_eq_true] at hc
    cases hp : takeN.pureV P (execOp (cv ev) o) with
    | none => rw [hp] at h; cases h
    | some u =>
      rw [hp] at h
      cases h
      have e : execOp ρ o = execOp (cv ev) o := by
        refine execOp_congr o ?_ ?_
        · intro cs b e; have := hc.1; rw [e] at this; cases this
        · intro x hx
          have h1 := List.all_eq_true.1 hc.2 x (by simpa using hx)
          simp only [cv]
          cases hx1 : ev x with
          | none => rw [hx1] at h1; cases h1
          | some a =>
            rw [hx1] at h1
            simp only at h1
            cases hx2 : conc a with
            | none => rw [hx2] at h1; cases h1
            | some u => simp only [hx2]; exact conc_ok hx2 (he x a hx1)
      rw [e]
      exact ⟨u, fun w _ => pureV_run hp w, ofV_ok u⟩
theorem evL_ok (he : Ev tb η m ev ρ) : ∀ {l : List Operand} {as : List (AV tb.T)}, evL ev l = some as → RL tb η m as (l.map ρ)
  | [], as, h => by simp only [evL, Option.some.injEq] at h; subst h; rfl
  | x :: r, as, h => by
    simp only [evL] at h
    cases h1 : ev x with
    | none => rw [h1] at h; cases h
    | some a =>
      rw [h1] at h
      simp only at h
      cases h2 : evL ev r with
      | none => rw [h2] at h; cases h
      | some l =>
        rw [h2] at h
        cases h
        exact ⟨ρ x, r.map ρ, rfl, he x a h1, evL_ok he h2⟩
end

/-! ### Numbers without a sign -/
section
variable {T : Nat → Type}
def binU (op : BinOp) (a b : AV T) : Option (AV T) := match a, b with
  | .u64 x, .u64 y => match op with
    | .add => some (.u64 (x + y)) | .sub => some (.u64 (x - y)) | .mul => some (.u64 (x * y))
    | .and => some (.u64 (x &&& y)) | .or => some (.u64 (x ||| y)) | .xor => some (.u64 (x ^^^ y)) | _ => none
  | .u32 x, .u32 y => match op with
    | .add => some (.u32 (x + y)) | .sub => some (.u32 (x - y)) | .mul => some (.u32 (x * y))
    | .and => some (.u32 (x &&& y)) | .or => some (.u32 (x ||| y)) | .xor => some (.u32 (x ^^^ y)) | _ => none
  | .u8 x, .u8 y => match op with
    | .add => some (.u8 (x + y)) | .sub => some (.u8 (x - y)) | .mul => some (.u8 (x * y))
    | .and => some (.u8 (x &&& y)) | .or => some (.u8 (x ||| y)) | .xor => some (.u8 (x ^^^ y)) | _ => none
  | .str x, .str y => match op with
    | .eql => some (.bool (x == y)) | .neq => some (.bool (x != y))
    | .lss => some (.bool (ltB x y)) | .leq => some (.bool (leB x y)) | .gtr => some (.bool (gtB x y)) | .geq => some (.bool (geB x y))
    | _ => none
  | _, _ => none
end
theorem q32_m (x : Int) : IntKind.u32.wrap x = x % 4294967296 := by simp [IntKind.wrap, IntKind.bits, IntKind.signed]
theorem q32_add (x y : UInt32) : IntKind.u32.wrap ((x.toNat : Int) + y.toNat) = ((x + y).toNat : Int) := by rw [q32_m]; simp
theorem q32_mul (x y : UInt32) : IntKind.u32.wrap ((x.toNat : Int) * y.toNat) = ((x * y).toNat : Int) := by rw [q32_m]; simp
theorem q32_sub (x y : UInt32) : IntKind.u32.wrap ((x.toNat : Int) - y.toNat) = ((x - y).toNat : Int) := by
  rw [q32_m, UInt32.toNat_sub]; have := x.toNat_lt; have := y.toNat_lt; omega
theorem q8_mul (x y : UInt8) : IntKind.u8.wrap ((x.toNat : Int) * y.toNat) = ((x * y).toNat : Int) := by rw [wu8m]; simp
section
variable {P : Program} {tb : Tab} {η : List Value} {m : Mem} {v a b : AV tb.T} {w : World} {x y : Value}
theorem guard_int {w : World} (op : BinOp) (t : TypeId) (p q : Operand) (k k' : IntKind) (a b : Int) : (eqGuard op t p q (.int k a) (.int k' b)).run P w = .ok () w := by
  cases op <;> rfl
theorem guard_str {w : World} (op : BinOp) (t : TypeId) (p q : Operand) (a b : ByteArray) : (eqGuard op t p q (.string a) (.string b)).run P w = .ok () w := by
  cases op <;> rfl
theorem guard_ptr {w : World} (op : BinOp) (t : TypeId) (p q : Operand) (a b : Option Addr) : (eqGuard op t p q (.pointer a) (.pointer b)).run P w = .ok () w := by
  cases op <;> rfl
theorem bin_run {w : World} {op : BinOp} {t : TypeId} {p q : Operand} {x y u : Value} (hg : (eqGuard op t p q x y).run P w = .ok () w) (hb : (binOp op t x y).run P w = .ok u w) : (vS (do eqGuard op t p q x y; binOp op t x y)).run P w = .ok (.value u) w := by
  refine vS_run ?_
  rw [Sem.run_bind, hg, Result.andThen_ok, hb]
theorem binU_ok {op : BinOp} {t : TypeId} {p q : Operand} (h : binU op a b = some v) (ha : R tb η m a x) (hb : R tb η m b y) : Run0 P tb η m (vS (do eqGuard op t p q x y; binOp op t x y)) v := by
  unfold binU at h
  split at h
  · simp only [R] at ha hb
    subst ha hb
    split at h <;> first | (cases h; done) | (cases h)
    · exact ⟨_, fun w _ => bin_run (guard_int _ _ _ _ _ _ _ _) rfl, congrArg (Value.int .u64) (q64_add _ _ _ _ rfl rfl)⟩
    · exact ⟨_, fun w _ => bin_run (guard_int _ _ _ _ _ _ _ _) rfl, congrArg (Value.int .u64) (q64_sub _ _ _ _ rfl rfl)⟩
    · exact ⟨_, fun w _ => bin_run (guard_int _ _ _ _ _ _ _ _) rfl, congrArg (Value.int .u64) (q64_mul _ _ _ _ rfl rfl)⟩
    · exact ⟨_, fun w _ => bin_run (guard_int _ _ _ _ _ _ _ _) rfl, congrArg (Value.int .u64) (q64_and _ _ _ _ rfl rfl)⟩
    · exact ⟨_, fun w _ => bin_run (guard_int _ _ _ _ _ _ _ _) rfl, congrArg (Value.int .u64) (q64_or _ _ _ _ rfl rfl)⟩
    · exact ⟨_, fun w _ => bin_run (guard_int _ _ _ _ _ _ _ _) rfl, congrArg (Value.int .u64) (q64_xor _ _ _ _ rfl rfl)⟩
  · simp only [R] at ha hb
    subst ha hb
    split at h <;> first | (cases h; done) | (cases h)
    · exact ⟨_, fun w _ => bin_run (guard_int _ _ _ _ _ _ _ _) rfl, congrArg (Value.int .u32) (q32_add _ _)⟩
    · exact ⟨_, fun w _ => bin_run (guard_int _ _ _ _ _ _ _ _) rfl, congrArg (Value.int .u32) (q32_sub _ _)⟩
    · exact ⟨_, fun w _ => bin_run (guard_int _ _ _ _ _ _ _ _) rfl, congrArg (Value.int .u32) (q32_mul _ _)⟩
    · exact ⟨_, fun w _ => bin_run (guard_int _ _ _ _ _ _ _ _) rfl, congrArg (Value.int .u32) (q32_and _ _ _ _ rfl rfl)⟩
    · exact ⟨_, fun w _ => bin_run (guard_int _ _ _ _ _ _ _ _) rfl, congrArg (Value.int .u32) (q32_or _ _ _ _ rfl rfl)⟩
    · exact ⟨_, fun w _ => bin_run (guard_int _ _ _ _ _ _ _ _) rfl, congrArg (Value.int .u32) (q32_xor _ _ _ _ rfl rfl)⟩
  · simp only [R] at ha hb
    subst ha hb
    split at h <;> first | (cases h; done) | (cases h)
    · exact ⟨_, fun w _ => bin_run (guard_int _ _ _ _ _ _ _ _) rfl, congrArg (Value.int .u8) (q8_add _ _ _ _ rfl rfl)⟩
    · exact ⟨_, fun w _ => bin_run (guard_int _ _ _ _ _ _ _ _) rfl, congrArg (Value.int .u8) (q8_sub _ _ _ _ rfl rfl)⟩
    · exact ⟨_, fun w _ => bin_run (guard_int _ _ _ _ _ _ _ _) rfl, congrArg (Value.int .u8) (q8_mul _ _)⟩
    · exact ⟨_, fun w _ => bin_run (guard_int _ _ _ _ _ _ _ _) rfl, congrArg (Value.int .u8) (q8_and _ _ _ _ rfl rfl)⟩
    · exact ⟨_, fun w _ => bin_run (guard_int _ _ _ _ _ _ _ _) rfl, congrArg (Value.int .u8) (q8_or _ _ _ _ rfl rfl)⟩
    · exact ⟨_, fun w _ => bin_run (guard_int _ _ _ _ _ _ _ _) rfl, congrArg (Value.int .u8) (q8_xor _ _ _ _ rfl rfl)⟩
  · obtain ⟨rfl, ha2⟩ := ha
    obtain ⟨rfl, hb2⟩ := hb
    split at h <;> first | (cases h; done) | (cases h)
    · exact ⟨_, fun w _ => bin_run (guard_str _ _ _ _ _ _) rfl, congrArg Value.bool (seq_raw _ _)⟩
    · exact ⟨_, fun w _ => bin_run (guard_str _ _ _ _ _ _) rfl, congrArg Value.bool (sne_raw _ _)⟩
    · exact ⟨_, fun w _ => bin_run (guard_str _ _ _ _ _ _) rfl, congrArg Value.bool (ltB_raw _ _)⟩
    · exact ⟨_, fun w _ => bin_run (guard_str _ _ _ _ _ _) rfl, congrArg Value.bool (leB_raw _ _)⟩
    · exact ⟨_, fun w _ => bin_run (guard_str _ _ _ _ _ _) rfl, congrArg Value.bool (gtB_raw _ _)⟩
    · exact ⟨_, fun w _ => bin_run (guard_str _ _ _ _ _ _) rfl, congrArg Value.bool (geB_raw _ _)⟩
  · cases h
def unA {T : Nat → Type} (op : UnOp) (a : AV T) : Option (AV T) := match op, a with
  | .neg, .u64 x => some (.u64 (0 - x))
  | .neg, .u32 x => some (.u32 (0 - x))
  | .neg, .u8 x => some (.u8 (0 - x))
  | .xor, .u64 x => some (.u64 (18446744073709551615 ^^^ x))
  | .xor, .u32 x => some (.u32 (4294967295 ^^^ x))
  | .xor, .u8 x => some (.u8 (255 ^^^ x))
  | _, _ => none
theorem unA_ok {op : UnOp} (h : unA op a = some v) (ha : R tb η m a x) : Run0 P tb η m (vS (Op.unary op x)) v := by
  unfold unA at h
  split at h <;> cases h <;> simp only [R] at ha <;> subst ha
  · exact ⟨_, fun w _ => vS_run rfl, congrArg (Value.int .u64) (q64_sub 0 _ _ _ rfl rfl)⟩
  · exact ⟨_, fun w _ => vS_run rfl, congrArg (Value.int .u32) (q32_sub 0 _)⟩
  · exact ⟨_, fun w _ => vS_run rfl, congrArg (Value.int .u8) (q8_sub 0 _ _ _ rfl rfl)⟩
  · exact ⟨_, fun w _ => vS_run rfl, congrArg (Value.int .u64) (q64_xor 18446744073709551615 _ _ _ rfl rfl)⟩
  · exact ⟨_, fun w _ => vS_run rfl, congrArg (Value.int .u32) (q32_xor 4294967295 _ _ _ rfl rfl)⟩
  · exact ⟨_, fun w _ => vS_run rfl, congrArg (Value.int .u8) (q8_xor 255 _ _ _ rfl rfl)⟩
/-! pointers and nil -/
def isPtr {T : Nat → Type} : AV T → Bool
  | .ptr _ _ => true
  | .elt _ _ _ _ => true
  | .cells _ _ => true
  | .glob _ => true
  | _ => false
def isNilp {T : Nat → Type} : AV T → Bool
  | .nilp => true
  | _ => false
def ptrT (P : Program) (t : TypeId) : Bool := match P.underlying t with
  | some (.pointer _) => true
  | _ => false
def nilA {T : Nat → Type} (P : Program) (op : BinOp) (t : TypeId) (a b : AV T) : Option (AV T) := cond (ptrT P t && ((isPtr a && isNilp b) || (isNilp a && isPtr b))) (match op with
  | .eql => some (.bool false)
  | .neq => some (.bool true)
  | _ => none) none
theorem isPtr_ok {a : AV tb.T} {x : Value} (h : isPtr a = true) (ha : R tb η m a x) : ∃ ad, x = .pointer (some ad) := by
  cases a <;> simp only [isPtr, Bool.false_eq_true] at h <;> simp only [R] at ha
  · obtain ⟨g, _, rfl⟩ := ha; exact ⟨_, rfl⟩
  · obtain ⟨_, _, _, _, _, _, rfl⟩ := ha; exact ⟨_, rfl⟩
  · obtain ⟨_, _, rfl, _⟩ := ha; exact ⟨_, rfl⟩
  · exact ⟨_, ha⟩
theorem isNilp_ok {a : AV tb.T} {x : Value} (h : isNilp a = true) (ha : R tb η m a x) : x = .pointer none := by
  cases a <;> simp only [isNilp, Bool.false_eq_true] at h <;> simp only [R] at ha
  exact ha
theorem run_und {t : TypeId} {d : TypeDesc} (h : P.underlying t = some d) (w : World) : (underlying t).run P w = .ok d w := by
  simp [underlying, h]
theorem equal_nil {t : TypeId} {ad : Addr} (h : ptrT P t = true) (w : World) : (Op.equal t (.pointer (some ad)) (.pointer none)).run P w = .ok false w ∧ (Op.equal t (.pointer none) (.pointer (some ad))).run P w = .ok false w := by
  unfold ptrT at h
  split at h
  · rename_i e he
    unfold Op.equal
    rw [show Op.maxDepth = 9999 + 1 from rfl]
    unfold Op.equalIn
    simp only [Sem.run_bind, run_und he, Result.andThen_ok]
    exact ⟨rfl, rfl⟩
  · cases h
theorem nilA_ok {op : BinOp} {t : TypeId} {p q : Operand} (h : nilA P op t a b = some v) (ha : R tb η m a x) (hb : R tb η m b y) : Run0 P tb η m (vS (do eqGuard op t p q x y; binOp op t x y)) v := by
  unfold nilA at h
  cases hc : (ptrT P t && ((isPtr a && isNilp b) || (isNilp a && isPtr b))) with
  | false => rw [hc] at h; cases h
  | true =>
    rw [hc] at h
    simp only [Bool.and_eq_true, Bool.or_eq_true] at hc
    have key : ∃ r : Option Addr × Option Addr, (∀ w, (Op.equal t x y).run P w = .ok false w) ∧ x = .pointer r.1 ∧ y = .pointer r.2 := by
      rcases hc.2 with ⟨h1, h2⟩ | ⟨h1, h2⟩
      · obtain ⟨ad, rfl⟩ := isPtr_ok h1 ha
        have := isNilp_ok h2 hb
        subst this
        exact ⟨(some ad, none), fun w => (equal_nil hc.1 w).1, rfl, rfl⟩
      · obtain ⟨ad, rfl⟩ := isPtr_ok h2 hb
        have := isNilp_ok h1 ha
        subst this
        exact ⟨(none, some ad), fun w => (equal_nil hc.1 w).2, rfl, rfl⟩
    obtain ⟨⟨r1, r2⟩, h1, rfl, rfl⟩ := key
    simp only [cond_true] at h
    split at h <;> cases h
    · refine ⟨.bool false, fun w _ => bin_run (guard_ptr _ _ _ _ _ _) ?_, rfl⟩
      show (do pure (.bool (← Op.equal t (.pointer r1) (.pointer r2))) : Sem Value).run P w = _
      rw [Sem.run_bind, h1]; rfl
    · refine ⟨.bool true, fun w _ => bin_run (guard_ptr _ _ _ _ _ _) ?_, rfl⟩
      show (do pure (.bool (!(← Op.equal t (.pointer r1) (.pointer r2)))) : Sem Value).run P w = _
      rw [Sem.run_bind, h1]; rfl
/-! conversions of numbers -/
def convA {T : Nat → Type} (P : Program) (src dst : TypeId) (a : AV T) : Option (AV T) := cond (P.underlying src).isSome (match P.underlying dst with
  | some (.int .u64) => match a with
    | .u64 x => some (.u64 x) | .u32 x => some (.u64 x.toUInt64) | .u8 x => some (.u64 x.toUInt64) | .i64 x => some (.u64 (UInt64.ofInt x)) | _ => none
  | some (.int .u32) => match a with
    | .u64 x => some (.u32 x.toUInt32) | .u32 x => some (.u32 x) | .u8 x => some (.u32 x.toUInt32) | .i64 x => some (.u32 (UInt32.ofInt x)) | _ => none
  | some (.int .u8) => match a with
    | .u64 x => some (.u8 x.toUInt8) | .u32 x => some (.u8 x.toUInt8) | .u8 x => some (.u8 x) | .i64 x => some (.u8 (UInt8.ofInt x)) | _ => none
  | some (.int .i64) => match a with
    | .u32 x => some (.i64 (x.toNat : Int)) | .u8 x => some (.i64 (x.toNat : Int)) | _ => none
  | some .string => match a with
    | .str l => some (.str l) | _ => none
  | _ => none) none
theorem q32_u64 (x : UInt64) : IntKind.u32.wrap (x.toNat : Int) = (x.toUInt32.toNat : Int) := by rw [q32_m]; simp
theorem q8_u32 (x : UInt32) : IntKind.u8.wrap (x.toNat : Int) = (x.toUInt8.toNat : Int) := by rw [wu8m]; simp
theorem q64_u32 (x : UInt32) : IntKind.u64.wrap (x.toNat : Int) = (x.toUInt64.toNat : Int) := by rw [wu64m]; have := x.toNat_lt; simp; omega
theorem conv_int {src dst : TypeId} {k k' : IntKind} {z : Int} (h1 : (P.underlying src).isSome = true) (h2 : P.underlying dst = some (.int k)) (w : World) : (vS (convert src dst (.int k' z))).run P w = .ok (.value (.int k (k.wrap z))) w := by
  refine vS_run ?_
  obtain ⟨d, hd⟩ := Option.isSome_iff_exists.1 h1
  simp only [convert, Sem.run_bind, run_und hd, run_und h2, Result.andThen_ok]
  rfl
theorem convA_ok {src dst : TypeId} (h : convA P src dst a = some v) (ha : R tb η m a x) : Run0 P tb η m (vS (convert src dst x)) v := by
  unfold convA at h
  cases hs : (P.underlying src).isSome with
  | false => rw [hs] at h; cases h
  | true =>
    rw [hs] at h
    simp only [cond_true] at h
    split at h
    · rename_i hu
      split at h <;> cases h <;> simp only [R] at ha <;> subst ha
      · exact ⟨_, fun w _ => conv_int hs hu w, congrArg (Value.int .u64) (q64_self _)⟩
      · exact ⟨_, fun w _ => conv_int hs hu w, congrArg (Value.int .u64) (q64_u32 _)⟩
      · exact ⟨_, fun w _ => conv_int hs hu w, congrArg (Value.int .u64) (q64_u8 _)⟩
      · exact ⟨_, fun w _ => conv_int hs hu w, congrArg (Value.int .u64) (q64_wrap _)⟩
    · rename_i hu
      split at h <;> cases h <;> simp only [R] at ha <;> subst ha
      · exact ⟨_, fun w _ => conv_int hs hu w, congrArg (Value.int .u32) (q32_u64 _)⟩
      · exact ⟨_, fun w _ => conv_int hs hu w, congrArg (Value.int .u32) (q32_self _)⟩
      · exact ⟨_, fun w _ => conv_int hs hu w, congrArg (Value.int .u32) (q32_u8 _)⟩
      · exact ⟨_, fun w _ => conv_int hs hu w, congrArg (Value.int .u32) (q32_wrap _)⟩
    · rename_i hu
      split at h <;> cases h <;> simp only [R] at ha <;> subst ha
      · exact ⟨_, fun w _ => conv_int hs hu w, congrArg (Value.int .u8) (q8_u64 _)⟩
      · exact ⟨_, fun w _ => conv_int hs hu w, congrArg (Value.int .u8) (q8_u32 _)⟩
      · exact ⟨_, fun w _ => conv_int hs hu w, congrArg (Value.int .u8) (q8_self _)⟩
      · exact ⟨_, fun w _ => conv_int hs hu w, congrArg (Value.int .u8) (q8_wrap _)⟩
    · rename_i hu
      split at h <;> cases h <;> simp only [R] at ha <;> subst ha
      · rename_i y; exact ⟨_, fun w _ => conv_int hs hu w, congrArg (Value.int .i64) (w64 (by have := y.toNat_lt; omega))⟩
      · rename_i y; exact ⟨_, fun w _ => conv_int hs hu w, congrArg (Value.int .i64) (w64 (by have := y.toNat_lt; omega))⟩
    · rename_i hu
      split at h <;> cases h
      obtain ⟨rfl, h2⟩ := ha
      refine ⟨_, fun w _ => vS_run ?_, rfl, h2⟩
      obtain ⟨d, hd⟩ := Option.isSome_iff_exists.1 hs
      simp only [convert, Sem.run_bind, run_und hd, run_und hu, Result.andThen_ok]
      cases d <;> rfl
    · cases h

/-! structs -/
def isAggD : TypeDesc → Bool
  | .struct _ => true
  | .array _ _ => true
  | _ => false
/-- A field's place: its offset, its size, is it a struct or an array. -/
def fldI (P : Program) (t : TypeId) (i : Nat) : Option (Nat × Nat × Bool) := match P.underlying t with
  | some (.struct fs) => match fs[i]? with
    | some f => match P.info? f.type, P.underlying f.type with
      | some inf, some d => some (f.offset, inf.size, isAggD d)
      | _, _ => none
    | none => none
  | _ => none
theorem run_isAgg {t : TypeId} {d : TypeDesc} (h : P.underlying t = some d) (w : World) : (isAgg t).run P w = .ok (isAggD d) w := by
  simp only [isAgg, Sem.run_bind, run_und h, Result.andThen_ok]
  cases d <;> rfl
theorem run_size {t : TypeId} {i : TypeInfo} (h : P.info? t = some i) (w : World) : (sizeOf t).run P w = .ok i.size w := by
  simp [sizeOf, typeInfo, h]
theorem fldI_some {t : TypeId} {i off sz : Nat} {g : Bool} (h : fldI P t i = some (off, sz, g)) : ∃ fs f inf d, P.underlying t = some (.struct fs) ∧ fs[i]? = some f ∧ P.info? f.type = some inf ∧ P.underlying f.type = some d ∧ f.offset = off ∧ inf.size = sz ∧ isAggD d = g := by
  unfold fldI at h
  split at h
  · rename_i fs hu
    split at h
    · rename_i f hf
      split at h
      · rename_i inf d h1 h2
        cases h
        exact ⟨fs, f, inf, d, hu, hf, h1, h2, rfl, rfl, rfl⟩
      · cases h
    · cases h
  · cases h
def partA {T : Nat → Type} (l : List (AV T)) (off sz : Nat) (g : Bool) : Option (AV T) := match g with
  | true => some (.agg ((l.drop off).take sz))
  | false => l[off]?
def fieldA {T : Nat → Type} (P : Program) (t : TypeId) (i : Nat) (a : AV T) : Option (AV T) := match a with
  | .agg l => match fldI P t i with
    | some (off, sz, g) => partA l off sz g
    | none => none
  | _ => none
theorem part_ok {t : TypeId} {d : TypeDesc} {inf : TypeInfo} {l : List (AV tb.T)} {cs : List Value} {off : Nat} (h1 : P.info? t = some inf) (h2 : P.underlying t = some d) (hl : RL tb η m l cs) (h : partA l off inf.size (isAggD d) = some v) : ∃ u, (∀ w, (part t cs.toArray off).run P w = .ok u w) ∧ R tb η m v u := by
  unfold part
  cases hg : isAggD d with
  | true =>
    rw [hg] at h
    simp only [partA, Option.some.injEq] at h
    subst h
    refine ⟨.agg ((cs.drop off).take inf.size).toArray, fun w => ?_, (cs.drop off).take inf.size, rfl, (hl.drop _).take _⟩
    simp only [Sem.run_bind, run_isAgg h2, Result.andThen_ok, hg, if_true, run_size h1, Sem.run_pure]
    simp
  | false =>
    rw [hg] at h
    simp only [partA] at h
    obtain ⟨u, hu, hr⟩ := hl.get h
    refine ⟨u, fun w => ?_, hr⟩
    have : cs.toArray[off]? = some u := by simpa using hu
    simp only [Sem.run_bind, run_isAgg h2, Result.andThen_ok, hg, Bool.false_eq_true, if_false, this]
    rfl
theorem fieldA_ok {t : TypeId} {i : Nat} (h : fieldA P t i a = some v) (ha : R tb η m a x) : Run0 P tb η m (vS (Instr.field t x i)) v := by
  unfold fieldA at h
  split at h
  · obtain ⟨cs, rfl, hl⟩ := ha
    split at h
    · rename_i off sz g hf
      obtain ⟨fs, f, inf, d, h1, h2, h3, h4, rfl, rfl, rfl⟩ := fldI_some hf
      obtain ⟨u, hu, hr⟩ := part_ok h3 h4 hl h
      refine ⟨u, fun w _ => vS_run ?_, hr⟩
      simp only [Instr.field, Sem.run_bind, run_und h1, Result.andThen_ok, h2, asAgg, Sem.run_pure, hu]
    · cases h
  · cases h
def fAddrA {T : Nat → Type} (P : Program) (t : TypeId) (i : Nat) (a : AV T) : Option (AV T) := match fldI P t i with
  | some (f, sz, _) => cond (Nat.beq sz 0) none (match a with
    | .ptr id off => some (.ptr id (off + f))
    | .cells off l => some (.cells (off + f) l)
    | .elt id j n off => some (.elt id j n (off + f))
    | _ => none)
  | none => none
theorem fAddrA_ok {t : TypeId} {i : Nat} (h : fAddrA P t i a = some v) (ha : R tb η m a x) : Run0 P tb η m (vS (Instr.fieldAt t x i)) v := by
  unfold fAddrA at h
  split at h
  · rename_i f sz g hf
    obtain ⟨fs, fl, inf, d, h1, h2, h3, h4, rfl, rfl, rfl⟩ := fldI_some hf
    cases hz : Nat.beq inf.size 0 with
    | true => rw [hz] at h; cases h
    | false =>
      have hne : inf.size ≠ 0 := fun e => by rw [e] at hz; cases hz
      rw [hz] at h
      simp only [cond_false] at h
      have run : ∀ (ad : Addr) (w : World), Has m w → (vS (Instr.fieldAt t (.pointer (some ad)) i)).run P w = .ok (.value (.pointer (some (ad.add fl.offset)))) w := by
        intro ad w _
        refine vS_run ?_
        simp only [Instr.fieldAt, Sem.run_bind, run_und h1, Result.andThen_ok, h2, Instr.sureAddr, Sem.run_pure, fieldPlace, run_size h3, hne, if_false]
      split at h <;> cases h
      · obtain ⟨g, e1, rfl⟩ := ha
        exact ⟨_, run _, g, e1, by rw [Addr.add_lit]⟩
      · obtain ⟨A, cs, rfl, e1, e2⟩ := ha
        exact ⟨_, run _, A, cs, by rw [add_add], e1, e2⟩
      · obtain ⟨ad, len, c, e1, e2, e3, rfl⟩ := ha
        exact ⟨_, run _, ad, len, c, e1, e2, e3, by rw [add_add]⟩
  · cases h
/-! a struct of its parts -/
def cellsA {T : Nat → Type} (a : AV T) : Option (List (AV T)) := match a with
  | .agg l => some l
  | a => cond (oneA a) (some [a]) none
theorem cells_one {v : Value} (h : v.oneCell' = true) : v.cells = #[v] := by
  cases v <;> first | rfl | cases h
theorem cellsA_ok {l : List (AV tb.T)} (h : cellsA a = some l) (ha : R tb η m a x) : RL tb η m l x.cells.toList := by
  unfold cellsA at h
  split at h
  · cases h; obtain ⟨cs, rfl, hl⟩ := ha; simpa [Value.cells] using hl
  · cases ho : oneA a with
    | false => rw [ho] at h; cases h
    | true =>
      rw [ho] at h
      cases h
      rw [cells_one (oneA_ok ha ho)]
      exact RL.mk1 ha
def splice {α : Type} (off : Nat) : List α → Nat → List α → List α
  | [], _, cs => cs
  | c :: r, j, cs => splice off r (j + 1) (cs.set (off + j) c)
theorem splice_len {α : Type} (off : Nat) : ∀ (l : List α) (j : Nat) (cs : List α), (splice off l j cs).length = cs.length
  | [], _, _ => rfl
  | c :: r, j, cs => by rw [splice, splice_len off r, List.length_set]
theorem splice_ok (off : Nat) : ∀ {l : List (AV tb.T)} {vs : List Value} (j : Nat) {cs : List (AV tb.T)} {us : List Value}, RL tb η m l vs → RL tb η m cs us → RL tb η m (splice off l j cs) (splice off vs j us)
  | [], vs, j, cs, us, h, h' => by rw [show vs = [] from h]; exact h'
  | a :: l, vs, j, cs, us, ⟨v, r, h1, h2, h3⟩, h' => by rw [h1]; exact splice_ok off (j + 1) h3 (h'.set h2)
theorem splice_fold (off : Nat) : ∀ (vs : List Value) (j : Nat) (us : List Value), (vs.zipIdx j).foldl (fun (cs : Array Value) (c, j) => cs.setIfInBounds (off + j) c) us.toArray = (splice off vs j us).toArray
  | [], _, _ => rfl
  | v :: r, j, us => by
    rw [List.zipIdx_cons, List.foldl_cons, splice, ← splice_fold off r (j + 1)]
    congr 1
    simp
def fillA {T : Nat → Type} (place : Nat → Option (Nat × Nat)) : List (AV T) → List (Nat × AV T) → Option (List (AV T))
  | cells, [] => some cells
  | cells, (i, v) :: r => match place i with
    | none => none
    | some (off, size) => match cellsA v with
      | none => none
      | some l => cond (Nat.beq l.length size && Nat.ble (off + l.length) cells.length) (fillA place (splice off l 0 cells) r) none
def RP (tb : Tab) (η : List Value) (m : Mem) : List (Nat × AV tb.T) → List (Nat × Value) → Prop
  | [], ps => ps = []
  | (i, a) :: l, ps => ∃ v r, ps = (i, v) :: r ∧ R tb η m a v ∧ RP tb η m l r
theorem fillA_ok {place : Nat → Option (Nat × Nat)} : ∀ {ps : List (Nat × AV tb.T)} {qs : List (Nat × Value)} {cells l : List (AV tb.T)} {us : List Value}, fillA place cells ps = some l → RP tb η m ps qs → RL tb η m cells us → ∃ vs : List Value, Instr.fill place us.toArray qs = some vs.toArray ∧ RL tb η m l vs
  | [], qs, cells, l, us, h, hp, hr => by
    rw [show qs = [] from hp]
    simp only [fillA, Option.some.injEq] at h
    subst h
    exact ⟨us, rfl, hr⟩
  | (i, a) :: ps, qs, cells, l, us, h, hp, hr => by
    obtain ⟨v, r, rfl, h1, h2⟩ := hp
    simp only [fillA] at h
    cases hpl : place i with
    | none => rw [hpl] at h; cases h
    | some os =>
      obtain ⟨off, size⟩ := os
      rw [hpl] at h
      simp only at h
      cases hc : cellsA a with
      | none => rw [hc] at h; cases h
      | some cl =>
        rw [hc] at h
        simp only at h
        have hcl := cellsA_ok hc h1
        cases hb : (Nat.beq cl.length size && Nat.ble (off + cl.length) cells.length) with
        | false => rw [hb] at h; cases h
        | true =>
          rw [hb] at h
          rw [Bool.and_eq_true] at hb
          have e1 := beq_t hb.1
          have e2 := Nat.le_of_ble_eq_true hb.2
          simp only [cond_true] at h
          have hlen : v.cells.size = cl.length := by rw [← hcl.len]; simp
          obtain ⟨vs, h3, h4⟩ := fillA_ok h h2 (splice_ok off 0 hcl hr)
          refine ⟨vs, ?_, h4⟩
          have hn : ¬ ((decide (v.cells.size ≠ size) || decide (off + v.cells.size > us.toArray.size)) = true) := by
            simp only [Bool.or_eq_true, decide_eq_true_eq, List.size_toArray, hr.len, hlen]
            omega
          simp only [Instr.fill, hpl]
          rw [if_neg hn, ← h3]
          congr 1
          rw [← splice_fold, ← Array.toList_zipIdx, ← Array.foldl_toList]
def zerosA {T : Nat → Type} (P : Program) (t : TypeId) : Option (List (AV T)) := match P.info? t with
  | some i => match i.zero with
    | some z => some (z.cells.toList.map cst1)
    | none => none
  | none => none
theorem zerosA_ok {t : TypeId} {l : List (AV tb.T)} (h : zerosA P t = some l) : ∃ z, (∀ w, (zeroValue t).run P w = .ok z w) ∧ RL tb η m l z.cells.toList := by
  unfold zerosA at h
  split at h
  · rename_i i hi
    split at h
    · rename_i z hz
      cases h
      exact ⟨z, fun w => by simp [zeroValue, typeInfo, hi, hz], cst1L_ok _⟩
    · cases h
  · cases h
def placesL (P : Program) : List Field → Option (List (Nat × Nat))
  | [] => some []
  | f :: r => match P.info? f.type with
    | some i => match placesL P r with
      | some l => some ((f.offset, i.size) :: l)
      | none => none
    | none => none
theorem placesL_run : ∀ {fs : List Field} {ps : List (Nat × Nat)}, placesL P fs = some ps → ∀ w, (List.mapM (m := Sem) (fun f => do pure (f.offset, ← sizeOf f.type)) fs).run P w = .ok ps w
  | [], ps, h, w => by simp only [placesL, Option.some.injEq] at h; subst h; rfl
  | f :: r, ps, h, w => by
    simp only [placesL] at h
    cases hi : P.info? f.type with
    | none => rw [hi] at h; cases h
    | some i =>
      rw [hi] at h
      simp only at h
      cases hr : placesL P r with
      | none => rw [hr] at h; cases h
      | some l =>
        rw [hr] at h
        cases h
        rw [List.mapM_cons]
        simp only [Sem.run_bind, run_size hi, Result.andThen_ok, Sem.run_pure, placesL_run hr]
def placeA (P : Program) (t : TypeId) : Option (Nat → Option (Nat × Nat)) := match P.underlying t with
  | some (.struct fs) => match placesL P fs.toList with
    | some ps => some (fun i => ps[i]?)
    | none => none
  | some (.array _ e) => match P.info? e with
    | some i => some (fun j => some (j * i.size, i.size))
    | none => none
  | _ => none
def partsA {T : Nat → Type} (ev : Operand → Option (AV T)) : List (Nat × Operand) → Option (List (Nat × AV T))
  | [] => some []
  | (i, x) :: r => match ev x with
    | some a => match partsA ev r with
      | some l => some ((i, a) :: l)
      | none => none
    | none => none
theorem partsA_ok {ev : Operand → Option (AV tb.T)} {ρ : Operand → Value} (he : Ev tb η m ev ρ) : ∀ {ps : List (Nat × Operand)} {l : List (Nat × AV tb.T)}, partsA ev ps = some l → RP tb η m l (ps.map fun (i, x) => (i, ρ x))
  | [], l, h => by simp only [partsA, Option.some.injEq] at h; subst h; rfl
  | (i, x) :: r, l, h => by
    simp only [partsA] at h
    cases h1 : ev x with
    | none => rw [h1] at h; cases h
    | some a =>
      rw [h1] at h
      simp only at h
      cases h2 : partsA ev r with
      | none => rw [h2] at h; cases h
      | some l =>
        rw [h2] at h
        cases h
        exact ⟨_, _, rfl, he x a h1, partsA_ok he h2⟩
def buildA {T : Nat → Type} (P : Program) (ev : Operand → Option (AV T)) (t : TypeId) (ps : Array (Nat × Operand)) : Option (AV T) := match placeA P t, zerosA P t, partsA ev ps.toList with
  | some pl, some z, some l => match fillA pl z l with
    | some cs => some (.agg cs)
    | none => none
  | _, _, _ => none
theorem buildA_ok {ev : Operand → Option (AV tb.T)} {ρ : Operand → Value} (he : Ev tb η m ev ρ) {t : TypeId} {ps : Array (Nat × Operand)} (h : buildA P ev t ps = some v) : Run0 P tb η m (vS (Instr.build t (ps.map fun (i, x) => (i, ρ x)))) v := by
  unfold buildA at h
  split at h
  · rename_i pl z l h1 h2 h3
    split at h
    · rename_i cs h4
      cases h
      obtain ⟨z0, hz, hzr⟩ := zerosA_ok (tb := tb) (η := η) (m := m) h2
      obtain ⟨vs, hf, hv⟩ := fillA_ok h4 (partsA_ok he h3) hzr
      refine ⟨.agg vs.toArray, fun w _ => vS_run ?_, vs, rfl, hv⟩
      have hps : (ps.map fun (i, x) => (i, ρ x)).toList = ps.toList.map fun (i, x) => (i, ρ x) := by simp
      have hzz : z0.cells.toList.toArray = z0.cells := by simp
      rw [hzz] at hf
      unfold placeA at h1
      simp only [Instr.build, Sem.run_bind, hz, Result.andThen_ok]
      split at h1
      · rename_i fs hu
        split at h1
        · rename_i pp hpp
          cases h1
          simp only [run_und hu, Result.andThen_ok]
          have hm : (fs.mapM (m := Sem) fun f => do pure (f.offset, ← sizeOf f.type)).run P w = .ok pp.toArray w := by
            have e : fs = fs.toList.toArray := by simp
            rw [e, List.mapM_toArray]
            rw [show ∀ (X : Sem (List (Nat × Nat))), (List.toArray <$> X : Sem (Array (Nat × Nat))) = X >>= fun l => pure l.toArray from fun _ => rfl]
            rw [Sem.run_bind, placesL_run hpp]
            rfl
          simp only [hm, Sem.run_bind, Result.andThen_ok, hps]
          have e2 : (fun x : Nat => pp.toArray[x]?) = fun i => pp[i]? := by funext i; simp
          rw [e2, hf]
          rfl
        · cases h1
      · rename_i n e hu
        split at h1
        · rename_i i hi
          cases h1
          simp only [run_und hu, Result.andThen_ok, Sem.run_bind, run_size hi, hps]
          rw [hf]
          rfl
        · cases h1
      · cases h1
    · cases h
  · cases h
end
end Go.Proofs.YtbldeodchhfjfaaGreatDoor.K.E
