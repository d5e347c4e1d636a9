/- E, part 5: operations that ask something, memory as it is. -/
import Derived.Test.YtbldeodchhfjfaaGreatDoorE4
set_option linter.unusedVariables false
set_option linter.unusedSimpArgs false
set_option linter.unusedSectionVars false
namespace Go.Proofs.YtbldeodchhfjfaaGreatDoor.K.E
open Go Go.RowKit

section
variable {T : Nat → Type} {ρ : Type}
/-- c: is it known now? -/
def grd (c b : Bool) (r : Option ρ) : Option ρ := match c with
  | true => cond b r none
  | false => (chk b).bind fun _ => r
theorem grd_some {c b : Bool} {r : Option ρ} {x : ρ} (h : grd c b r = some x) : b = true ∧ r = some x := by
  unfold grd at h
  cases c
  · exact chkE h
  · cases b
    · cases h
    · exact ⟨rfl, h⟩
def isK : Operand → Bool
  | .const _ => true
  | _ => false
def iv : AV T → Option Int
  | .i64 x => some x
  | .u8 x => some (x.toNat : Int)
  | .u32 x => some (x.toNat : Int)
  | .u64 x => some (x.toNat : Int)
  | .lit (.int _ x) => some x
  | _ => none
def isU : AV T → Bool
  | .u8 _ => true
  | .u32 _ => true
  | .u64 _ => true
  | _ => false
def divA (op : BinOp) (a b : AV T) : Option (Bool × AV T) := match op, a, b with
  | .quo, .i64 x, .i64 y => some (decide (y ≠ 0), .i64 (IntKind.i64.wrap (Int.tdiv x y)))
  | .rem, .i64 x, .i64 y => some (decide (y ≠ 0), .i64 (Int.tmod x y))
  | .quo, .u64 x, .u64 y => some (decide ((y.toNat : Int) ≠ 0), .u64 (x / y))
  | .rem, .u64 x, .u64 y => some (decide ((y.toNat : Int) ≠ 0), .u64 (x % y))
  | .quo, .u8 x, .u8 y => some (decide ((y.toNat : Int) ≠ 0), .u8 (x / y))
  | .rem, .u8 x, .u8 y => some (decide ((y.toNat : Int) ≠ 0), .u8 (x % y))
  | _, _, _ => none
def shA (op : BinOp) (a : AV T) (y : Int) : Option (AV T) := match op, a with
  | .shl, .i64 x => some (.i64 (shlI x y))
  | .shr, .i64 x => some (.i64 (shrI x y))
  | .shl, .u64 x => some (.u64 (shl64 x y))
  | .shr, .u64 x => some (.u64 (shr64 x y))
  | .shl, .u32 x => some (.u32 (shl32 x y))
  | .shr, .u32 x => some (.u32 (shr32 x y))
  | .shl, .u8 x => some (.u8 (shl8 x y))
  | .shr, .u8 x => some (.u8 (shr8 x y))
  | _, _ => none
def binB (op : BinOp) (a b : AV T) (kb : Bool) (k : AV T → Option ρ) : Option (Option ρ) := match divA op a b with
  | some (c, v) => some (grd kb c (k v))
  | none => match iv b with
    | some y => match shA op a y with
      | some v => some (cond (isU b) (k v) (grd kb (decide (0 ≤ y)) (k v)))
      | none => none
    | none => match op, a, b with
      | .add, .str x, .str y => some ((cat x y).bind fun z => k (.str z))
      | _, _, _ => none
def bndA (ev : Operand → Option (AV T)) (x : Option Operand) (d : Int) : Option Int := match x with
  | none => some d
  | some x => match ev x with
    | some a => iv a
    | none => none
def sizeA (P : Program) (t : TypeId) : Nat := match P.info? t with
  | some i => i.size
  | none => 0
def slcE (P : Program) (t : TypeId) : Option TypeId := match P.underlying t with
  | some (.slice e) => some e
  | _ => none
end
section
variable (P : Program) (tb : Tab) {ρ : Type} (ev : Operand → Option (AV tb.T))
def slB' (t n : Nat) : Bool := match slcE P t with
  | some e => slB P t e (tb.rep n).sz
  | none => false
def isStrT (P : Program) (t : TypeId) : Bool := match P.underlying t with
  | some .string => true
  | _ => false
def sliceB (t : TypeId) (a : AV tb.T) (lo hi : Option Operand) (k : AV tb.T → Option ρ) : Option ρ := match a with
  | .str l => cond (isStrT P t) (match bndA ev lo 0, bndA ev hi (l.length : Int) with
    | some x, some y => (slc l x y).bind fun z => k (.str z)
    | _, _ => none) none
  | .sl n l => cond (slB' P tb t n) (match bndA ev lo 0, bndA ev hi (l.length : Int) with
    | some x, some y => (slc l x y).bind fun z => k (.sl n z)
    | _, _ => none) none
  | _ => none
def idxB (t : TypeId) (a b : AV tb.T) (k : AV tb.T → Option ρ) : Option ρ := match iv b with
  | none => none
  | some i => match a with
    | .sl n l => cond (slB' P tb t n && Nat.blt 0 (tb.rep n).sz) ((idx l i).bind fun x => k (.cells 0 (tb.ex n x))) none
    | .glob g => match tb.gl g, P.underlying t with
      | some ⟨n, l⟩, some (.array N e) => cond (arB P t N e (tb.rep n).sz && Nat.beq l.length N) ((idx l i).bind fun x => k (.cells 0 (tb.ex n x))) none
      | _, _ => none
    | _ => none
def strB (t : TypeId) (a b : AV tb.T) (k : AV tb.T → Option ρ) : Option ρ := match a, iv b with
  | .str l, some i => cond (isStrT P t) ((idx l i).bind fun c => k (.u8 c)) none
  | _, _ => none
def loadB (t : TypeId) (a : AV tb.T) : Option (AV tb.T) := match a with
  | .cells off l => match P.underlying t with
    | some d => match isAggD d with
      | true => cond (Nat.ble (off + sizeA P t) l.length && aggB P t (sizeA P t)) (some (.agg ((l.drop off).take (sizeA P t)))) none
      | false => cond (oneB P t) l[off]? none
    | none => none
  | _ => none
def convB (s d : TypeId) (a : AV tb.T) : Option (AV tb.T) := match a with
  | .sl n l => match tb.tou8 n l, P.underlying s, P.underlying d with
    | some x, some (.slice e), some .string => match P.underlying e with
      | some (.int .u8) => some (.str x)
      | _ => none
    | _, _, _ => none
  | .nils => match P.underlying s, P.underlying d with
    | some (.slice e), some .string => match P.underlying e with
      | some (.int .u8) => some (.str [])
      | _ => none
    | _, _ => none
  | _ => none
def opB (o : Oper) (k : AV tb.T → Option ρ) : Option ρ := match o.op with
  | .binOp op t x y _ => match ev x, ev y with
    | some a, some b => match binB op a b (isK y) k with
      | some r => r
      | none => match opV P ev o with
        | some v => k v
        | none => none
    | _, _ => none
  | .index t x y => match ev x, ev y with
    | some a, some b => strB P tb t a b k
    | _, _ => none
  | .slice t x lo hi none => match ev x with
    | some a => sliceB P tb ev t a lo hi k
    | none => none
  | .indexAddr t x y => match ev x, ev y with
    | some a, some b => idxB P tb t a b k
    | _, _ => none
  | .load t x => match ev x with
    | some a => match loadB P tb t a with
      | some v => k v
      | none => none
    | none => none
  | .convert s d x => match ev x with
    | some a => match convB P tb s d a with
      | some v => k v
      | none => match opV P ev o with
        | some v => k v
        | none => none
    | none => none
  | _ => match opV P ev o with
    | some v => k v
    | none => none
end
section
variable {P : Program} {tb : Tab} {η : List Value} {m : Mem} {ev : Operand → Option (AV tb.T)} {ρ : Operand → Value} {o : Oper} {v a b : AV tb.T} {x y : Value} {ρ' : Type} {k : AV tb.T → Option ρ'} {ans : ρ'}
theorem iv_ok {i : Int} (h : iv a = some i) (ha : R tb η m a x) : ∃ ik, x = .int ik i := by
  unfold iv at h
  split at h
  · cases h; exact ⟨_, ha⟩
  · cases h; exact ⟨_, ha⟩
  · cases h; exact ⟨_, ha⟩
  · cases h; exact ⟨_, ha⟩
  · cases h; exact ⟨_, ha⟩
  · cases h
theorem isU_ok {i : Int} (h : isU a = true) (hi : iv a = some i) : 0 ≤ i := by
  cases a <;> simp only [isU, Bool.false_eq_true] at h <;> simp only [iv, Option.some.injEq] at hi <;> omega
theorem q8_quo' (x y : UInt8) (h : (y.toNat : Int) ≠ 0) {w : World} : (vS (Op.intDiv .quo .u8 (x.toNat : Int) (y.toNat : Int))).run P w = .ok (.value (.int .u8 ((x / y).toNat : Int))) w := by rw [quo_run .u8 _ _ h, q8_quo x y _ _ rfl rfl]
theorem divA_ok {op : BinOp} {t : TypeId} {p q : Operand} {c : Bool} (h : divA op a b = some (c, v)) (hc : c = true) (ha : R tb η m a x) (hb : R tb η m b y) : Run0 P tb η m (vS (do eqGuard op t p q x y; binOp op t x y)) v := by
  unfold divA at h
  split at h <;> cases h <;> simp only [R] at ha hb <;> subst ha hb <;> have hne := of_decide_eq_true hc
  · exact Run0.fix (fun w => bin_run (guard_int _ _ _ _ _ _ _ _) (by show (Op.intDiv .quo .i64 _ _).run P w = _; simp only [Op.intDiv, if_neg hne]; rfl)) rfl
  · exact Run0.fix (fun w => bin_run (guard_int _ _ _ _ _ _ _ _) (by show (Op.intDiv .rem .i64 _ _).run P w = _; simp only [Op.intDiv, if_neg hne]; rfl)) rfl
  · exact Run0.fix (fun w => bin_run (guard_int _ _ _ _ _ _ _ _) (by show (Op.intDiv .quo .u64 _ _).run P w = _; simp only [Op.intDiv, if_neg hne]; rfl)) (congrArg (Value.int .u64) (q64_quo _ _ _ _ rfl rfl))
  · exact Run0.fix (fun w => bin_run (guard_int _ _ _ _ _ _ _ _) (by show (Op.intDiv .rem .u64 _ _).run P w = _; simp only [Op.intDiv, if_neg hne]; rfl)) (congrArg (Value.int .u64) (q64_rem _ _ _ _ rfl rfl))
  · exact Run0.fix (fun w => bin_run (guard_int _ _ _ _ _ _ _ _) (by show (Op.intDiv .quo .u8 _ _).run P w = _; simp only [Op.intDiv, if_neg hne]; rfl)) (congrArg (Value.int .u8) (q8_quo _ _ _ _ rfl rfl))
  · exact Run0.fix (fun w => bin_run (guard_int _ _ _ _ _ _ _ _) (by show (Op.intDiv .rem .u8 _ _).run P w = _; simp only [Op.intDiv, if_neg hne]; rfl)) (congrArg (Value.int .u8) (q8_rem _ _ _ _ rfl rfl))
theorem sh_bin {op : BinOp} {t : TypeId} {p q : Operand} {k k' : IntKind} {x y z : Int} (h : (op matches .shl | .shr) = true) (hr : ∀ w, (vS (Op.shift op k x k' y)).run P w = .ok (.value (.int k z)) w) (w : World) : (vS (do eqGuard op t p q (.int k x) (.int k' y); binOp op t (.int k x) (.int k' y))).run P w = .ok (.value (.int k z)) w := by
  have h1 : (vS (do eqGuard op t p q (.int k x) (.int k' y); binOp op t (.int k x) (.int k' y))).run P w = (vS (Op.shift op k x k' y)).run P w := by
    simp only [vS, Sem.run_bind, guard_int, Result.andThen_ok]
    cases op <;> first | rfl | cases h
  rw [h1]; exact hr w
theorem shA_ok {op : BinOp} {t : TypeId} {p q : Operand} {i : Int} {k' : IntKind} (h : shA op a i = some v) (h0 : 0 ≤ i) (ha : R tb η m a x) : Run0 P tb η m (vS (do eqGuard op t p q x (.int k' i); binOp op t x (.int k' i))) v := by
  unfold shA at h
  split at h <;> cases h <;> simp only [R] at ha <;> subst ha
  · exact Run0.fix (sh_bin rfl fun w => shlI_run _ _ h0) rfl
  · exact Run0.fix (sh_bin rfl fun w => shrI_run _ _ h0) rfl
  · exact Run0.fix (sh_bin rfl fun w => shl64_run _ _ h0) rfl
  · exact Run0.fix (sh_bin rfl fun w => shr64_run _ _ h0) rfl
  · exact Run0.fix (sh_bin rfl fun w => shl32_run _ _ h0) rfl
  · exact Run0.fix (sh_bin rfl fun w => shr32_run _ _ h0) rfl
  · exact Run0.fix (sh_bin rfl fun w => shl8_run _ _ h0) rfl
  · exact Run0.fix (sh_bin rfl fun w => shr8_run _ _ h0) rfl
theorem binB_ok {op : BinOp} {t : TypeId} {p q : Operand} {kb : Bool} (h : binB op a b kb k = some (some ans)) (ha : R tb η m a x) (hb : R tb η m b y) : ∃ v, k v = some ans ∧ Run0 P tb η m (vS (do eqGuard op t p q x y; binOp op t x y)) v := by
  unfold binB at h
  split at h
  · rename_i c v hd
    obtain ⟨h1, h2⟩ := grd_some (Option.some.inj h)
    exact ⟨v, h2, divA_ok hd h1 ha hb⟩
  · split at h
    · rename_i i hi
      split at h
      · rename_i v hv
        have h := Option.some.inj h
        obtain ⟨ik, rfl⟩ := iv_ok hi hb
        have : 0 ≤ i ∧ k v = some ans := by
          cases hu : isU b with
          | true => rw [hu] at h; exact ⟨isU_ok hu hi, h⟩
          | false =>
            rw [hu] at h
            obtain ⟨h1, h2⟩ := grd_some h
            exact ⟨of_decide_eq_true h1, h2⟩
        exact ⟨v, this.2, shA_ok hv this.1 ha⟩
      · cases h
    · split at h
      · rename_i l l' _ _
        obtain ⟨z, hz, hk⟩ := bindE (Option.some.inj h)
        obtain ⟨rfl, ha2⟩ := ha
        obtain ⟨rfl, hb2⟩ := hb
        obtain ⟨h1, h2⟩ := cat_some hz
        refine ⟨_, hk, Run0.fix (u := .string ⟨z.toArray⟩) (fun w => ?_) ⟨rfl, ?_⟩⟩
        · have := cat_runY (P := P) t hz (w := w)
          have e : (vS (do eqGuard .add t p q (.string ⟨l.toArray⟩) (.string ⟨l'.toArray⟩); binOp .add t (.string ⟨l.toArray⟩) (.string ⟨l'.toArray⟩))).run P w = (vS (Op.stringOp .add ⟨l.toArray⟩ ⟨l'.toArray⟩)).run P w := by
            simp only [vS, Sem.run_bind, guard_str, Result.andThen_ok]
            rfl
          rw [e]; exact this
        · rw [h2, List.length_append]; exact h1
      · cases h
theorem bndA_ok (he : Ev tb η m ev ρ) {z : Option Operand} {d i : Int} (h : bndA ev z d = some i) : (z.map ρ = none ∧ i = d) ∨ ∃ ik, z.map ρ = some (.int ik i) := by
  unfold bndA at h
  split at h
  · cases h; exact .inl ⟨rfl, rfl⟩
  · split at h
    · rename_i a ha
      obtain ⟨ik, hx⟩ := iv_ok h (he _ _ ha)
      exact .inr ⟨ik, by simp [hx]⟩
    · cases h
theorem isStrT_ok {t : TypeId} (h : isStrT P t = true) : P.underlying t = some .string := by
  unfold isStrT at h
  split at h
  · assumption
  · cases h
theorem slB'_ok {t n : Nat} (h : slB' P tb t n = true) : ∃ e, slB P t e (tb.rep n).sz = true := by
  unfold slB' at h
  split at h
  · exact ⟨_, h⟩
  · cases h
theorem slc_run {α : Type} {r : Rep α} {t e : Nat} {A : Option Addr} {c : Nat} {l z : List α} {lo hi : Option Value} {i j : Int} (hs : SlI r m A c l) (ht : slB P t e r.sz = true) (hl : (lo = none ∧ i = 0) ∨ ∃ ik, lo = some (.int ik i)) (hh : (hi = none ∧ j = l.length) ∨ ∃ ik, hi = some (.int ik j)) (hz : slc l i j = some z) :
    ∃ A' c', (∀ w, (vS (Instr.sliceAt t (.slice A l.length c) lo hi none)).run P w = .ok (.value (.slice A' z.length c')) w) ∧ SlI r m A' c' z := by
  obtain ⟨⟨h1, h2, h3⟩, h4, h5⟩ := slc_some hz
  have hle := hs.le
  refine ⟨if c = i.toNat then A else A.map (·.add (i.toNat * r.sz)), c - i.toNat, fun w => ?_, ?_⟩
  · have := sli_run (P := P) (w := w) t e r.sz A l.length c lo hi i.toNat j.toNat ht ?_ ?_ (by omega) (by omega)
    · rw [this, show j.toNat - i.toNat = z.length by omega]
    · rcases hl with ⟨h, e1⟩ | ⟨ik, h⟩
      · exact .inl ⟨h, by omega⟩
      · exact .inr ⟨ik, i, h, by omega⟩
    · rcases hh with ⟨h, e1⟩ | ⟨ik, h⟩
      · exact .inl ⟨h, by omega⟩
      · exact .inr ⟨ik, j, h, by omega⟩
  · refine ⟨by omega, Nat.le_trans (Nat.sub_le _ _) hs.max, ?_⟩
    obtain ⟨xs, h6, h7⟩ := hs.cs
    refine ⟨(xs.take (j.toNat * r.sz)).drop (i.toNat * r.sz), by rw [h4]; exact (h6.take _).drop _, ?_⟩
    refine (h7.take _).cut i.toNat c ?_
    rw [List.length_take, h6.len]
    exact Nat.le_trans (Nat.min_le_right _ _) (Nat.mul_le_mul_right _ hs.le)
theorem sliceB_ok (he : Ev tb η m ev ρ) {t : TypeId} {lo hi : Option Operand} (h : sliceB P tb ev t a lo hi k = some ans) (ha : R tb η m a x) : ∃ v, k v = some ans ∧ Run0 P tb η m (vS (Instr.sliceAt t x (lo.map ρ) (hi.map ρ) none)) v := by
  unfold sliceB at h
  split at h
  · rename_i l
    cases hc : isStrT P t with
    | false => rw [hc] at h; cases h
    | true =>
      rw [hc] at h
      simp only [cond_true] at h
      split at h
      · rename_i i j h1 h2
        obtain ⟨z, hz, hk⟩ := bindE h
        obtain ⟨rfl, ha2⟩ := ha
        exact ⟨_, hk, Run0.fix (fun w => str_slice_run t l z _ _ i j (isStrT_ok hc) (bndA_ok he h1) (bndA_ok he h2) hz) ⟨rfl, Nat.le_trans (slc_le hz) ha2⟩⟩
      · cases h
  · rename_i n l
    cases hc : slB' P tb t n with
    | false => rw [hc] at h; cases h
    | true =>
      rw [hc] at h
      simp only [cond_true] at h
      split at h
      · rename_i i j h1 h2
        obtain ⟨z, hz, hk⟩ := bindE h
        obtain ⟨A, c, rfl, hs⟩ := ha
        obtain ⟨e, ht⟩ := slB'_ok hc
        obtain ⟨A', c', h3, h4⟩ := slc_run hs ht (bndA_ok he h1) (bndA_ok he h2) hz
        exact ⟨_, hk, Run0.fix h3 ⟨A', c', rfl, h4⟩⟩
      · cases h
  · cases h
theorem ex_cells {n : Nat} {z : tb.T n} {ad : Addr} {cs : List Value} (T : TabOk tb) (h : (tb.rep n).im m cs z) (hc : ∀ j u, cs[j]? = some u → mc m (ad.add j) = some u) : R tb η m (.cells 0 (tb.ex n z)) (.pointer (some ad)) :=
  ⟨ad, cs, by simp [Addr.add], fun j u hj => ⟨ad, rfl, hc j u hj⟩, T.ex h⟩
theorem idxB_ok (T : TabOk tb) (G : Glob tb m) {t : TypeId} (h : idxB P tb t a b k = some ans) (ha : R tb η m a x) (hb : R tb η m b y) : ∃ v, k v = some ans ∧ Run0 P tb η m (vS (Instr.indexAt t x y)) v := by
  unfold idxB at h
  split at h
  · cases h
  · rename_i i hi
    obtain ⟨ik, rfl⟩ := iv_ok hi hb
    split at h
    · rename_i n l
      cases hc : (slB' P tb t n && Nat.blt 0 (tb.rep n).sz) with
      | false => rw [hc] at h; cases h
      | true =>
        rw [hc] at h
        rw [Bool.and_eq_true] at hc
        obtain ⟨z, hz, hk⟩ := bindE h
        obtain ⟨A, c, rfl, hs⟩ := ha
        obtain ⟨e, ht⟩ := slB'_ok hc.1
        obtain ⟨h0, h1, h2⟩ := idx_some hz
        obtain ⟨ad, cs, rfl, h3, h4⟩ := hs.at_ h2 (by simpa [Nat.blt_eq] using hc.2)
        exact ⟨_, hk, Run0.fix (fun w => idx_run t e (tb.rep n).sz _ ad l.length c ik i _ rfl ht h0 h1 rfl) (ex_cells T h3 h4)⟩
    · rename_i g
      split at h
      · rename_i n l N e hg hu
        cases hc : (arB P t N e (tb.rep n).sz && Nat.beq l.length N) with
        | false => rw [hc] at h; cases h
        | true =>
          rw [hc] at h
          rw [Bool.and_eq_true] at hc
          obtain ⟨z, hz, hk⟩ := bindE h
          have hx : x = .pointer (some ⟨g, 0, none⟩) := ha
          subst hx
          obtain ⟨h0, h1, h2⟩ := idx_some hz
          have hN := beq_t hc.2
          obtain ⟨ty, fr, xs, h3, h4⟩ := G hg
          obtain ⟨cs, h5, h6⟩ := h4.get h2
          refine ⟨_, hk, Run0.fix (fun w => idxA_run t N e (tb.rep n).sz ⟨g, 0, none⟩ ik i hc.1 h0 (by omega)) (ex_cells T h5 fun j u hj => ?_)⟩
          rw [Addr.add_lit, Addr.add_lit, Nat.zero_add]
          exact mc_blk h3 (h6 j u hj)
      · cases h
    · cases h
theorem strB_ok {t : TypeId} (h : strB P tb t a b k = some ans) (ha : R tb η m a x) (hb : R tb η m b y) : ∃ v, k v = some ans ∧ Run0 P tb η m (vS (Instr.index t x y)) v := by
  unfold strB at h
  split at h
  · rename_i l i hi
    obtain ⟨ik, rfl⟩ := iv_ok hi hb
    cases hc : isStrT P t with
    | false => rw [hc] at h; cases h
    | true =>
      rw [hc] at h
      obtain ⟨z, hz, hk⟩ := bindE h
      obtain ⟨rfl, _⟩ := ha
      exact ⟨_, hk, Run0.fix (fun w => str_idx_run t l ik i z (isStrT_ok hc) hz) rfl⟩
  · cases h
theorem loadB_ok {t : TypeId} (h : loadB P tb t a = some v) (ha : R tb η m a x) : Run0 P tb η m (vS (Instr.loadAt t x)) v := by
  unfold loadB at h
  split at h
  · rename_i off l
    obtain ⟨A, cs, rfl, hA, hl⟩ := ha
    split at h
    · rename_i d hu
      split at h
      · rename_i hg
        cases hc : (Nat.ble (off + sizeA P t) l.length && aggB P t (sizeA P t)) with
        | false => rw [hc] at h; cases h
        | true =>
          rw [hc] at h
          cases h
          rw [Bool.and_eq_true] at hc
          have h1 := Nat.le_of_ble_eq_true hc.1
          refine ⟨.agg ((cs.drop off).take (sizeA P t)).toArray, fun w hw => ?_, (cs.drop off).take (sizeA P t), rfl, (hl.drop _).take _⟩
          have hlen : ((cs.drop off).take (sizeA P t)).length = sizeA P t := by
            rw [List.length_take, List.length_drop, hl.len]; omega
          refine aggRun t _ _ (by rw [hlen]; exact hc.2) ?_
          intro j u hj
          have hj2 : cs[off + j]? = some u := by
            rw [List.getElem?_take] at hj
            split at hj
            · rwa [List.getElem?_drop] at hj
            · cases hj
          obtain ⟨ad, e1, e2⟩ := hA _ _ hj2
          cases e1
          rw [add_add]
          exact hw.cell e2
      · cases hc : oneB P t with
        | false => rw [hc] at h; cases h
        | true =>
          rw [hc] at h
          obtain ⟨u, hu2, hr⟩ := hl.get h
          refine ⟨u, fun w hw => ?_, hr⟩
          obtain ⟨ad, e1, e2⟩ := hA _ _ hu2
          cases e1
          exact ld_run t _ u hc (hw.cell e2)
    · cases h
  · cases h
theorem convB_ok (T : TabOk tb) {s d : TypeId} (h : convB P tb s d a = some v) (ha : R tb η m a x) : Run0 P tb η m (vS (convert s d x)) v := by
  unfold convB at h
  split at h
  · rename_i n l
    obtain ⟨A, c, rfl, hs⟩ := ha
    split at h
    · rename_i z e hz hus hud
      split at h
      · rename_i hue
        cases h
        have h1 : ∃ x' : List UInt8, l.length = z.length ∧ SlI rU8 m A c z := T.tou8 hz (fun α r y => ∃ x' : List UInt8, l.length = y.length ∧ SlI r m A c y) ⟨[], rfl, hs⟩
        obtain ⟨_, h2, h3⟩ := h1
        rw [h2]
        exact ⟨_, fun w hw => b2s_run s d e A z.length c z hus hue hud (h3.bytes.cs hw) rfl, rfl, h3.bound⟩
      · cases h
    · cases h
  · have hx : x = .slice none 0 0 := ha
    subst hx
    split at h
    · rename_i e hus hud
      split at h
      · rename_i hue
        cases h
        exact ⟨_, fun w hw => b2s_run s d e none 0 0 [] hus hue hud (Cs.nil 0 0 _ none) rfl, rfl, by simp⟩
      · cases h
    · cases h
  · cases h
theorem exec_index {p q : Operand} {t : Nat} (h : o.op = .index t p q) : execOp ρ o = vS (Instr.index t (ρ p) (ρ q)) := by unfold execOp; rw [h]; rfl
theorem exec_indexAddr {p q : Operand} {t : Nat} (h : o.op = .indexAddr t p q) : execOp ρ o = vS (Instr.indexAt t (ρ p) (ρ q)) := by unfold execOp; rw [h]; rfl
theorem exec_load {p : Operand} {t : Nat} (h : o.op = .load t p) : execOp ρ o = vS (Instr.loadAt t (ρ p)) := by unfold execOp; rw [h]; rfl
theorem exec_slice {p : Operand} {t : Nat} {lo hi mx : Option Operand} (h : o.op = .slice t p lo hi mx) : execOp ρ o = vS (Instr.sliceAt t (ρ p) (lo.map ρ) (hi.map ρ) (mx.map ρ)) := by unfold execOp; rw [h]; rfl
theorem kV (he : Ev tb η m ev ρ) (h : (match opV P ev o with
    | some v => k v
    | none => none) = some ans) : ∃ v, k v = some ans ∧ Run0 P tb η m (execOp ρ o) v := by
  split at h
  · rename_i v hv; exact ⟨v, h, opV_ok he hv⟩
  · cases h
theorem opB_ok (T : TabOk tb) (G : Glob tb m) (he : Ev tb η m ev ρ) (h : opB P tb ev o k = some ans) : ∃ v, k v = some ans ∧ Run0 P tb η m (execOp ρ o) v := by
  unfold opB at h
  split at h
  · rename_i op t p q yt ho
    split at h
    · rename_i a b ha hb
      split at h
      · rename_i r hr
        subst h
        rw [exec_binOp ho]; exact binB_ok hr (he _ _ ha) (he _ _ hb)
      · exact kV he h
    · cases h
  · rename_i t p q ho
    split at h
    · rename_i a b ha hb
      rw [exec_index ho]; exact strB_ok h (he _ _ ha) (he _ _ hb)
    · cases h
  · rename_i t p lo hi ho
    split at h
    · rename_i a ha
      rw [exec_slice ho]; exact sliceB_ok he h (he _ _ ha)
    · cases h
  · rename_i t p q ho
    split at h
    · rename_i a b ha hb
      rw [exec_indexAddr ho]; exact idxB_ok T G h (he _ _ ha) (he _ _ hb)
    · cases h
  · rename_i t p ho
    split at h
    · rename_i a ha
      split at h
      · rename_i v hv
        rw [exec_load ho]; exact ⟨v, h, loadB_ok hv (he _ _ ha)⟩
      · cases h
    · cases h
  · rename_i s d p ho
    split at h
    · rename_i a ha
      split at h
      · rename_i v hv
        rw [exec_convert ho]; exact ⟨v, h, convB_ok T hv (he _ _ ha)⟩
      · exact kV he h
    · cases h
  · exact kV he h
end
end Go.Proofs.YtbldeodchhfjfaaGreatDoor.K.E
