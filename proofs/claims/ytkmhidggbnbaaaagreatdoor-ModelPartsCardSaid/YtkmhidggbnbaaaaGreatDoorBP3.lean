/- Texts in one: E5 E6 E7 E8 E8Z E9. -/
import Derived.Test.YtkmhidggbnbaaaaGreatDoorBP2
import Derived.Test.YtkmhidggbnbaaaaGreatDoorBP1
import Derived.Lib.AppendZerosOnto
import Derived.Laws.MakeOwn
set_option linter.unusedVariables false
set_option linter.unusedSimpArgs false
set_option linter.unusedSectionVars false
namespace Go.Proofs.YtkmhidggbnbaaaaGreatDoor.K.E
open Go Go.RowKit
section
variable {T : Nat → Type} {ρ : Type}
def grd (c b : Bool) (r : Option ρ) : Option ρ := match c with
  | true => cond b r none
  | false => (chk b).bind fun _ => r
theorem grd_some {c b : Bool} {r : Option ρ} {x : ρ} (h : grd c b r = some x) : b = true ∧ r = some x := by
  unfold grd at h
  cases c
  · exact chkE h
  · cases b
    · cases h
    · exact ⟨rfl, h⟩
def isK : Operand → Bool
  | .const _ => true
  | _ => false
def iv : AV T → Option Int
  | .i64 x => some x
  | .u8 x => some (x.toNat : Int)
  | .u32 x => some (x.toNat : Int)
  | .u64 x => some (x.toNat : Int)
  | .lit (.int _ x) => some x
  | _ => none
def isU : AV T → Bool
  | .u8 _ => true
  | .u32 _ => true
  | .u64 _ => true
  | _ => false
def divA (op : BinOp) (a b : AV T) : Option (Bool × AV T) := match op, a, b with
  | .quo, .i64 x, .i64 y => some (decide (y ≠ 0), .i64 (IntKind.i64.wrap (Int.tdiv x y)))
  | .rem, .i64 x, .i64 y => some (decide (y ≠ 0), .i64 (Int.tmod x y))
  | .quo, .u64 x, .u64 y => some (decide ((y.toNat : Int) ≠ 0), .u64 (x / y))
  | .rem, .u64 x, .u64 y => some (decide ((y.toNat : Int) ≠ 0), .u64 (x % y))
  | .quo, .u8 x, .u8 y => some (decide ((y.toNat : Int) ≠ 0), .u8 (x / y))
  | .rem, .u8 x, .u8 y => some (decide ((y.toNat : Int) ≠ 0), .u8 (x % y))
  | _, _, _ => none
def shA (op : BinOp) (a : AV T) (y : Int) : Option (AV T) := match op, a with
  | .shl, .i64 x => some (.i64 (shlI x y))
  | .shr, .i64 x => some (.i64 (shrI x y))
  | .shl, .u64 x => some (.u64 (shl64 x y))
  | .shr, .u64 x => some (.u64 (shr64 x y))
  | .shl, .u32 x => some (.u32 (shl32 x y))
  | .shr, .u32 x => some (.u32 (shr32 x y))
  | .shl, .u8 x => some (.u8 (shl8 x y))
  | .shr, .u8 x => some (.u8 (shr8 x y))
  | _, _ => none
def binB (op : BinOp) (a b : AV T) (kb : Bool) (k : AV T → Option ρ) : Option (Option ρ) := match divA op a b with
  | some (c, v) => some (grd kb c (k v))
  | none => match iv b with
    | some y => match shA op a y with
      | some v => some (cond (isU b) (k v) (grd kb (decide (0 ≤ y)) (k v)))
      | none => none
    | none => match op, a, b with
      | .add, .str x, .str y => some ((cat x y).bind fun z => k (.str z))
      | _, _, _ => none
def bndA (ev : Operand → Option (AV T)) (x : Option Operand) (d : Int) : Option Int := match x with
  | none => some d
  | some x => match ev x with
    | some a => iv a
    | none => none
def sizeA (P : Program) (t : TypeId) : Nat := match P.info? t with
  | some i => i.size
  | none => 0
def slcE (P : Program) (t : TypeId) : Option TypeId := match P.underlying t with
  | some (.slice e) => some e
  | _ => none
end
section
variable (P : Program) (tb : Tab) {ρ : Type} (ev : Operand → Option (AV tb.T))
def slB' (t n : Nat) : Bool := match slcE P t with
  | some e => slB P t e (tb.rep n).sz
  | none => false
def isStrT (P : Program) (t : TypeId) : Bool := match P.underlying t with
  | some .string => true
  | _ => false
def sliceB (t : TypeId) (a : AV tb.T) (lo hi : Option Operand) (k : AV tb.T → Option ρ) : Option ρ := match a with
  | .str l => cond (isStrT P t) (match bndA ev lo 0, bndA ev hi (l.length : Int) with
    | some x, some y => (slc l x y).bind fun z => k (.str z)
    | _, _ => none) none
  | .sl n l => cond (slB' P tb t n) (match bndA ev lo 0, bndA ev hi (l.length : Int) with
    | some x, some y => (slc l x y).bind fun z => k (.sl n z)
    | _, _ => none) none
  | _ => none
def idxB (t : TypeId) (a b : AV tb.T) (k : AV tb.T → Option ρ) : Option ρ := match iv b with
  | none => none
  | some i => match a with
    | .sl n l => cond (slB' P tb t n && Nat.blt 0 (tb.rep n).sz) ((idx l i).bind fun x => k (.cells 0 (tb.ex n x))) none
    | .glob g => match tb.gl g, P.underlying t with
      | some ⟨n, l⟩, some (.array N e) => cond (arB P t N e (tb.rep n).sz && Nat.beq l.length N) ((idx l i).bind fun x => k (.cells 0 (tb.ex n x))) none
      | _, _ => none
    | _ => none
def strB (t : TypeId) (a b : AV tb.T) (k : AV tb.T → Option ρ) : Option ρ := match a, iv b with
  | .str l, some i => cond (isStrT P t) ((idx l i).bind fun c => k (.u8 c)) none
  | _, _ => none
def loadB (t : TypeId) (a : AV tb.T) : Option (AV tb.T) := match a with
  | .cells off l => match P.underlying t with
    | some d => match isAggD d with
      | true => cond (Nat.ble (off + sizeA P t) l.length && aggB P t (sizeA P t)) (some (.agg ((l.drop off).take (sizeA P t)))) none
      | false => cond (oneB P t) l[off]? none
    | none => none
  | _ => none
def convB (s d : TypeId) (a : AV tb.T) : Option (AV tb.T) := match a with
  | .sl n l => match tb.tou8 n l, P.underlying s, P.underlying d with
    | some x, some (.slice e), some .string => match P.underlying e with
      | some (.int .u8) => some (.str x)
      | _ => none
    | _, _, _ => none
  | .nils => match P.underlying s, P.underlying d with
    | some (.slice e), some .string => match P.underlying e with
      | some (.int .u8) => some (.str [])
      | _ => none
    | _, _ => none
  | _ => none
def opB (o : Oper) (k : AV tb.T → Option ρ) : Option ρ := match o.op with
  | .binOp op t x y _ => match ev x, ev y with
    | some a, some b => match binB op a b (isK y) k with
      | some r => r
      | none => match opV P ev o with
        | some v => k v
        | none => none
    | _, _ => none
  | .index t x y => match ev x, ev y with
    | some a, some b => strB P tb t a b k
    | _, _ => none
  | .slice t x lo hi none => match ev x with
    | some a => sliceB P tb ev t a lo hi k
    | none => none
  | .indexAddr t x y => match ev x, ev y with
    | some a, some b => idxB P tb t a b k
    | _, _ => none
  | .load t x => match ev x with
    | some a => match loadB P tb t a with
      | some v => k v
      | none => none
    | none => none
  | .convert s d x => match ev x with
    | some a => match convB P tb s d a with
      | some v => k v
      | none => match opV P ev o with
        | some v => k v
        | none => none
    | none => none
  | _ => match opV P ev o with
    | some v => k v
    | none => none
end
section
variable {P : Program} {tb : Tab} {η : List Value} {m : Mem} {ev : Operand → Option (AV tb.T)} {ρ : Operand → Value} {o : Oper} {v a b : AV tb.T} {x y : Value} {ρ' : Type} {k : AV tb.T → Option ρ'} {ans : ρ'}
theorem iv_ok {i : Int} (h : iv a = some i) (ha : R tb η m a x) : ∃ ik, x = .int ik i := by
  unfold iv at h
  split at h
  · cases h; exact ⟨_, ha⟩
  · cases h; exact ⟨_, ha⟩
  · cases h; exact ⟨_, ha⟩
  · cases h; exact ⟨_, ha⟩
  · cases h; exact ⟨_, ha⟩
  · cases h
theorem isU_ok {i : Int} (h : isU a = true) (hi : iv a = some i) : 0 ≤ i := by
  cases a <;> simp only [isU, Bool.false_eq_true] at h <;> simp only [iv, Option.some.injEq] at hi <;> omega
theorem divA_ok {op : BinOp} {t : TypeId} {p q : Operand} {c : Bool} (h : divA op a b = some (c, v)) (hc : c = true) (ha : R tb η m a x) (hb : R tb η m b y) : Run0 P tb η m (vS (do eqGuard op t p q x y; binOp op t x y)) v := by
  unfold divA at h
  split at h <;> cases h <;> simp only [R] at ha hb <;> subst ha hb <;> have hne := of_decide_eq_true hc
  · exact Run0.fix (fun w => bin_run (guard_int _ _ _ _ _ _ _ _) (by show (Op.intDiv .quo .i64 _ _).run P w = _; simp only [Op.intDiv, if_neg hne]; rfl)) rfl
  · exact Run0.fix (fun w => bin_run (guard_int _ _ _ _ _ _ _ _) (by show (Op.intDiv .rem .i64 _ _).run P w = _; simp only [Op.intDiv, if_neg hne]; rfl)) rfl
  · exact Run0.fix (fun w => bin_run (guard_int _ _ _ _ _ _ _ _) (by show (Op.intDiv .quo .u64 _ _).run P w = _; simp only [Op.intDiv, if_neg hne]; rfl)) (congrArg (Value.int .u64) (q64_quo _ _ _ _ rfl rfl))
  · exact Run0.fix (fun w => bin_run (guard_int _ _ _ _ _ _ _ _) (by show (Op.intDiv .rem .u64 _ _).run P w = _; simp only [Op.intDiv, if_neg hne]; rfl)) (congrArg (Value.int .u64) (q64_rem _ _ _ _ rfl rfl))
  · exact Run0.fix (fun w => bin_run (guard_int _ _ _ _ _ _ _ _) (by show (Op.intDiv .quo .u8 _ _).run P w = _; simp only [Op.intDiv, if_neg hne]; rfl)) (congrArg (Value.int .u8) (q8_quo _ _ _ _ rfl rfl))
  · exact Run0.fix (fun w => bin_run (guard_int _ _ _ _ _ _ _ _) (by show (Op.intDiv .rem .u8 _ _).run P w = _; simp only [Op.intDiv, if_neg hne]; rfl)) (congrArg (Value.int .u8) (q8_rem _ _ _ _ rfl rfl))
theorem sh_bin {op : BinOp} {t : TypeId} {p q : Operand} {k k' : IntKind} {x y z : Int} (h : (op matches .shl | .shr) = true) (hr : ∀ w, (vS (Op.shift op k x k' y)).run P w = .ok (.value (.int k z)) w) (w : World) : (vS (do eqGuard op t p q (.int k x) (.int k' y); binOp op t (.int k x) (.int k' y))).run P w = .ok (.value (.int k z)) w := by
  have h1 : (vS (do eqGuard op t p q (.int k x) (.int k' y); binOp op t (.int k x) (.int k' y))).run P w = (vS (Op.shift op k x k' y)).run P w := by
    simp only [vS, Sem.run_bind, guard_int, Result.andThen_ok]
    cases op <;> first | rfl | cases h
  rw [h1]; exact hr w
theorem shA_ok {op : BinOp} {t : TypeId} {p q : Operand} {i : Int} {k' : IntKind} (h : shA op a i = some v) (h0 : 0 ≤ i) (ha : R tb η m a x) : Run0 P tb η m (vS (do eqGuard op t p q x (.int k' i); binOp op t x (.int k' i))) v := by
  unfold shA at h
  split at h <;> cases h <;> simp only [R] at ha <;> subst ha
  · exact Run0.fix (sh_bin rfl fun w => shlI_run _ _ h0) rfl
  · exact Run0.fix (sh_bin rfl fun w => shrI_run _ _ h0) rfl
  · exact Run0.fix (sh_bin rfl fun w => shl64_run _ _ h0) rfl
  · exact Run0.fix (sh_bin rfl fun w => shr64_run _ _ h0) rfl
  · exact Run0.fix (sh_bin rfl fun w => shl32_run _ _ h0) rfl
  · exact Run0.fix (sh_bin rfl fun w => shr32_run _ _ h0) rfl
  · exact Run0.fix (sh_bin rfl fun w => shl8_run _ _ h0) rfl
  · exact Run0.fix (sh_bin rfl fun w => shr8_run _ _ h0) rfl
theorem binB_ok {op : BinOp} {t : TypeId} {p q : Operand} {kb : Bool} (h : binB op a b kb k = some (some ans)) (ha : R tb η m a x) (hb : R tb η m b y) : ∃ v, k v = some ans ∧ Run0 P tb η m (vS (do eqGuard op t p q x y; binOp op t x y)) v := by
  unfold binB at h
  split at h
  · rename_i c v hd
    obtain ⟨h1, h2⟩ := grd_some (Option.some.inj h)
    exact ⟨v, h2, divA_ok hd h1 ha hb⟩
  · split at h
    · rename_i i hi
      split at h
      · rename_i v hv
        have h := Option.some.inj h
        obtain ⟨ik, rfl⟩ := iv_ok hi hb
        have : 0 ≤ i ∧ k v = some ans := by
          cases hu : isU b with
          | true => rw [hu] at h; exact ⟨isU_ok hu hi, h⟩
          | false =>
            rw [hu] at h
            obtain ⟨h1, h2⟩ := grd_some h
            exact ⟨of_decide_eq_true h1, h2⟩
        exact ⟨v, this.2, shA_ok hv this.1 ha⟩
      · cases h
    · split at h
      · rename_i l l' _ _
        obtain ⟨z, hz, hk⟩ := bindE (Option.some.inj h)
        obtain ⟨rfl, ha2⟩ := ha
        obtain ⟨rfl, hb2⟩ := hb
        obtain ⟨h1, h2⟩ := cat_some hz
        refine ⟨_, hk, Run0.fix (u := .string ⟨z.toArray⟩) (fun w => ?_) ⟨rfl, ?_⟩⟩
        · have := cat_runY (P := P) t hz (w := w)
          have e : (vS (do eqGuard .add t p q (.string ⟨l.toArray⟩) (.string ⟨l'.toArray⟩); binOp .add t (.string ⟨l.toArray⟩) (.string ⟨l'.toArray⟩))).run P w = (vS (Op.stringOp .add ⟨l.toArray⟩ ⟨l'.toArray⟩)).run P w := by
            simp only [vS, Sem.run_bind, guard_str, Result.andThen_ok]
            rfl
          rw [e]; exact this
        · rw [h2, List.length_append]; exact h1
      · cases h
theorem bndA_ok (he : Ev tb η m ev ρ) {z : Option Operand} {d i : Int} (h : bndA ev z d = some i) : (z.map ρ = none ∧ i = d) ∨ ∃ ik, z.map ρ = some (.int ik i) := by
  unfold bndA at h
  split at h
  · cases h; exact .inl ⟨rfl, rfl⟩
  · split at h
    · rename_i a ha
      obtain ⟨ik, hx⟩ := iv_ok h (he _ _ ha)
      exact .inr ⟨ik, by simp [hx]⟩
    · cases h
theorem isStrT_ok {t : TypeId} (h : isStrT P t = true) : P.underlying t = some .string := by
  unfold isStrT at h
  split at h
  · assumption
  · cases h
theorem slB'_ok {t n : Nat} (h : slB' P tb t n = true) : ∃ e, slB P t e (tb.rep n).sz = true := by
  unfold slB' at h
  split at h
  · exact ⟨_, h⟩
  · cases h
theorem slc_run {α : Type} {r : Rep α} {t e : Nat} {A : Option Addr} {c : Nat} {l z : List α} {lo hi : Option Value} {i j : Int} (hs : SlI r m A c l) (ht : slB P t e r.sz = true) (hl : (lo = none ∧ i = 0) ∨ ∃ ik, lo = some (.int ik i)) (hh : (hi = none ∧ j = l.length) ∨ ∃ ik, hi = some (.int ik j)) (hz : slc l i j = some z) :
    ∃ A' c', (∀ w, (vS (Instr.sliceAt t (.slice A l.length c) lo hi none)).run P w = .ok (.value (.slice A' z.length c')) w) ∧ SlI r m A' c' z := by
  obtain ⟨⟨h1, h2, h3⟩, h4, h5⟩ := slc_some hz
  have hle := hs.le
  refine ⟨if c = i.toNat then A else A.map (·.add (i.toNat * r.sz)), c - i.toNat, fun w => ?_, ?_⟩
  · have := sli_run (P := P) (w := w) t e r.sz A l.length c lo hi i.toNat j.toNat ht ?_ ?_ (by omega) (by omega)
    · rw [this, show j.toNat - i.toNat = z.length by omega]
    · rcases hl with ⟨h, e1⟩ | ⟨ik, h⟩
      · exact .inl ⟨h, by omega⟩
      · exact .inr ⟨ik, i, h, by omega⟩
    · rcases hh with ⟨h, e1⟩ | ⟨ik, h⟩
      · exact .inl ⟨h, by omega⟩
      · exact .inr ⟨ik, j, h, by omega⟩
  · refine ⟨by omega, Nat.le_trans (Nat.sub_le _ _) hs.max, ?_⟩
    obtain ⟨xs, h6, h7⟩ := hs.cs
    refine ⟨(xs.take (j.toNat * r.sz)).drop (i.toNat * r.sz), by rw [h4]; exact (h6.take _).drop _, ?_⟩
    refine (h7.take _).cut i.toNat c ?_
    rw [List.length_take, h6.len]
    exact Nat.le_trans (Nat.min_le_right _ _) (Nat.mul_le_mul_right _ hs.le)
theorem sliceB_ok (he : Ev tb η m ev ρ) {t : TypeId} {lo hi : Option Operand} (h : sliceB P tb ev t a lo hi k = some ans) (ha : R tb η m a x) : ∃ v, k v = some ans ∧ Run0 P tb η m (vS (Instr.sliceAt t x (lo.map ρ) (hi.map ρ) none)) v := by
  unfold sliceB at h
  split at h
  · rename_i l
    cases hc : isStrT P t with
    | false => rw [hc] at h; cases h
    | true =>
      rw [hc] at h
      simp only [cond_true] at h
      split at h
      · rename_i i j h1 h2
        obtain ⟨z, hz, hk⟩ := bindE h
        obtain ⟨rfl, ha2⟩ := ha
        exact ⟨_, hk, Run0.fix (fun w => str_slice_run t l z _ _ i j (isStrT_ok hc) (bndA_ok he h1) (bndA_ok he h2) hz) ⟨rfl, Nat.le_trans (slc_le hz) ha2⟩⟩
      · cases h
  · rename_i n l
    cases hc : slB' P tb t n with
    | false => rw [hc] at h; cases h
    | true =>
      rw [hc] at h
      simp only [cond_true] at h
      split at h
      · rename_i i j h1 h2
        obtain ⟨z, hz, hk⟩ := bindE h
        obtain ⟨A, c, rfl, hs⟩ := ha
        obtain ⟨e, ht⟩ := slB'_ok hc
        obtain ⟨A', c', h3, h4⟩ := slc_run hs ht (bndA_ok he h1) (bndA_ok he h2) hz
        exact ⟨_, hk, Run0.fix h3 ⟨A', c', rfl, h4⟩⟩
      · cases h
  · cases h
theorem ex_cells {n : Nat} {z : tb.T n} {ad : Addr} {cs : List Value} (T : TabOk tb) (h : (tb.rep n).im m cs z) (hc : ∀ j u, cs[j]? = some u → mc m (ad.add j) = some u) : R tb η m (.cells 0 (tb.ex n z)) (.pointer (some ad)) :=
  ⟨ad, cs, by simp [Addr.add], fun j u hj => ⟨ad, rfl, hc j u hj⟩, T.ex h⟩
theorem idxB_ok (T : TabOk tb) (G : Glob tb m) {t : TypeId} (h : idxB P tb t a b k = some ans) (ha : R tb η m a x) (hb : R tb η m b y) : ∃ v, k v = some ans ∧ Run0 P tb η m (vS (Instr.indexAt t x y)) v := by
  unfold idxB at h
  split at h
  · cases h
  · rename_i i hi
    obtain ⟨ik, rfl⟩ := iv_ok hi hb
    split at h
    · rename_i n l
      cases hc : (slB' P tb t n && Nat.blt 0 (tb.rep n).sz) with
      | false => rw [hc] at h; cases h
      | true =>
        rw [hc] at h
        rw [Bool.and_eq_true] at hc
        obtain ⟨z, hz, hk⟩ := bindE h
        obtain ⟨A, c, rfl, hs⟩ := ha
        obtain ⟨e, ht⟩ := slB'_ok hc.1
        obtain ⟨h0, h1, h2⟩ := idx_some hz
        obtain ⟨ad, cs, rfl, h3, h4⟩ := hs.at_ h2 (by simpa [Nat.blt_eq] using hc.2)
        exact ⟨_, hk, Run0.fix (fun w => idx_run t e (tb.rep n).sz _ ad l.length c ik i _ rfl ht h0 h1 rfl) (ex_cells T h3 h4)⟩
    · rename_i g
      split at h
      · rename_i n l N e hg hu
        cases hc : (arB P t N e (tb.rep n).sz && Nat.beq l.length N) with
        | false => rw [hc] at h; cases h
        | true =>
          rw [hc] at h
          rw [Bool.and_eq_true] at hc
          obtain ⟨z, hz, hk⟩ := bindE h
          have hx : x = .pointer (some ⟨g, 0, none⟩) := ha
          subst hx
          obtain ⟨h0, h1, h2⟩ := idx_some hz
          have hN := beq_t hc.2
          obtain ⟨ty, fr, xs, h3, h4⟩ := G hg
          obtain ⟨cs, h5, h6⟩ := h4.get h2
          refine ⟨_, hk, Run0.fix (fun w => idxA_run t N e (tb.rep n).sz ⟨g, 0, none⟩ ik i hc.1 h0 (by omega)) (ex_cells T h5 fun j u hj => ?_)⟩
          rw [Addr.add_lit, Addr.add_lit, Nat.zero_add]
          exact mc_blk h3 (h6 j u hj)
      · cases h
    · cases h
theorem strB_ok {t : TypeId} (h : strB P tb t a b k = some ans) (ha : R tb η m a x) (hb : R tb η m b y) : ∃ v, k v = some ans ∧ Run0 P tb η m (vS (Instr.index t x y)) v := by
  unfold strB at h
  split at h
  · rename_i l i hi
    obtain ⟨ik, rfl⟩ := iv_ok hi hb
    cases hc : isStrT P t with
    | false => rw [hc] at h; cases h
    | true =>
      rw [hc] at h
      obtain ⟨z, hz, hk⟩ := bindE h
      obtain ⟨rfl, _⟩ := ha
      exact ⟨_, hk, Run0.fix (fun w => str_idx_run t l ik i z (isStrT_ok hc) hz) rfl⟩
  · cases h
theorem loadB_ok {t : TypeId} (h : loadB P tb t a = some v) (ha : R tb η m a x) : Run0 P tb η m (vS (Instr.loadAt t x)) v := by
  unfold loadB at h
  split at h
  · rename_i off l
    obtain ⟨A, cs, rfl, hA, hl⟩ := ha
    split at h
    · rename_i d hu
      split at h
      · rename_i hg
        cases hc : (Nat.ble (off + sizeA P t) l.length && aggB P t (sizeA P t)) with
        | false => rw [hc] at h; cases h
        | true =>
          rw [hc] at h
          cases h
          rw [Bool.and_eq_true] at hc
          have h1 := Nat.le_of_ble_eq_true hc.1
          refine ⟨.agg ((cs.drop off).take (sizeA P t)).toArray, fun w hw => ?_, (cs.drop off).take (sizeA P t), rfl, (hl.drop _).take _⟩
          have hlen : ((cs.drop off).take (sizeA P t)).length = sizeA P t := by
            rw [List.length_take, List.length_drop, hl.len]; omega
          refine aggRun t _ _ (by rw [hlen]; exact hc.2) ?_
          intro j u hj
          have hj2 : cs[off + j]? = some u := by
            rw [List.getElem?_take] at hj
            split at hj
            · rwa [List.getElem?_drop] at hj
            · cases hj
          obtain ⟨ad, e1, e2⟩ := hA _ _ hj2
          cases e1
          rw [add_add]
          exact hw.cell e2
      · cases hc : oneB P t with
        | false => rw [hc] at h; cases h
        | true =>
          rw [hc] at h
          obtain ⟨u, hu2, hr⟩ := hl.get h
          refine ⟨u, fun w hw => ?_, hr⟩
          obtain ⟨ad, e1, e2⟩ := hA _ _ hu2
          cases e1
          exact ld_run t _ u hc (hw.cell e2)
    · cases h
  · cases h
theorem convB_ok (T : TabOk tb) {s d : TypeId} (h : convB P tb s d a = some v) (ha : R tb η m a x) : Run0 P tb η m (vS (convert s d x)) v := by
  unfold convB at h
  split at h
  · rename_i n l
    obtain ⟨A, c, rfl, hs⟩ := ha
    split at h
    · rename_i z e hz hus hud
      split at h
      · rename_i hue
        cases h
        have h1 : ∃ x' : List UInt8, l.length = z.length ∧ SlI rU8 m A c z := T.tou8 hz (fun α r y => ∃ x' : List UInt8, l.length = y.length ∧ SlI r m A c y) ⟨[], rfl, hs⟩
        obtain ⟨_, h2, h3⟩ := h1
        rw [h2]
        exact ⟨_, fun w hw => b2s_run s d e A z.length c z hus hue hud (h3.bytes.cs hw) rfl, rfl, h3.bound⟩
      · cases h
    · cases h
  · have hx : x = .slice none 0 0 := ha
    subst hx
    split at h
    · rename_i e hus hud
      split at h
      · rename_i hue
        cases h
        exact ⟨_, fun w hw => b2s_run s d e none 0 0 [] hus hue hud (Cs.nil 0 0 _ none) rfl, rfl, by simp⟩
      · cases h
    · cases h
  · cases h
theorem exec_index {p q : Operand} {t : Nat} (h : o.op = .index t p q) : execOp ρ o = vS (Instr.index t (ρ p) (ρ q)) := by unfold execOp; rw [h]; rfl
theorem exec_indexAddr {p q : Operand} {t : Nat} (h : o.op = .indexAddr t p q) : execOp ρ o = vS (Instr.indexAt t (ρ p) (ρ q)) := by unfold execOp; rw [h]; rfl
theorem exec_load {p : Operand} {t : Nat} (h : o.op = .load t p) : execOp ρ o = vS (Instr.loadAt t (ρ p)) := by unfold execOp; rw [h]; rfl
theorem exec_slice {p : Operand} {t : Nat} {lo hi mx : Option Operand} (h : o.op = .slice t p lo hi mx) : execOp ρ o = vS (Instr.sliceAt t (ρ p) (lo.map ρ) (hi.map ρ) (mx.map ρ)) := by unfold execOp; rw [h]; rfl
theorem kV (he : Ev tb η m ev ρ) (h : (match opV P ev o with
    | some v => k v
    | none => none) = some ans) : ∃ v, k v = some ans ∧ Run0 P tb η m (execOp ρ o) v := by
  split at h
  · rename_i v hv; exact ⟨v, h, opV_ok he hv⟩
  · cases h
theorem opB_ok (T : TabOk tb) (G : Glob tb m) (he : Ev tb η m ev ρ) (h : opB P tb ev o k = some ans) : ∃ v, k v = some ans ∧ Run0 P tb η m (execOp ρ o) v := by
  unfold opB at h
  split at h
  · rename_i op t p q yt ho
    split at h
    · rename_i a b ha hb
      split at h
      · rename_i r hr
        subst h
        rw [exec_binOp ho]; exact binB_ok hr (he _ _ ha) (he _ _ hb)
      · exact kV he h
    · cases h
  · rename_i t p q ho
    split at h
    · rename_i a b ha hb
      rw [exec_index ho]; exact strB_ok h (he _ _ ha) (he _ _ hb)
    · cases h
  · rename_i t p lo hi ho
    split at h
    · rename_i a ha
      rw [exec_slice ho]; exact sliceB_ok he h (he _ _ ha)
    · cases h
  · rename_i t p q ho
    split at h
    · rename_i a b ha hb
      rw [exec_indexAddr ho]; exact idxB_ok T G h (he _ _ ha) (he _ _ hb)
    · cases h
  · rename_i t p ho
    split at h
    · rename_i a ha
      split at h
      · rename_i v hv
        rw [exec_load ho]; exact ⟨v, h, loadB_ok hv (he _ _ ha)⟩
      · cases h
    · cases h
  · rename_i s d p ho
    split at h
    · rename_i a ha
      split at h
      · rename_i v hv
        rw [exec_convert ho]; exact ⟨v, h, convB_ok T hv (he _ _ ha)⟩
      · exact kV he h
    · cases h
  · exact kV he h
end
end Go.Proofs.YtkmhidggbnbaaaaGreatDoor.K.E
set_option linter.unusedVariables false
set_option linter.unusedSimpArgs false
set_option linter.unusedSectionVars false
namespace Go.Proofs.YtkmhidggbnbaaaaGreatDoor.K.E
open Go Go.RowKit
structure Bs where
  w0 : World
  F0 : Nat → Prop
  m0 : Mem
  η0 : List Value
structure Wd (tb : Tab) (bs : Bs) (η : List Value) (m : Mem) (s : S tb.T) (w : World) : Prop where
  len : η.length = s.c
  le : Le bs.η0 η
  st : St bs.w0 bs.F0 bs.m0 m (its tb η s.σ) w
  gl : Glob tb m
def KR (tb : Tab) (η : List Value) (m : Mem) (κ : List (Nat × Nat × AV tb.T)) (κc : Kn) : Prop := ∀ t st v, lk κ t = some (st, v) → ∃ u, fnd κc t = some u ∧ R tb η m v u
structure Ext {T : Nat → Type} (s s' : S T) : Prop where
  c : s.c ≤ s'.c
  d : s.d ≤ s'.d
  κ : ∀ t st v, lk s'.κ t = some (st, v) → st < s.d → lk s.κ t = some (st, v)
  σ : ∀ t st v, lk s'.σ t = some (st, v) → st < s.d → lk s.σ t = some (st, v)
theorem Ext.refl {T : Nat → Type} (s : S T) : Ext s s := ⟨Nat.le_refl _, Nat.le_refl _, fun _ _ _ h _ => h, fun _ _ _ h _ => h⟩
theorem Ext.trans {T : Nat → Type} {a b c : S T} (h : Ext a b) (h' : Ext b c) : Ext a c :=
  ⟨Nat.le_trans h.c h'.c, Nat.le_trans h.d h'.d, fun t st v e l => h.κ t st v (h'.κ t st v e (Nat.lt_of_lt_of_le l h.d)) l, fun t st v e l => h.σ t st v (h'.σ t st v e (Nat.lt_of_lt_of_le l h.d)) l⟩
structure Rl (tb : Tab) (bs : Bs) (s : S tb.T) (κc : Kn) (w : World) : Prop where
  ex : ∃ η m, KR tb η m s.κ κc ∧ Wd tb bs η m s w
section
variable {tb : Tab} {bs : Bs} {η η' : List Value} {m m' : Mem} {s s' : S tb.T} {κc : Kn} {w w' : World}
theorem KR.mono {κ : List (Nat × Nat × AV tb.T)} (h : KR tb η m κ κc) (hη : Le η η') (hm : Sub m m') : KR tb η' m' κ κc := fun t st v e => let ⟨u, h1, h2⟩ := h t st v e; ⟨u, h1, R.mono hη hm v h2⟩
theorem KR.put (h : KR tb η m s.κ κc) {v : AV tb.T} {u : Value} (d : Option Nat) (hv : R tb η m v u) : KR tb η m (s.put d v).κ (putk d u κc) := by
  cases d with
  | none => exact h
  | some t0 =>
    intro t st v' e
    simp only [S.put, lk] at e
    simp only [putk, fnd]
    cases hb : Nat.beq t0 t with
    | true =>
      rw [hb] at e
      simp only [cond_true, Option.some.injEq, Prod.mk.injEq] at e
      obtain ⟨_, rfl⟩ := e
      exact ⟨u, rfl, hv⟩
    | false =>
      rw [hb] at e
      exact h t st v' e
theorem Wd.put (h : Wd tb bs η m s w) (d : Option Nat) (v : AV tb.T) : Wd tb bs η m (s.put d v) w := by
  cases d with
  | none => exact h
  | some t => exact ⟨h.len, h.le, h.st, h.gl⟩
theorem Ext.put (s : S tb.T) (d : Option Nat) (v : AV tb.T) : Ext s (s.put d v) := by
  cases d with
  | none => exact Ext.refl s
  | some t0 =>
    refine ⟨Nat.le_refl _, Nat.le_succ _, fun t st v' e l => ?_, fun _ _ _ e _ => e⟩
    simp only [S.put, lk] at e
    cases hb : Nat.beq t0 t with
    | true =>
      rw [hb] at e
      simp only [cond_true, Option.some.injEq, Prod.mk.injEq] at e
      obtain ⟨rfl, _⟩ := e
      exact absurd l (Nat.lt_irrefl _)
    | false =>
      rw [hb] at e
      exact e
theorem KR.ev (h : KR tb η m s.κ κc) : Ev tb η m (evA s.κ) (evT κc) := by
  intro x a e
  cases x with
  | tmp t =>
    simp only [evA] at e
    split at e
    · rename_i st v hv
      cases e
      obtain ⟨u, h1, h2⟩ := h _ _ _ hv
      simp only [evT, K.ev, h1, Option.getD_some]
      exact h2
    · cases e
  | const v => simp only [evA, Option.some.injEq] at e; subst e; exact cst_ok v
  | global g => simp only [evA, Option.some.injEq] at e; subst e; rfl
  | func f => simp only [evA, Option.some.injEq] at e; subst e; exact ⟨[], [], rfl, rfl, rfl⟩
theorem KR.known (h : KR tb η m s.κ κc) {x : Operand} {a : AV tb.T} (e : evA s.κ x = some a) : (K.ev κc x).isSome = true := by
  cases x with
  | tmp t =>
    simp only [evA] at e
    split at e
    · rename_i st v hv
      obtain ⟨u, h1, h2⟩ := h _ _ _ hv
      simp [K.ev, h1]
    · cases e
  | _ => rfl
theorem beq_ne {a b : Nat} (h : Nat.beq a b = false) : a ≠ b := fun e => by subst e; rw [Nat.beq_refl] at h; cases h
theorem lk_del {α : Type} : ∀ {l : List (Nat × Nat × α)} {t u : Nat} {p : Nat × α}, lk (del l t) u = some p → u ≠ t ∧ lk l u = some p
  | [], _, _, _, h => by cases h
  | (i, st, v) :: r, t, u, p, h => by
    simp only [del] at h
    cases hb : Nat.beq i t with
    | true =>
      have := beq_t hb
      subst this
      rw [hb] at h
      obtain ⟨h1, h2⟩ := lk_del (l := r) h
      refine ⟨h1, ?_⟩
      have hb2 : Nat.beq i u = false := by
        cases hb2 : Nat.beq i u with
        | true => exact absurd (beq_t hb2).symm h1
        | false => rfl
      simp only [lk, hb2, cond_false]
      exact h2
    | false =>
      rw [hb] at h
      simp only [cond_false, lk] at h ⊢
      cases hb2 : Nat.beq i u with
      | true =>
        rw [hb2] at h
        have := beq_t hb2
        subst this
        exact ⟨beq_ne hb, h⟩
      | false =>
        rw [hb2] at h
        exact lk_del h
theorem lk_sto {α : Type} {l : List (Nat × Nat × α)} {t u st : Nat} {v : α} {p : Nat × α} (h : lk (sto l t st v) u = some p) : (u = t ∧ p = (st, v)) ∨ lk l u = some p := by
  simp only [sto, lk] at h
  cases hb : Nat.beq t u with
  | true => rw [hb] at h; have := beq_t hb; subst this; exact .inl ⟨rfl, (Option.some.inj h).symm⟩
  | false => rw [hb] at h; exact .inr (lk_del h).2
theorem Wd.old (h : Wd tb bs η m s w) {id : Nat} {p : Nat × DI tb.T} (hl : lk s.σ id = some p) : id < s.c := by
  obtain ⟨F, h1, _⟩ := h.st.sep
  obtain ⟨F1, F2, h2, _⟩ := Sep_lk hl h1
  rw [← h.len]
  obtain ⟨st, x⟩ := p
  cases x with
  | blk t c => obtain ⟨g, cs, h3, _⟩ := h2; exact (List.getElem?_eq_some_iff.1 h3).1
  | row n t l => obtain ⟨A, c, h3, _⟩ := h2; exact (List.getElem?_eq_some_iff.1 h3).1
  | lit t k c => obtain ⟨g, cs, h3, _⟩ := h2; exact (List.getElem?_eq_some_iff.1 h3).1
  | kep t c j => obtain ⟨g, cs, ⟨h3, _⟩, _⟩ := h2; exact (List.getElem?_eq_some_iff.1 h3).1
  | gen n x j => obtain ⟨v, u, ⟨h3, _⟩, _⟩ := h2; exact (List.getElem?_eq_some_iff.1 h3).1
def pto {T : Nat → Type} (id o : Nat) : AV T → AV T
  | .cells 0 l => .cells o l
  | _ => .ptr id o
mutual
def hasA {T : Nat → Type} (id : Nat) : AV T → Bool
  | .row i => Nat.beq i id
  | .ptr i _ => Nat.beq i id
  | .cells _ l => hasL id l
  | .agg l => hasL id l
  | .tup l => hasL id l
  | .fn _ l c => hasL id l || hasL id c
  | _ => false
def hasL {T : Nat → Type} (id : Nat) : List (AV T) → Bool
  | [] => false
  | a :: l => hasA id a || hasL id l
end
mutual
def subA {T : Nat → Type} (id : Nat) (b : AV T) : AV T → AV T
  | .row i => cond (Nat.beq i id) b (.row i)
  | .ptr i o => cond (Nat.beq i id) (pto id o b) (.ptr i o)
  | .cells o l => .cells o (subL id b l)
  | .agg l => .agg (subL id b l)
  | .tup l => .tup (subL id b l)
  | .fn f l c => .fn f (subL id b l) (subL id b c)
  | a => a
def subL {T : Nat → Type} (id : Nat) (b : AV T) : List (AV T) → List (AV T)
  | [] => []
  | a :: l => subA id b a :: subL id b l
end
def SubOk (tb : Tab) (η : List Value) (m : Mem) (η' : List Value) (m' : Mem) (id : Nat) (b : AV tb.T) : Prop := (∀ v, R tb η m (.row id) v → R tb η' m' b v) ∧ ∀ o v, R tb η m (.ptr id o) v → R tb η' m' (pto id o b) v
mutual
theorem subA_ok {id : Nat} {b : AV tb.T} (hη : Le η η') (hm : Sub m m') (hb : SubOk tb η m η' m' id b) : ∀ (a : AV tb.T) {v : Value}, R tb η m a v → R tb η' m' (subA id b a) v
  | .row i, v, h => by
    simp only [subA]
    cases hi : Nat.beq i id with
    | true => have := beq_t hi; subst this; exact hb.1 v h
    | false => exact R.mono hη hm (.row i) h
  | .ptr i o, v, h => by
    simp only [subA]
    cases hi : Nat.beq i id with
    | true => have := beq_t hi; subst this; exact hb.2 o v h
    | false => exact R.mono hη hm (.ptr i o) h
  | .cells o l, v, ⟨A, cs, h1, h2, h3⟩ => ⟨A, cs, h1, h2.mono hm, subL_ok hη hm hb l h3⟩
  | .agg l, v, ⟨cs, h1, h3⟩ => ⟨cs, h1, subL_ok hη hm hb l h3⟩
  | .tup l, v, ⟨cs, h1, h3⟩ => ⟨cs, h1, subL_ok hη hm hb l h3⟩
  | .fn f l c, v, ⟨xs, ys, h1, h3, h4⟩ => ⟨xs, ys, h1, subL_ok hη hm hb l h3, subL_ok hη hm hb c h4⟩
  | .i64 x, v, h => h
  | .u8 x, v, h => h
  | .u32 x, v, h => h
  | .u16 x, v, h => h
  | .u64 x, v, h => h
  | .bool x, v, h => h
  | .str x, v, h => h
  | .sl n l, v, h => R.mono hη hm (.sl n l) h
  | .nils, v, h => h
  | .nilp, v, h => h
  | .one n x, v, h => R.mono hη hm (.one n x) h
  | .elt i j n o, v, h => R.mono hη hm (.elt i j n o) h
  | .glob g, v, h => h
  | .lit u, v, h => h
  | .any, v, h => h
theorem subL_ok {id : Nat} {b : AV tb.T} (hη : Le η η') (hm : Sub m m') (hb : SubOk tb η m η' m' id b) : ∀ (l : List (AV tb.T)) {vs : List Value}, RL tb η m l vs → RL tb η' m' (subL id b l) vs
  | [], vs, h => h
  | a :: l, vs, ⟨v, r, h1, h2, h3⟩ => ⟨v, r, h1, subA_ok hη hm hb a h2, subL_ok hη hm hb l h3⟩
end
theorem SubOk.pre {id : Nat} {b : AV tb.T} (h5 : Sub m m') (h : SubOk tb η m' η' m' id b) (hη : Le η η := Le.refl η) : SubOk tb η m η' m' id b := ⟨fun v hr => h.1 v (R.mono hη h5 (.row id) hr), fun o v hr => h.2 o v (R.mono hη h5 (.ptr id o) hr)⟩
def hK {T : Nat → Type} (id d : Nat) (b : AV T) (p : Nat × AV T) : Nat × AV T := cond (hasA id p.2) (d, subA id b p.2) p
def hS {T : Nat → Type} (id d : Nat) (b : AV T) (p : Nat × DI T) : Nat × DI T := match p.2 with
  | .blk t c => cond (hasL id c) (d, .blk t (subL id b c)) p
  | .lit t k c => cond (hasL id c) (d, .lit t k (subL id b c)) p
  | .kep t c j => cond (hasL id c) (d, .kep t (subL id b c) j) p
  | _ => p
def mapE {α : Type} (h : Nat × α → Nat × α) (l : List (Nat × Nat × α)) : List (Nat × Nat × α) := l.map fun e => (e.1, h e.2)
theorem lk_mapE {α : Type} (h : Nat × α → Nat × α) : ∀ (l : List (Nat × Nat × α)) (t : Nat), lk (mapE h l) t = (lk l t).map h
  | [], _ => rfl
  | (i, st, v) :: r, t => by
    show cond (Nat.beq i t) (some (h (st, v))) (lk (mapE h r) t) = Option.map h (cond (Nat.beq i t) (some (st, v)) (lk r t))
    cases Nat.beq i t with
    | true => rfl
    | false => exact lk_mapE h r t
mutual
theorem has_ok {id : Nat} {b : AV tb.T} : ∀ a : AV tb.T, hasA id a = false → subA id b a = a
  | .row i, h => by simp only [hasA] at h; simp only [subA, h, cond_false]
  | .cells o l, h => by simp only [hasA] at h; simp only [subA, hasL_ok l h]
  | .agg l, h => by simp only [hasA] at h; simp only [subA, hasL_ok l h]
  | .tup l, h => by simp only [hasA] at h; simp only [subA, hasL_ok l h]
  | .fn f l c, h => by simp only [hasA, Bool.or_eq_false_iff] at h; simp only [subA, hasL_ok l h.1, hasL_ok c h.2]
  | .i64 x, h => rfl
  | .u8 x, h => rfl
  | .u32 x, h => rfl
  | .u16 x, h => rfl
  | .u64 x, h => rfl
  | .bool x, h => rfl
  | .str x, h => rfl
  | .sl n l, h => rfl
  | .nils, h => rfl
  | .nilp, h => rfl
  | .one n x, h => rfl
  | .ptr i o, h => by simp only [hasA] at h; simp only [subA, h, cond_false]
  | .elt i j n o, h => rfl
  | .glob g, h => rfl
  | .lit u, h => rfl
  | .any, h => rfl
theorem hasL_ok {id : Nat} {b : AV tb.T} : ∀ l : List (AV tb.T), hasL id l = false → subL id b l = l
  | [], _ => rfl
  | a :: l, h => by simp only [hasL, Bool.or_eq_false_iff] at h; simp only [subL, has_ok a h.1, hasL_ok l h.2]
end
def chg {T : Nat → Type} (s : S T) (id : Nat) (b : AV T) : S T := { κ := mapE (hK id s.d b) s.κ, σ := mapE (hS id s.d b) (del s.σ id), c := s.c, d := s.d + 1 }
theorem its_sub {id d : Nat} {b : AV tb.T} (hb : SubOk tb η m η m id b) {w : World} : ∀ (σ : Sg tb.T) {F : Nat → Prop}, Sep m w (its tb η σ) F → Sep m w (its tb η (mapE (hS id d b) σ)) F
  | [], _, h => h
  | (i, st, x) :: r, F, ⟨F1, F2, h1, h2, h3, h4⟩ => by
    refine ⟨F1, F2, ?_, its_sub hb r h2, h3, h4⟩
    cases x with
    | row n t l => exact h1
    | gen n x j => exact h1
    | blk t c =>
      show (DI.item tb η i (hS id d b (st, .blk t c)).2).P m w F1
      simp only [hS]
      cases hh : hasL id c with
      | false => exact h1
      | true =>
        obtain ⟨g, cs, k1, k2, k3⟩ := h1
        exact ⟨g, cs, k1, subL_ok (Le.refl _) (Sub.refl _) hb c k2, k3⟩
    | lit t k c =>
      show (DI.item tb η i (hS id d b (st, .lit t k c)).2).P m w F1
      simp only [hS]
      cases hh : hasL id c with
      | false => exact h1
      | true =>
        obtain ⟨g, cs, k1, k2, k3⟩ := h1
        exact ⟨g, cs, k1, subL_ok (Le.refl _) (Sub.refl _) hb c k2, k3⟩
    | kep t c j =>
      show (DI.item tb η i (hS id d b (st, .kep t c j)).2).P m w F1
      simp only [hS]
      cases hh : hasL id c with
      | false => exact h1
      | true =>
        obtain ⟨g, cs, k1, k2, k3⟩ := h1
        exact ⟨g, cs, k1, subL_ok (Le.refl _) (Sub.refl _) hb c k2, k3⟩
theorem chg_ext {id : Nat} {b : AV tb.T} : Ext s (chg s id b) := by
  refine ⟨Nat.le_refl _, Nat.le_succ _, ?_, ?_⟩
  · intro t st v e l'
    unfold chg at e
    simp only at e
    rw [lk_mapE] at e
    obtain ⟨p, hp, e⟩ := Option.map_eq_some_iff.1 e
    unfold hK at e
    cases hh : hasA id p.2 with
    | true => rw [hh] at e; simp only [cond_true, Prod.mk.injEq] at e; rw [← e.1] at l'; exact absurd l' (Nat.lt_irrefl _)
    | false => rw [hh] at e; simp only [cond_false] at e; rw [hp, e]
  · intro t st v e l'
    unfold chg at e
    simp only at e
    rw [lk_mapE] at e
    obtain ⟨p, hp, e⟩ := Option.map_eq_some_iff.1 e
    have hp2 := (lk_del hp).2
    unfold hS at e
    split at e
    · rename_i t' c' hpc
      cases hh : hasL id c' with
      | true => rw [hh] at e; simp only [cond_true, Prod.mk.injEq] at e; rw [← e.1] at l'; exact absurd l' (Nat.lt_irrefl _)
      | false => rw [hh] at e; simp only [cond_false] at e; rw [hp2, e]
    · rename_i t' k' c' hpc
      cases hh : hasL id c' with
      | true => rw [hh] at e; simp only [cond_true, Prod.mk.injEq] at e; rw [← e.1] at l'; exact absurd l' (Nat.lt_irrefl _)
      | false => rw [hh] at e; simp only [cond_false] at e; rw [hp2, e]
    · rename_i t' c' k' hpc
      cases hh : hasL id c' with
      | true => rw [hh] at e; simp only [cond_true, Prod.mk.injEq] at e; rw [← e.1] at l'; exact absurd l' (Nat.lt_irrefl _)
      | false => rw [hh] at e; simp only [cond_false] at e; rw [hp2, e]
    · rw [hp2, e]
theorem chg_ok {id : Nat} {b : AV tb.T} (hw : Wd tb bs η m s w) (hk : KR tb η m s.κ κc) (h5 : Sub m m') (h7 : St bs.w0 bs.F0 bs.m0 m' (its tb η (del s.σ id)) w') (hb : SubOk tb η m' η m' id b) :
    KR tb η m' (chg s id b).κ κc ∧ Wd tb bs η m' (chg s id b) w' := by
  refine ⟨?_, hw.len, hw.le, ?_, Glob.mono hw.gl h5⟩
  · intro t st v e
    unfold chg at e
    simp only at e
    rw [lk_mapE] at e
    obtain ⟨p, hp, e⟩ := Option.map_eq_some_iff.1 e
    obtain ⟨u, h8, h9⟩ := hk t p.1 p.2 hp
    refine ⟨u, h8, ?_⟩
    have h10 := subA_ok (id := id) (b := b) (Le.refl η) (Sub.refl m') hb p.2 (R.mono (Le.refl _) h5 p.2 h9)
    unfold hK at e
    cases hh : hasA id p.2 with
    | true => rw [hh] at e; simp only [cond_true, Prod.mk.injEq] at e; rw [← e.2]; exact h10
    | false => rw [hh] at e; simp only [cond_false] at e; rw [has_ok _ hh] at h10; rw [e] at h10; exact h10
  · obtain ⟨G, g1, g2, g3⟩ := h7.sep
    exact ⟨h7.kp, h7.sub, h7.has, h7.new, G, its_sub hb _ g1, g2, g3⟩
theorem fix_sl {n t : Nat} {A : Option Addr} {c : Nat} {l : List (tb.T n)} {σ : List Item} {w0 : World} {F0 : Nat → Prop} {m0 : Mem} (H : St w0 F0 m0 m (rowI (tb.rep n) t A c l :: σ) w) : ∃ m1, Sub m m1 ∧ SlI (tb.rep n) m1 A c l ∧ St w0 F0 m0 m1 σ w := by
  obtain ⟨m1, h1, h2, h3⟩ := H.fixR 0 rfl
  exact ⟨m1, h1, h2, h3⟩
theorem St_ex {α : Type} {i : Item} {j : α → Item} {Q : α → Prop} {σ : List Item} {w0 : World} {F0 : Nat → Prop} {m0 : Mem} (H : St w0 F0 m0 m (i :: σ) w) (h : ∀ F, i.P m w F → ∃ y, Q y ∧ (j y).P m w F) : ∃ y, Q y ∧ St w0 F0 m0 m (j y :: σ) w := by
  obtain ⟨F, ⟨F1, F2, h1, h2, h3⟩, h4⟩ := H.sep
  obtain ⟨y, hq, hy⟩ := h F1 h1
  exact ⟨y, hq, H.kp, H.sub, H.has, H.new, F, ⟨F1, F2, hy, h2, h3⟩, h4⟩
theorem Wd.pull (h : Wd tb bs η m s w) {id : Nat} {p : Nat × DI tb.T} (hl : lk s.σ id = some p) : St bs.w0 bs.F0 bs.m0 m (p.2.item tb η id :: its tb η (del s.σ id)) w := by
  obtain ⟨F, h1, h2, h3⟩ := h.st.sep
  obtain ⟨F1, F2, k1, k2, k3, k4⟩ := Sep_lk hl h1
  exact ⟨h.st.kp, h.st.sub, h.st.has, h.st.new, fun k => F1 k ∨ F2 k, ⟨F1, F2, k1, k2, k3, fun k => Iff.rfl⟩, fun k e => h2 k (k4 k e), fun k e => h3 k (k4 k e)⟩
theorem Wd.row (h : Wd tb bs η m s w) {id st n t : Nat} {l : List (tb.T n)} (hl : lk s.σ id = some (st, .row n t l)) : ∃ A c, η[id]? = some (.slice A l.length c) ∧ St bs.w0 bs.F0 bs.m0 m (rowI (tb.rep n) t A c l :: its tb η (del s.σ id)) w := by
  obtain ⟨⟨A, c⟩, h1, h2⟩ := St_ex (j := fun y : Option Addr × Nat => rowI (tb.rep n) t y.1 y.2 l) (Q := fun y => η[id]? = some (.slice y.1 l.length y.2)) (h.pull hl) (fun F ⟨A, c, h1, h2⟩ => ⟨(A, c), h1, h2⟩)
  exact ⟨A, c, h1, h2⟩
theorem Wd.blk (h : Wd tb bs η m s w) {id st t : Nat} {c : List (AV tb.T)} (hl : lk s.σ id = some (st, .blk t c)) : ∃ g cs, η[id]? = some (.pointer (some ⟨g, 0, none⟩)) ∧ RL tb η m c cs ∧ St bs.w0 bs.F0 bs.m0 m (blkI g cs t :: its tb η (del s.σ id)) w := by
  obtain ⟨⟨g, cs⟩, ⟨h1, h2⟩, h3⟩ := St_ex (j := fun y : Nat × List Value => blkI y.1 y.2 t) (Q := fun y => η[id]? = some (.pointer (some ⟨y.1, 0, none⟩)) ∧ RL tb η m c y.2) (h.pull hl) (fun F ⟨g, cs, h1, h2, h3⟩ => ⟨(g, cs), ⟨h1, h2⟩, h3⟩)
  exact ⟨g, cs, h1, h2, h3⟩
theorem Wd.lit (h : Wd tb bs η m s w) {id st t k : Nat} {c : List (AV tb.T)} (hl : lk s.σ id = some (st, .lit t k c)) : ∃ g cs, η[id]? = some (.slice (some ⟨g, 0, none⟩) k k) ∧ RL tb η m c cs ∧ St bs.w0 bs.F0 bs.m0 m (blkI g cs t :: its tb η (del s.σ id)) w := by
  obtain ⟨⟨g, cs⟩, ⟨h1, h2⟩, h3⟩ := St_ex (j := fun y : Nat × List Value => blkI y.1 y.2 t) (Q := fun y => η[id]? = some (.slice (some ⟨y.1, 0, none⟩) k k) ∧ RL tb η m c y.2) (h.pull hl) (fun F ⟨g, cs, h1, h2, h3⟩ => ⟨(g, cs), ⟨h1, h2⟩, h3⟩)
  exact ⟨g, cs, h1, h2, h3⟩
theorem Wd.kep (h : Wd tb bs η m s w) {id st t j : Nat} {c : List (AV tb.T)} (hl : lk s.σ id = some (st, .kep t c j)) : ∃ g cs, (η[id]? = some (.pointer (some ⟨g, 0, none⟩)) ∧ η[j]? = some (.agg cs.toArray)) ∧ RL tb η m c cs ∧ St bs.w0 bs.F0 bs.m0 m (blkI g cs t :: its tb η (del s.σ id)) w := by
  obtain ⟨⟨g, cs⟩, ⟨h1, h2⟩, h3⟩ := St_ex (j := fun y : Nat × List Value => blkI y.1 y.2 t) (Q := fun y => (η[id]? = some (.pointer (some ⟨y.1, 0, none⟩)) ∧ η[j]? = some (.agg y.2.toArray)) ∧ RL tb η m c y.2) (h.pull hl) (fun F ⟨g, cs, h1, h2, h3⟩ => ⟨(g, cs), ⟨h1, h2⟩, h3⟩)
  exact ⟨g, cs, h1, h2, h3⟩
theorem lit_row (T : TabOk tb) {n t k : Nat} {g : Nat} {c : List (AV tb.T)} {cs : List Value} {x : List (tb.T n)} (h : imL tb n (tb.rep n).sz k c = some x) (hk : k ≤ 137438953472) (hr : RL tb η m c cs) {σ : List Item} {w0 : World} {F0 : Nat → Prop} {m0 : Mem} (H : St w0 F0 m0 m (blkI g cs t :: σ) w) :
    x.length = k ∧ St w0 F0 m0 m (rowI (tb.rep n) t (some ⟨g, 0, none⟩) x.length x :: σ) w := by
  obtain ⟨h1, h2⟩ := imL_ok T h hr
  exact ⟨h2, H.toRow 0 rfl h1 (by rw [h2]; exact Nat.le_trans hk (by decide))⟩
theorem Wd.gen (h : Wd tb bs η m s w) {id st kk j : Nat} {g : tb.T kk} (hl : lk s.σ id = some (st, .gen kk g j)) : ∃ v u, η[id]? = some v ∧ η[j]? = some u ∧ v.oneCell' = true ∧ St bs.w0 bs.F0 bs.m0 m (tb.gi kk g v u :: its tb η (E.del s.σ id)) w := by
  obtain ⟨⟨v, u⟩, ⟨h1, h2, h3⟩, h4⟩ := St_ex (j := fun y : Value × Value => tb.gi kk g y.1 y.2) (Q := fun y => η[id]? = some y.1 ∧ η[j]? = some y.2 ∧ y.1.oneCell' = true) (h.pull hl) (fun F ⟨v, u, ⟨h1, h2⟩, h3, h4⟩ => ⟨(v, u), ⟨h1, h2, h3⟩, h4⟩)
  exact ⟨v, u, h1, h2, h3, h4⟩
theorem Wd.deep (T : TabOk tb) (h : Wd tb bs η m s w) {id st kk : Nat} {d : DP tb.T tb.rep kk} {x : tb.T kk} (hl : lk s.σ id = some (st, .gen kk x id)) (hd : tb.dp kk = some d) :
    ∃ A c, η[id]? = some (.slice A (d.to x).length c) ∧ St bs.w0 bs.F0 bs.m0 m (rowO (oD d.D d.tk) d.t A c (d.to x) :: its tb η (E.del s.σ id)) w := by
  obtain ⟨v, u, h1, h2, h3, h4⟩ := h.gen hl
  rw [(T.kd.dgi hd).1] at h4
  obtain ⟨⟨A, c⟩, q1, q2⟩ := St_ex (j := fun y : Option Addr × Nat => rowO (oD d.D d.tk) d.t y.1 y.2 (d.to x)) (Q := fun y => v = .slice y.1 (d.to x).length y.2) h4 (fun F ⟨A, c, e1, e2⟩ => ⟨(A, c), e1, e2⟩)
  simp only at q1
  subst q1
  exact ⟨A, c, h1, q2⟩
def frz (tb : Tab) (s : S tb.T) (id : Nat) : Option (AV tb.T × S tb.T) := match lk s.σ id with
  | some (_, .row n _ l) => some (.sl n l, chg s id (.sl n l))
  | some (_, .lit t k c) => match tb.code t with
    | some n => cond (Nat.ble k 137438953472) (match imL tb n (tb.rep n).sz k c with
      | some x => some (.sl n x, chg s id (.sl n x))
      | none => none) none
    | none => none
  | some (_, .gen k x j) => cond (Nat.beq j id) (match tb.dp k with
    | some d => some (.sl d.n (d.to x), chg s id (.sl d.n (d.to x)))
    | none => match tb.mp k with
      | some _ => some (.one k x, chg s id (.one k x))
      | none => none) none
  | some (_, .blk _ c) => some (.cells 0 c, chg s id (.cells 0 c))
  | _ => none
theorem frz_ok (T : TabOk tb) {id : Nat} {b : AV tb.T} (h : frz tb s id = some (b, s')) (hw : Wd tb bs η m s w) (hk : KR tb η m s.κ κc) : Ext s s' ∧ ∃ m', Sub m m' ∧ KR tb η m' s'.κ κc ∧ Wd tb bs η m' s' w ∧ SubOk tb η m η m' id b := by
  have key : ∀ {n t : Nat} {A : Option Addr} {c : Nat} {l : List (tb.T n)}, η[id]? = some (.slice A l.length c) → St bs.w0 bs.F0 bs.m0 m (rowI (tb.rep n) t A c l :: its tb η (del s.σ id)) w → b = .sl n l → s' = chg s id (.sl n l) → Ext s s' ∧ ∃ m', Sub m m' ∧ KR tb η m' s'.κ κc ∧ Wd tb bs η m' s' w ∧ SubOk tb η m η m' id b := by
    intro n t A c l h3 h4 e1 e2
    subst e1 e2
    obtain ⟨m1, h5, hs, h7⟩ := fix_sl h4
    have hb : ∀ v, R tb η m1 (.row id) v → R tb η m1 (.sl n l) v := by
      rintro v ⟨h8, _⟩
      rw [h3] at h8
      cases h8
      exact ⟨A, c, rfl, hs⟩
    obtain ⟨k1, k2⟩ := chg_ok hw hk h5 h7 ⟨hb, fun o v e => e⟩
    exact ⟨chg_ext, m1, h5, k1, k2, SubOk.pre h5 ⟨hb, fun o v e => e⟩⟩
  unfold frz at h
  split at h
  · rename_i st n t l hl
    cases h
    obtain ⟨A, c, h3, h4⟩ := hw.row hl
    exact key h3 h4 rfl rfl
  · rename_i st t k c hl
    split at h
    · rename_i n hn
      cases hb : Nat.ble k 137438953472 with
      | false => rw [hb] at h; cases h
      | true =>
        rw [hb] at h
        simp only [cond_true] at h
        split at h
        · rename_i x hx
          cases h
          obtain ⟨g, cs, h3, h4, h5⟩ := hw.lit hl
          obtain ⟨h6, h7⟩ := lit_row T hx (Nat.le_of_ble_eq_true hb) h4 h5
          rw [← h6] at h3
          exact key h3 h7 rfl rfl
        · cases h
    · cases h
  · rename_i st k x j hl
    cases hb : Nat.beq j id with
    | false => rw [hb] at h; cases h
    | true =>
      have := beq_t hb
      subst this
      rw [hb] at h
      simp only [cond_true] at h
      split at h
      · rename_i d hd
        cases h
        obtain ⟨A, c, h3, h4⟩ := hw.deep T hl hd
        obtain ⟨m1, h5, hs, h7⟩ := h4.fixO 0 rfl
        have hb : ∀ v, R tb η m1 (.row j) v → R tb η m1 (.sl d.n (d.to x)) v := by
          rintro v ⟨h8, _⟩
          rw [h3] at h8
          cases h8
          exact ⟨A, c, rfl, hs⟩
        obtain ⟨k1, k2⟩ := chg_ok hw hk h5 h7 ⟨hb, fun o v e => e⟩
        exact ⟨chg_ext, m1, h5, k1, k2, SubOk.pre h5 ⟨hb, fun o v e => e⟩⟩
      · split at h
        · rename_i d hd
          cases h
          obtain ⟨v0, u0, h1, h2, h3, h4⟩ := hw.gen hl
          rw [(T.kd.mgi hd).1] at h4
          obtain ⟨F, m1, ⟨bb, lv, e1, e2, ⟨es, clock, e3, e4⟩, eF⟩, h5, h6, h7⟩ := h4.fix0
          have hb : ∀ v, R tb η m1 (.row j) v → R tb η m1 (.one k x) v := by
            rintro v ⟨h8, _⟩
            rw [h1] at h8
            cases h8
            exact (T.kd.mre hd m1 v0 x).2 ⟨bb, es, clock, lv, e1, by rw [h6 bb ((eF bb).2 rfl)]; exact e3, e4, e2.mono h5⟩
          obtain ⟨k1, k2⟩ := chg_ok hw hk h5 h7 ⟨hb, fun o v e => e⟩
          exact ⟨chg_ext, m1, h5, k1, k2, SubOk.pre h5 ⟨hb, fun o v e => e⟩⟩
        · cases h
  · rename_i st t c hl
    cases h
    obtain ⟨g, cs, h3, h4, h5'⟩ := hw.blk hl
    obtain ⟨F, m1, ⟨e1, eF⟩, h5, h6, h7⟩ := h5'.fix0
    have hm1 : m1 g = some (.cells cs.toArray t (0, 0)) := by rw [h6 g ((eF g).2 rfl)]; exact e1
    have hC : CsM m1 (some ⟨g, 0, none⟩) cs := fun j u hj => ⟨_, rfl, by cases j with | zero => simpa [mc, Addr.add, hm1] using hj | succ j => simpa [mc, Addr.add, hm1] using hj⟩
    have hb : SubOk tb η m1 η m1 id (.cells 0 c) := by
      refine ⟨?_, ?_⟩
      · rintro v ⟨h8, _⟩
        rw [h3] at h8
        cases h8
        exact ⟨⟨g, 0, none⟩, cs, rfl, hC, RL.mono (Le.refl _) h5 c h4⟩
      · rintro o v ⟨g', h8, h9⟩
        rw [h3] at h8
        cases h8
        exact ⟨⟨g, 0, none⟩, cs, by rw [h9]; simp [Addr.add], hC, RL.mono (Le.refl _) h5 c h4⟩
    obtain ⟨k1, k2⟩ := chg_ok hw hk h5 h7 hb
    exact ⟨chg_ext, m1, h5, k1, k2, SubOk.pre h5 hb⟩
  · cases h
end
end Go.Proofs.YtkmhidggbnbaaaaGreatDoor.K.E
set_option linter.unusedVariables false
set_option linter.unusedSimpArgs false
set_option linter.unusedSectionVars false
namespace Go.Proofs.YtkmhidggbnbaaaaGreatDoor.K.E
open Go Go.RowKit
def YX {ρ : Type} (tb : Tab) (bs : Bs) (η : List Value) (m : Mem) (d : Option Nat) (s : S tb.T) (k : AV tb.T → S tb.T → Option ρ) (ans : ρ) (κc : Kn) : Kn → World → Prop := fun κ' w' =>
  ∃ v s' u η' m', k v s' = some ans ∧ Ext s s' ∧ κ' = putk d u κc ∧ Le η η' ∧ Sub m m' ∧ R tb η' m' v u ∧ KR tb η' m' s'.κ κc ∧ Wd tb bs η' m' s' w'
theorem YX.pre {ρ : Type} {tb : Tab} {bs : Bs} {η : List Value} {m m1 : Mem} {d : Option Nat} {s s1 : S tb.T} {k : AV tb.T → S tb.T → Option ρ} {ans : ρ} {κc : Kn} (h : Ext s s1) (hm : Sub m m1) : ∀ κ' w', YX tb bs η m1 d s1 k ans κc κ' w' → YX tb bs η m d s k ans κc κ' w' :=
  fun _ _ ⟨v, s', u, η', m', h1, h2, h3, h4, h5, h6⟩ => ⟨v, s', u, η', m', h1, h.trans h2, h3, h4, hm.trans h5, h6⟩
theorem Step.imp {P : Program} {B : Code} {n : Cx} {p : List Nat} {i : Nat} {κ : Kn} {w : World} {X Y : Kn → World → Prop} (h : Step P B n p i κ w X) (hi : ∀ κ' w', X κ' w' → Y κ' w') : Step P B n p i κ w Y :=
  fun Q K hK a ha => h Q K (fun κ' w' a' hx ha' => hK κ' w' a' (hi _ _ hx) ha') a ha
section
variable {w0 : World} {F0 : Nat → Prop} {m0 m : Mem} {σ σ' : List Item} {w : World}
theorem St_imp (H : St w0 F0 m0 m σ w) (h : ∀ F, Sep m w σ F → Sep m w σ' F) : St w0 F0 m0 m σ' w := by
  obtain ⟨F, h1, h2, h3⟩ := H.sep
  exact ⟨H.kp, H.sub, H.has, H.new, F, h F h1, h2, h3⟩
theorem St_conv {i j : Item} (H : St w0 F0 m0 m (i :: σ) w) (h : ∀ F, i.P m w F → j.P m w F) (hσ : ∀ F, Sep m w σ F → Sep m w σ' F) : St w0 F0 m0 m (j :: σ') w :=
  St_imp H fun F ⟨F1, F2, h1, h2, h3⟩ => ⟨F1, F2, h F1 h1, hσ F2 h2, h3⟩
end
section
variable {tb : Tab} {bs : Bs} {η : List Value} {m : Mem} {s : S tb.T} {w w' : World} {κc : Kn}
theorem Wd.sto (h : Wd tb bs η m s w) {id : Nat} {p : Nat × DI tb.T} (hl : lk s.σ id = some p) {x : DI tb.T} (H : St bs.w0 bs.F0 bs.m0 m (x.item tb η id :: its tb η (del s.σ id)) w') :
    Ext s { s with σ := sto s.σ id s.d x, d := s.d + 1 } ∧ Wd tb bs η m { s with σ := E.sto s.σ id s.d x, d := s.d + 1 } w' := by
  refine ⟨⟨Nat.le_refl _, Nat.le_succ _, fun _ _ _ e _ => e, fun t st v e l => ?_⟩, h.len, h.le, H, h.gl⟩
  rcases lk_sto e with ⟨_, e⟩ | e
  · cases e; exact absurd l (Nat.lt_irrefl _)
  · exact e
def addI {T : Nat → Type} (s : S T) (x : DI T) : S T := { κ := s.κ, σ := (s.c, s.d, x) :: s.σ, c := s.c + 1, d := s.d + 1 }
theorem Ext.add {T : Nat → Type} (s : S T) (x : DI T) : Ext s (addI s x) := by
  refine ⟨Nat.le_succ _, Nat.le_succ _, fun _ _ _ e _ => e, fun t st v e l => ?_⟩
  simp only [addI, lk] at e
  cases hb : Nat.beq s.c t with
  | true => rw [hb] at e; simp only [cond_true, Option.some.injEq, Prod.mk.injEq] at e; rw [← e.1] at l; exact absurd l (Nat.lt_irrefl _)
  | false => rw [hb] at e; exact e
theorem Wd.add (h : Wd tb bs η m s w) (hg : Glob tb m) {x : DI tb.T} {u : Value} (H : St bs.w0 bs.F0 bs.m0 m (x.item tb (η ++ [u]) s.c :: its tb η s.σ) w') : Wd tb bs (η ++ [u]) m (addI s x) w' := by
  exact ⟨by rw [List.length_append, h.len]; rfl, h.le.trans (Le.app _ _), St_conv H (fun _ e => e) (fun F hF => its_le (Le.app _ _) _ hF), hg⟩
def delI {T : Nat → Type} (s : S T) (id : Nat) : S T := { s with σ := del s.σ id }
theorem Ext.del (h : Wd tb bs η m s w) (id : Nat) : Ext s (delI s id) :=
  ⟨Nat.le_refl _, Nat.le_refl _, fun _ _ _ e _ => e, fun t st v e l => (lk_del e).2⟩
theorem Wd.del (h : Wd tb bs η m s w) {id : Nat} {m' : Mem} (hg : Glob tb m') (H : St bs.w0 bs.F0 bs.m0 m' (its tb η (del s.σ id)) w') : Wd tb bs η m' (delI s id) w' :=
  ⟨h.len, h.le, H, hg⟩
theorem Wd.drop (h : Wd tb bs η m s w) {id : Nat} {p : Nat × DI tb.T} (hl : lk s.σ id = some p) : Wd tb bs η m (delI s id) w := h.del h.gl (h.pull hl).drop0
theorem blk_new (h : Wd tb bs η m s w) (t : TypeId) {cells : List (AV tb.T)} {cs : List Value} (hr : RL tb η m cells cs) : Wd tb bs (η ++ [.pointer (some ⟨w.heap.size, 0, none⟩)]) m (addI s (.blk t cells)) (w.alloc (.cells cs.toArray t (0, 0))) := by
  refine h.add h.gl (h.st.add (G := fun k => k = w.heap.size) (Ex.alloc w _) ⟨w.heap.size, cs, ?_, RL.mono (Le.app _ _) (Sub.refl _) cells hr, heap_alloc_new w _, fun _ => Iff.rfl⟩ (fun k e => by subst e; exact Nat.le_refl _))
  rw [← h.len, List.getElem?_append_right (Nat.le_refl _), Nat.sub_self]; rfl
theorem at_new (h : Wd tb bs η m s w) (u : Value) : (η ++ [u])[s.c]? = some u := by
  rw [← h.len, List.getElem?_append_right (Nat.le_refl _), Nat.sub_self]; rfl
end
mutual
def rowIn {T : Nat → Type} : AV T → Option Nat
  | .row i => some i
  | .cells _ l => rowInL l
  | .agg l => rowInL l
  | .tup l => rowInL l
  | .fn _ l c => match rowInL l with
    | some i => some i
    | none => rowInL c
  | _ => none
def rowInL {T : Nat → Type} : List (AV T) → Option Nat
  | [] => none
  | a :: l => match rowIn a with
    | some i => some i
    | none => rowInL l
end
def frzA (tb : Tab) : Nat → List (AV tb.T) → S tb.T → Option (List (AV tb.T) × S tb.T)
  | 0, _, _ => none
  | f + 1, a, s => match rowInL a with
    | none => some (a, s)
    | some id => match lk s.σ id with
      | some (_, .lit _ _ c) => match rowInL c with
        | none => match frz tb s id with
          | some (b, s') => frzA tb f (subL id b a) s'
          | none => none
        | some _ => match frzA tb f (c ++ a) s with
          | some (x, s') => frzA tb f (x.drop c.length) s'
          | none => none
      | _ => match frz tb s id with
        | some (b, s') => frzA tb f (subL id b a) s'
        | none => none
section
variable {tb : Tab} {bs : Bs} {w : World} {κc : Kn}
def FzPost (tb : Tab) (bs : Bs) (s s' : S tb.T) (η : List Value) (m : Mem) (κc : Kn) (w : World) (a' : List (AV tb.T)) (vs : List Value) : Prop :=
  Ext s s' ∧ ∃ m', Sub m m' ∧ KR tb η m' s'.κ κc ∧ Wd tb bs η m' s' w ∧ RL tb η m' a' vs
theorem FzPost.step {s s1 s' : S tb.T} {η : List Value} {m m1 : Mem} {a' : List (AV tb.T)} {vs : List Value} (h : Ext s s1) (hm : Sub m m1) (h' : FzPost tb bs s1 s' η m1 κc w a' vs) : FzPost tb bs s s' η m κc w a' vs :=
  let ⟨k1, m2, k2, k3⟩ := h'
  ⟨h.trans k1, m2, hm.trans k2, k3⟩
theorem frzA_ok (T : TabOk tb) : ∀ (f : Nat) {a a' : List (AV tb.T)} {s s' : S tb.T} {η : List Value} {m : Mem}, frzA tb f a s = some (a', s') → Wd tb bs η m s w → KR tb η m s.κ κc → ∀ {vs : List Value}, RL tb η m a vs → FzPost tb bs s s' η m κc w a' vs
  | 0, a, a', s, s', η, m, h, hw, hk, vs, hr => by cases h
  | f + 1, a, a', s, s', η, m, h, hw, hk, vs, hr => by
    have one : ∀ {id : Nat}, (match frz tb s id with
        | some (b, s') => frzA tb f (subL id b a) s'
        | none => none) = some (a', s') → FzPost tb bs s s' η m κc w a' vs := by
      intro id h
      split at h
      · rename_i b s1 hf
        obtain ⟨h1, m1, h2, h3, h4, h5⟩ := frz_ok T hf hw hk
        exact FzPost.step h1 h2 (frzA_ok T f h h4 h3 (subL_ok (Le.refl _) h2 h5 a hr))
      · cases h
    simp only [frzA] at h
    split at h
    · cases h; exact ⟨Ext.refl _, m, Sub.refl _, hk, hw, hr⟩
    · split at h
      · rename_i st t k c hl
        split at h
        · exact one h
        · split at h
          · rename_i x s1 hx
            obtain ⟨g, cs, h3, h4, h5⟩ := hw.lit hl
            obtain ⟨k1, m2, k2, k3, k4, k5⟩ := frzA_ok T f hx hw hk (h4.app hr)
            refine FzPost.step k1 k2 (frzA_ok T f h k4 k3 ?_)
            have := k5.drop c.length
            rwa [List.drop_left' h4.len] at this
          · cases h
      · exact one h
end
end Go.Proofs.YtkmhidggbnbaaaaGreatDoor.K.E
set_option linter.unusedVariables false
set_option linter.unusedSimpArgs false
set_option linter.unusedSectionVars false
namespace Go.Proofs.YtkmhidggbnbaaaaGreatDoor.K.E
open Go Go.RowKit
section
variable (P : Program) (tb : Tab) {ρ : Type}
abbrev KO (T : Nat → Type) (ρ : Type) := AV T → S T → Option ρ
def undA {T : Nat → Type} : AV T := .lit undef
def zrepV (P : Program) (e len : Nat) : Option (List Value) := match P.info? e with
  | some i => cond (Nat.ble (len * i.size) 16777216) (cond (Nat.beq (len * i.size) 0) (some []) (match i.zero with
    | some z => some ((List.range (len * i.size)).map fun j => z.cells[j % z.cells.size]!)
    | none => none)) none
  | none => none
def newM (o : Go.Op) (s : S tb.T) (k : KO tb.T ρ) : Option ρ := match o with
  | .alloc t => match zerosA P t with
    | some c => k (.ptr s.c 0) (addI s (.blk t c))
    | none => none
  | .box t x => match evA s.κ x with
    | some a => match cellsA a with
      | some c => k (.ptr s.c 0) (addI s (.blk t c))
      | none => none
    | none => none
  | .buildSlice t len ps => match slcE P t, partsA (evA s.κ) ps.toList with
    | some e, some l => match zrepV P e len, fillA (fun i => some (i * sizeA P e, sizeA P e)) ((match zrepV P e len with | some z => z | none => []).map cst1) l with
      | some _, some c => k (.row s.c) (addI s (.lit e len c))
      | _, _ => none
    | _, _ => none
  | _ => none
def storeM (t : TypeId) (p a : AV tb.T) (s : S tb.T) (k : KO tb.T ρ) : Option ρ := match p with
  | .ptr id off => match lk s.σ id with
    | some (_, .blk e cs) => match a with
      | .agg l => cond (aggB P t l.length && (l.all oneA && Nat.ble (off + l.length) cs.length)) (k undA { s with σ := sto s.σ id s.d (.blk e (cs.take off ++ l ++ cs.drop (off + l.length))), d := s.d + 1 }) none
      | a => cond (oneB P t && (oneA a && Nat.blt off cs.length)) (k undA { s with σ := sto s.σ id s.d (.blk e (cs.set off a)), d := s.d + 1 }) none
    | _ => none
  | .elt id i n off => match frzA tb 20 [a] s with
    | some ([a], s) => match lk s.σ id with
      | some (_, .row n' e l) => match castL n n' l with
        | some l => cond (oneB P t && (oneA a && Nat.blt off (tb.rep n).sz)) ((idx l i).bind fun x => match tb.im n ((tb.ex n x).set off a) with
          | some y => k undA { s with σ := sto s.σ id s.d (.row n e (l.set i.toNat y)), d := s.d + 1 }
          | none => none) none
        | none => none
      | _ => none
    | _ => none
  | _ => none
def getC (t : TypeId) (l : List (AV tb.T)) (off : Nat) : Option (AV tb.T) := match P.underlying t with
  | some d => match isAggD d with
    | true => cond (Nat.ble (off + sizeA P t) l.length && aggB P t (sizeA P t)) (some (.agg ((l.drop off).take (sizeA P t)))) none
    | false => cond (oneB P t) l[off]? none
  | none => none
def loadM (t : TypeId) (p : AV tb.T) (s : S tb.T) (k : KO tb.T ρ) : Option ρ := match p with
  | .ptr id off => match lk s.σ id with
    | some (_, .blk _ cs) => match getC P tb t cs off with
      | some v => k v s
      | none => none
    | some (_, .kep _ cs _) => match getC P tb t cs off with
      | some v => k v s
      | none => none
    | _ => none
  | .elt id i n off => match lk s.σ id with
    | some (_, .row n' _ l) => match castL n n' l with
      | some l => cond (Nat.blt 0 (tb.rep n).sz) ((idx l i).bind fun x => match getC P tb t (tb.ex n x) off with
        | some v => k v s
        | none => none) none
      | none => none
    | _ => none
  | _ => none
end
section
variable {P : Program} {tb : Tab} {bs : Bs} {η : List Value} {m : Mem} {s : S tb.T} {w : World} {κc : Kn} {B : Code} {n : Cx} {p : List Nat} {i : Nat} {o : Oper} {ρ' : Type} {k : KO tb.T ρ'} {ans : ρ'} {a b v : AV tb.T} {x y : Value}
theorem getC_all {t : TypeId} {l : List (AV tb.T)} {cs : List Value} {off : Nat} {ad : Addr} (h : getC P tb t l off = some v) (hl : RL tb η m l cs) : ∃ u, (∀ w : World, (∀ j u, cs[j]? = some u → w.cell? (ad.add j) = some u) → (vS (Instr.loadAt t (.pointer (some (ad.add off))))).run P w = .ok (.value u) w) ∧ R tb η m v u := by
  unfold getC at h
  split at h
  · rename_i d hu
    split at h
    · cases hb : (Nat.ble (off + sizeA P t) l.length && aggB P t (sizeA P t)) with
      | false => rw [hb] at h; cases h
      | true =>
        rw [hb] at h
        cases h
        rw [Bool.and_eq_true] at hb
        have h1 := Nat.le_of_ble_eq_true hb.1
        have hlen : ((cs.drop off).take (sizeA P t)).length = sizeA P t := by
          rw [List.length_take, List.length_drop, hl.len]; omega
        refine ⟨.agg ((cs.drop off).take (sizeA P t)).toArray, fun w hc => aggRun t _ _ (by rw [hlen]; exact hb.2) ?_, (cs.drop off).take (sizeA P t), rfl, (hl.drop _).take _⟩
        intro j u hj
        rw [List.getElem?_take] at hj
        split at hj
        · rw [List.getElem?_drop] at hj
          rw [add_add]; exact hc _ _ hj
        · cases hj
    · cases hb : oneB P t with
      | false => rw [hb] at h; cases h
      | true =>
        rw [hb] at h
        obtain ⟨u, h1, h2⟩ := hl.get h
        exact ⟨u, fun w hc => ld_run t _ u hb (hc _ _ h1), h2⟩
  · cases h
theorem getC_ok {t : TypeId} {l : List (AV tb.T)} {cs : List Value} {off : Nat} {ad : Addr} (h : getC P tb t l off = some v) (hl : RL tb η m l cs) (hc : ∀ j u, cs[j]? = some u → w.cell? (ad.add j) = some u) : ∃ u, (vS (Instr.loadAt t (.pointer (some (ad.add off))))).run P w = .ok (.value u) w ∧ R tb η m v u :=
  let ⟨u, h1, h2⟩ := getC_all h hl
  ⟨u, h1 w hc, h2⟩
variable (hw : Wd tb bs η m s w) (hk : KR tb η m s.κ κc) (fo : fetch B n p i κc = some (o.dst, execOp (evT κc) o))
include hw hk fo
theorem stay {u : Value} (hr : (execOp (evT κc) o).run P w = .ok (.value u) w) (hv : R tb η m v u) (h : k v s = some ans) : Step P B n p i κc w (YX tb bs η m o.dst s k ans κc) :=
  runR fo hr ⟨v, s, u, η, m, h, Ext.refl _, rfl, Le.refl _, Sub.refl _, hv, hk, hw⟩
theorem opB_step (T : TabOk tb) (h : opB P tb (evA s.κ) o (fun v => k v s) = some ans) : Step P B n p i κc w (YX tb bs η m o.dst s k ans κc) := by
  obtain ⟨v, h1, u, h2, h3⟩ := opB_ok T hw.gl hk.ev h
  exact stay hw hk fo (h2 w hw.st.has) h3 h1
theorem newM_step (h : newM P tb o.op s k = some ans) : Step P B n p i κc w (YX tb bs η m o.dst s k ans κc) := by
  unfold newM at h
  split at h
  · rename_i t ho
    split at h
    · rename_i c hc
      obtain ⟨z, hz, hr⟩ := zerosA_ok (tb := tb) (η := η) (m := m) hc
      have hwn := blk_new hw t hr
      refine runR fo (v := .pointer (some ⟨w.heap.size, 0, none⟩)) (w' := w.alloc (.cells z.cells.toList.toArray t (0, 0))) ?_ ⟨_, _, _, _, m, h, Ext.add _ _, rfl, Le.app _ _, Sub.refl _, ⟨w.heap.size, at_new hw _, rfl⟩, hk.mono (Le.app _ _) (Sub.refl _), hwn⟩
      unfold execOp
      rw [ho]
      simp only [Instr.alloc, Sem.run_bind, hz, Result.andThen_ok, Array.toArray_toList]
      rfl
    · cases h
  · rename_i t q ho
    split at h
    · rename_i a ha
      split at h
      · rename_i c hc
        have hr := cellsA_ok hc (hk.ev _ _ ha)
        have hwn := blk_new hw t hr
        refine runR fo (v := .pointer (some ⟨w.heap.size, 0, none⟩)) (w' := w.alloc (.cells (evT κc q).cells.toList.toArray t (0, 0))) ?_ ⟨_, _, _, _, m, h, Ext.add _ _, rfl, Le.app _ _, Sub.refl _, ⟨w.heap.size, at_new hw _, rfl⟩, hk.mono (Le.app _ _) (Sub.refl _), hwn⟩
        unfold execOp
        rw [ho, Array.toArray_toList]
        rfl
      · cases h
    · cases h
  · rename_i t len ps ho
    split at h
    · rename_i e l h1 h2
      split at h
      · rename_i z c hz hc
        simp only [hz] at hc
        obtain ⟨vs, hf, hv⟩ := fillA_ok hc (partsA_ok hk.ev h2) (cst1L_ok (tb := tb) (η := η) (m := m) z)
        have hwn : Wd tb bs (η ++ [.slice (some ⟨w.heap.size, 0, none⟩) len len]) m (addI s (.lit e len c)) (w.alloc (.cells vs.toArray e (0, 0))) :=
          hw.add hw.gl (hw.st.add (G := fun k => k = w.heap.size) (Ex.alloc w _) ⟨w.heap.size, vs, at_new hw _, RL.mono (Le.app _ _) (Sub.refl _) c hv, heap_alloc_new w _, fun _ => Iff.rfl⟩ (fun k e => by subst e; exact Nat.le_refl _))
        refine runR fo (v := .slice (some ⟨w.heap.size, 0, none⟩) len len) (w' := w.alloc (.cells vs.toArray e (0, 0))) ?_ ⟨_, _, _, _, m, h, Ext.add _ _, rfl, Le.app _ _, Sub.refl _, ⟨at_new hw _, rfl⟩, hk.mono (Le.app _ _) (Sub.refl _), hwn⟩
        have hu : P.underlying t = some (.slice e) := by
          unfold slcE at h1
          split at h1
          · cases h1; assumption
          · cases h1
        unfold zrepV at hz
        split at hz
        · rename_i inf hi
          cases hb : Nat.ble (len * inf.size) 16777216 with
          | false => rw [hb] at hz; cases hz
          | true =>
            rw [hb] at hz
            simp only [cond_true] at hz
            have hle := Nat.le_of_ble_eq_true hb
            have hsz : sizeA P e = inf.size := by simp [sizeA, hi]
            rw [hsz] at hf
            have hps : (ps.map fun (i, x) => (i, evT κc x)).toList = ps.toList.map fun (i, x) => (i, evT κc x) := by simp
            have hgt : ¬ (len * inf.size > 2 ^ 24) := by omega
            unfold execOp
            rw [ho]
            simp only [Instr.buildSlice, Sem.run_bind, run_und hu, Result.andThen_ok, run_size hi, hgt, if_false, Sem.run_pure, hps]
            cases hb0 : Nat.beq (len * inf.size) 0 with
            | true =>
              rw [hb0] at hz
              cases hz
              have h0 := beq_t hb0
              simp only [h0, if_true, Sem.run_bind, Sem.run_pure, Result.andThen_ok]
              have e0 : (Array.range 0).map (fun i => (#[] : Array Value)[i % (#[] : Array Value).size]!) = ([] : List Value).toArray := by simp
              rw [e0, hf]
              rfl
            | false =>
              rw [hb0] at hz
              have h0 : len * inf.size ≠ 0 := beq_ne hb0
              simp only [cond_false] at hz
              split at hz
              · rename_i zz hzz
                cases hz
                simp only [h0, if_false, Sem.run_bind]
                have hz1 : (zeroValue e).run P w = .ok zz w := by simp [zeroValue, typeInfo, hi, hzz]
                simp only [hz1, Result.andThen_ok, Sem.run_pure]
                have e0 : (Array.range (len * inf.size)).map (fun i => zz.cells[i % zz.cells.size]!) = ((List.range (len * inf.size)).map fun j => zz.cells[j % zz.cells.size]!).toArray := by
                  apply Array.ext'
                  simp
                rw [e0, hf]
                rfl
              · cases hz
        · cases hz
      · cases h
    · cases h
  · cases h
omit hw hk fo in
theorem exec_store {q r : Operand} {t : Nat} (h : o.op = .store t q r) (ρ : Operand → Value) : execOp ρ o = uS (Instr.storeAt t (ρ q) (ρ r)) := by unfold execOp; rw [h]; rfl
theorem storeM_step (T : TabOk tb) {t : TypeId} (fo' : fetch B n p i κc = some (o.dst, uS (Instr.storeAt t x y))) (ha : R tb η m a x) (hb : R tb η m b y) (h : storeM P tb t a b s k = some ans) : Step P B n p i κc w (YX tb bs η m o.dst s k ans κc) := by
  unfold storeM at h
  split at h
  · rename_i id off
    obtain ⟨g, hg, rfl⟩ := ha
    split at h
    · rename_i st e cs hl
      obtain ⟨g', vs, hg', hr, H⟩ := hw.blk hl
      rw [hg] at hg'
      cases hg'
      split at h
      · rename_i l
        cases hc : (aggB P t l.length && (l.all oneA && Nat.ble (off + l.length) cs.length)) with
        | false => rw [hc] at h; cases h
        | true =>
          rw [hc] at h
          simp only [Bool.and_eq_true] at hc
          obtain ⟨us, rfl, hul⟩ := hb
          have hle := Nat.le_of_ble_eq_true hc.2.2
          refine stAggS (H := H) o.dst t 0 g off us vs _ e rfl fo' (by rw [hul.len]; exact hc.1) (oneL hul hc.2.1) (by rw [hul.len, hr.len]; exact hle) rfl ?_
          intro w1 H1
          have hn : RL tb η m (cs.take off ++ l ++ cs.drop (off + l.length)) (vs.take off ++ us ++ vs.drop (off + us.length)) := by
            rw [hul.len]; exact ((hr.take off).app hul).app (hr.drop _)
          obtain ⟨h1, h2⟩ := hw.sto hl (x := .blk e (cs.take off ++ l ++ cs.drop (off + l.length))) (St_conv H1 (fun F hF => ⟨g, _, hg, hn, hF⟩) (fun _ e => e))
          exact ⟨_, _, undef, η, m, h, h1, rfl, Le.refl _, Sub.refl _, rfl, hk, h2⟩
      · cases hc : (oneB P t && (oneA b && Nat.blt off cs.length)) with
        | false => rw [hc] at h; cases h
        | true =>
          rw [hc] at h
          simp only [Bool.and_eq_true] at hc
          have hlt : off < cs.length := by simpa [Nat.blt_eq] using hc.2.2
          refine stS (H := H) o.dst t 0 g off y vs e rfl fo' hc.1 (oneA_ok hb hc.2.1) (by rw [hr.len]; exact hlt) ?_
          intro w1 H1
          obtain ⟨h1, h2⟩ := hw.sto hl (x := .blk e (cs.set off b)) (St_conv H1 (fun F hF => ⟨g, _, hg, hr.set hb, hF⟩) (fun _ e => e))
          exact ⟨_, _, undef, η, m, h, h1, rfl, Le.refl _, Sub.refl _, rfl, hk, h2⟩
    · cases h
  · rename_i id j n1 off
    split at h
    · rename_i b' s1 hf
      obtain ⟨h1, m1, h2, h3, h4, h5⟩ := frzA_ok T 20 hf hw hk (RL.mk1 hb)
      obtain ⟨y', hy', hb'⟩ := h5.one
      cases hy'
      obtain ⟨ad, len, c0, e1, e2, e3, rfl⟩ := ha
      split at h
      · rename_i st n' e l hl
        obtain ⟨A, c, g1, H⟩ := h4.row hl
        split at h
        · rename_i l' hcl
          obtain ⟨en, rfl⟩ := castL_some hcl
          subst en
          cases hc : (oneB P t && (oneA b' && Nat.blt off (tb.rep n').sz)) with
          | false => rw [hc] at h; cases h
          | true =>
            rw [hc] at h
            simp only [Bool.and_eq_true] at hc
            have hlt : off < (tb.rep n').sz := by simpa [Nat.blt_eq] using hc.2.2
            obtain ⟨z, hz, h⟩ := bindE h
            obtain ⟨i0, i1, i2⟩ := idx_some hz
            split at h
            · rename_i z' hz'
              rw [e1] at g1
              cases g1
              refine stElS (H := H) o.dst t 0 j.toNat off (j.toNat * (tb.rep n').sz + off) (some ad) _ l e z z' y ad rfl i2 rfl (by rw [← add_add]; exact fo') rfl hc.1 (oneA_ok hb' hc.2.1) hlt (fun cs hcs => T.im hz' ((T.ex (η := η) hcs).set hb')) ?_
              intro w1 H1
              obtain ⟨k1, k2⟩ := h4.sto hl (x := .row n' e (l.set j.toNat z')) (St_conv H1 (fun F hF => ⟨some ad, _, by rw [List.length_set]; exact e1, hF⟩) (fun _ e => e))
              exact ⟨_, _, undef, η, m1, h, h1.trans k1, rfl, Le.refl _, h2, rfl, h3, k2⟩
            · cases h
        · cases h
      · cases h
    · cases h
  · cases h
theorem loadM_step (T : TabOk tb) {t : TypeId} (fo' : fetch B n p i κc = some (o.dst, vS (Instr.loadAt t x))) (ha : R tb η m a x) (h : loadM P tb t a s k = some ans) : Step P B n p i κc w (YX tb bs η m o.dst s k ans κc) := by
  unfold loadM at h
  split at h
  · rename_i id off
    obtain ⟨g, hg, rfl⟩ := ha
    split at h
    · rename_i st e cs hl
      obtain ⟨g', vs, hg', hr, H⟩ := hw.blk hl
      rw [hg] at hg'
      cases hg'
      split at h
      · rename_i v hv
        obtain ⟨u, h1, h2⟩ := getC_ok (P := P) (ad := ⟨g, 0, none⟩) (w := w) hv hr (fun j u hj => by rw [Addr.add_lit, Nat.zero_add]; exact H.cellB 0 rfl hj)
        rw [Addr.add_lit, Nat.zero_add] at h1
        exact runR fo' h1 ⟨v, s, u, η, m, h, Ext.refl _, rfl, Le.refl _, Sub.refl _, h2, hk, hw⟩
      · cases h
    · rename_i st e cs j hl
      obtain ⟨g', vs, ⟨hg', _⟩, hr, H⟩ := hw.kep hl
      rw [hg] at hg'
      cases hg'
      split at h
      · rename_i v hv
        obtain ⟨u, h1, h2⟩ := getC_ok (P := P) (ad := ⟨g, 0, none⟩) (w := w) hv hr (fun j u hj => by rw [Addr.add_lit, Nat.zero_add]; exact H.cellB 0 rfl hj)
        rw [Addr.add_lit, Nat.zero_add] at h1
        exact runR fo' h1 ⟨v, s, u, η, m, h, Ext.refl _, rfl, Le.refl _, Sub.refl _, h2, hk, hw⟩
      · cases h
    · cases h
  · rename_i id j n1 off
    obtain ⟨ad, len, c0, e1, e2, e3, rfl⟩ := ha
    split at h
    · rename_i st n' e l hl
      obtain ⟨A, c, g1, H⟩ := hw.row hl
      split at h
      · rename_i l' hcl
        obtain ⟨en, rfl⟩ := castL_some hcl
        subst en
        cases hc : Nat.blt 0 (tb.rep n').sz with
        | false => rw [hc] at h; cases h
        | true =>
          rw [hc] at h
          obtain ⟨z, hz, h⟩ := bindE h
          obtain ⟨i0, i1, i2⟩ := idx_some hz
          split at h
          · rename_i v hv
            obtain ⟨ad', cs, hA, h3, h4⟩ := H.rowAt 0 rfl i2 (by simpa [Nat.blt_eq] using hc)
            rw [e1] at g1
            cases g1
            cases hA
            obtain ⟨u, h1, h2⟩ := getC_ok (P := P) (ad := ad.add (j.toNat * (tb.rep n').sz)) (w := w) hv (T.ex (η := η) h3) h4
            exact runR fo' h1 ⟨v, s, u, η, m, h, Ext.refl _, rfl, Le.refl _, Sub.refl _, h2, hk, hw⟩
          · cases h
      · cases h
    · cases h
  · cases h
end
end Go.Proofs.YtkmhidggbnbaaaaGreatDoor.K.E
set_option linter.unusedVariables false
set_option linter.unusedSimpArgs false
set_option linter.unusedSectionVars false
namespace Go.Proofs.YtkmhidggbnbaaaaGreatDoor.K
open Go Go.RowKit
section
variable {P : Program}
def zs (n : Nat) : ByteArray := ⟨(List.replicate n (0 : UInt8)).toArray⟩
theorem zs_size (n : Nat) : (zs n).size = n := by show (List.replicate n (0 : UInt8)).toArray.size = n; simp
theorem zcells (n : Nat) : Builtin.zeroCells (Value.int .u8 0).cells n = (List.replicate n (Value.int .u8 0)).toArray := by
  apply Array.ext
  · simp [Builtin.zeroCells, Value.cells]
  · intro i h1 h2
    simp [Builtin.zeroCells, Value.cells, Nat.mod_one]
theorem zstr (n : Nat) : Lib.strCells (zs n) = List.replicate n (Value.int .u8 0) := by
  unfold Lib.strCells zs
  simp
theorem run_append_zeros (w : World) (base : Nat) (t u us ty e : TypeId) (i : TypeInfo) {ik ik' : IntKind} (ht : P.underlying t = some (.slice e)) (hu : P.underlying u = some (.int ik)) (hus : P.underlying us = some .string) (hi : P.info? e = some i) (hz : i.zero = some (.int .u8 0))
    (hsize : i.size = 1) (hby : i.bytes = 1) (v : Value) (n k : Nat) (xs : List Value) (hown : w.ownsRow base e 1 v n xs) (hb : n + k ≤ 140737488355328) (hbase : base ≤ w.heap.size) :
    (Builtin.append_ #[t, u] ty #[v, .int ik' (k : Int)]).run P w = (Builtin.append_ #[t, us] ty #[v, .string (zs k)]).run P w := by
  have hk := zs_size k
  have hxl : xs.length = n := by simpa using hown.1
  have hw : IntKind.i64.wrap (k : Int) = (k : Int) := w64 (by omega)
  have hw0 : IntKind.i64.wrap 0 = 0 := w64 (by omega)
  have h48i : ¬ (281474976710656 < (k : Int)) := by omega
  have hneg : ¬ ((k : Int) < 0) := by omega
  rcases hown.2 with ⟨rfl, rfl⟩ | ⟨g, cap, cur, rfl, hbg, hg, hnc, hcm, hcs, htake⟩
  · by_cases h0 : k = 0
    · subst h0
      simp [Builtin.append_, run_underlying ht, run_underlying hu, run_underlying hus, sizeOf, typeInfo, zeroValue, hi, hz, asInt, asIntOf, hw, hw0, Builtin.lenOf, hk, Builtin.firstCells]
    · rw [Lib.run_append_nil_zeros w t u ty e i (.int .u8 0) ik' ik ht hu hi hz k (by omega) (by omega) (by omega) (by rw [hby]; omega), run_append_nil_string (P := P) w t us ty e i (.int .u8 0) ht hus hi hz (zs k) (by omega) (by omega) (by rw [hby]; omega), hk, zcells, zcells]
      congr 4
      simp [zs]
  · by_cases hroom : n + k ≤ cap
    · rw [Lib.run_append_room_string (P := P) (w := w) t us ty e i ht hus hi hsize g n cap cur hg (zs k) (by omega) (by simp at hcs; omega), hk, zstr]
      have hst := run_storeCells_at P g n e (List.replicate k (Value.int .u8 0)) 0 cur w hg (by simp at hcs ⊢; omega) (by intro u hu; rw [List.eq_of_mem_replicate hu]; rfl)
      simp only [Nat.add_zero, List.length_replicate] at hst
      by_cases h0 : k = 0
      · subst h0
        simp only [List.replicate_zero] at hst
        simp [Builtin.append_, run_underlying ht, run_underlying hu, sizeOf, typeInfo, zeroValue, hi, hz, hsize, hby, asInt, asIntOf, hw, hw0, hneg, h48i, hnc, zcells, Addr.add_lit, hst]
      · simp [Builtin.append_, run_underlying ht, run_underlying hu, sizeOf, typeInfo, zeroValue, hi, hz, hsize, hby, asInt, asIntOf, hw, hw0, hneg, h48i, h0, hroom, zcells, Addr.add_lit, hst]
    · have holds : ∀ j x, xs[j]? = some x → w.cell? ((⟨g, 0, none⟩ : Addr).add j) = some x := by
        intro j x hj
        rw [Addr.add_lit, Nat.zero_add]
        refine blk_cell hg ?_
        rw [← htake, List.getElem?_take] at hj
        split at hj
        · simpa using hj
        · cases hj
      have hfit : Builtin.nextslicecap (n + k) cap * i.bytes ≤ 281474976710656 := by
        rw [hby, Nat.mul_one]
        exact Nat.le_trans (nextslicecap_le (by omega)) (by omega)
      rw [Lib.run_append_grow_string (P := P) (w := w) t us ty e i (.int .u8 0) ht hus hi hz ⟨g, 0, none⟩ n cap xs (by rw [hxl, hsize, Nat.mul_one]) holds (zs k) (by omega) (by omega) (by rw [hk]; exact hfit), hk, zstr]
      rw [Lib.run_append_grow_zeros w t u ty e i (.int .u8 0) ik' ik ht hu hi hz (some ⟨g, 0, none⟩) n cap xs (by
        rw [hsize]
        exact run_firstCells_some (P := P) w.drew 1 n ⟨g, 0, none⟩ n cap xs (by rw [hxl, Nat.mul_one]) (by simpa using holds)) k (by omega) (by omega) (by omega) (by omega) (by rw [hby]; omega) hfit, zcells]
end
section
variable {P : Program} {B : Code} {n : Cx} {p : List Nat} {i : Nat} {κ : Kn} {w : World} {Z : Kn → World → Prop} {w0 : World} {F0 : Nat → Prop} {m0 m : Mem} {σ : List Item}
theorem appzS (d : Option Nat) (t u e : TypeId) (ty : TypeId) (n' : Nat) (A : Option Addr) (c : Nat) (l y : List UInt8) (k0 : Nat) {us : TypeId} {ik ik' : IntKind} (H : St w0 F0 m0 m σ w) (hn : σ[n']? = some (rowI rU8 e A c l)) (he : elB P t e 1 1 (.int .u8 0)) (hu : P.underlying u = some (.int ik)) (hus : P.underlying us = some .string)
    (ho : fetch B n p i κ = some (d, vS (Builtin.append_ #[t, u] ty #[.slice A l.length c, .int ik' (k0 : Int)]))) (hy : app l (List.replicate k0 0) = some y)
    (hk : ∀ A' c1 w1, St w0 F0 m0 m (σ.set n' (rowI rU8 e A' c1 y)) w1 → Z (putk d (.slice A' y.length c1) κ) w1) : Step P B n p i κ w Z := by
  obtain ⟨F, ⟨⟨xs, h1, ho1⟩, hF⟩, h2, h3⟩ := H.upd n' hn
  obtain ⟨hb, rfl⟩ := app_some hy
  obtain ⟨ht, hinf⟩ := he
  obtain ⟨i0, hi, hzz⟩ := Option.map_eq_some_iff.1 hinf
  simp only [Prod.mk.injEq] at hzz
  obtain ⟨hz0, hz1, hz2⟩ := hzz
  rw [List.length_replicate] at hb
  obtain ⟨v', w', hr0, h4, h5, h6⟩ := run_appstr (P := P) w 0 t us ty e i0 ht hus hi hz0 hz1 hz2 _ l.length xs ho1 (zs k0) (by rw [zs_size]; simp only [maxLen]; omega) (by rw [zs_size]; omega) (Nat.zero_le _)
  have hr := (run_append_zeros (P := P) w 0 t u us ty e i0 (ik := ik) (ik' := ik') ht hu hus hi hz0 hz1 hz2 _ l.length k0 xs ho1 (by omega) (Nat.zero_le _)).trans hr0
  obtain ⟨A', c1, rfl, h7, _⟩ := own_shape h4
  have hs : (zs k0).size = (List.replicate k0 (0 : UInt8)).length := by rw [zs_size, List.length_replicate]
  rw [hs, ← List.length_append] at h4 h6 hr
  refine runR ho (vS_run hr) (hk A' c1 w' (h3 w' (rowI rU8 e A' c1 (l ++ List.replicate k0 0)) (fun k => (Value.slice A' (l ++ List.replicate k0 0).length c1).ownBlock = some k) ((Kp.of_gb h5 (run_drawn _ _ hr)).mono (fun k _ e => (hF k).2 e.symm)) ⟨⟨xs ++ Lib.strCells (zs k0), h1.app (Rows.u8.2 (by rw [zstr]; simp [bs])), h4⟩, fun _ => Iff.rfl⟩ ?_))
  intro k hk
  rcases h6 with e | e
  · exact .inl ((hF k).2 (e ▸ hk))
  · rw [e] at hk
    cases hk
    exact .inr (Nat.le_refl _)
end
end Go.Proofs.YtkmhidggbnbaaaaGreatDoor.K
set_option linter.unusedVariables false
set_option linter.unusedSimpArgs false
set_option linter.unusedSectionVars false
namespace Go.Proofs.YtkmhidggbnbaaaaGreatDoor.K.E
open Go Go.RowKit
def mkz {α : Type} (b : Nat) (z : α) (n : Int) : Option (List α) := cond (decide (0 ≤ n) && decide ((b : Int) * n ≤ 281474976710656)) (some (List.replicate n.toNat z)) none
theorem mkz_some {α : Type} {b : Nat} {z : α} {n : Int} {l : List α} (h : mkz b z n = some l) : 0 ≤ n ∧ (b : Int) * n ≤ 281474976710656 ∧ l = List.replicate n.toNat z := by
  unfold mkz at h
  cases hc : (decide (0 ≤ n) && decide ((b : Int) * n ≤ 281474976710656)) with
  | false => rw [hc] at h; cases h
  | true =>
    rw [hc] at h
    rw [Bool.and_eq_true] at hc
    cases h
    exact ⟨of_decide_eq_true hc.1, of_decide_eq_true hc.2, rfl⟩
section
variable (P : Program) (tb : Tab) {ρ : Type}
def whichE {ρ : Type} (i : Int) (k : Nat → Option ρ) : Nat → Nat → Option ρ
  | _, 0 => none
  | j, n + 1 => cond (decide (i = (j : Int))) (k j) (whichE i k (j + 1) n)
theorem whichE_some {ρ : Type} {i : Int} {k : Nat → Option ρ} {a : ρ} : ∀ {j n : Nat}, whichE i k j n = some a → ∃ q : Nat, i = (q : Int) ∧ q < j + n ∧ k q = some a
  | _, 0, h => by cases h
  | j, n + 1, h => by
    simp only [whichE] at h
    rcases condT h with ⟨h1, h2⟩ | ⟨_, h2⟩
    · exact ⟨j, of_decide_eq_true h1, by omega, h2⟩
    · obtain ⟨q, e1, e2, e3⟩ := whichE_some h2
      exact ⟨q, e1, by omega, e3⟩
def idxM (t : TypeId) (a b : AV tb.T) (s : S tb.T) (k : KO tb.T ρ) : Option ρ := match a, iv b with
  | .row id, some i => match lk s.σ id with
    | some (_, .row n _ l) => cond (slB' P tb t n && Nat.blt 0 (tb.rep n).sz) ((idx l i).bind fun _ => k (.elt id i n 0) s) none
    | some (_, .lit _ _ _) => match frz tb s id with
      | some (.sl n l, s) => idxB P tb t (.sl n l) b (fun v => k v s)
      | _ => none
    | _ => none
  | .ptr id off, some i => match P.underlying t with
    | some (.array N e) => cond (arB P t N e (sizeA P e) && Nat.ble N 16) (whichE i (fun j => k (.ptr id (off + j * sizeA P e)) s) 0 N) none
    | _ => none
  | .cells off l, some i => match P.underlying t with
    | some (.array N e) => cond (arB P t N e (sizeA P e) && Nat.ble N 16) (whichE i (fun j => k (.cells (off + j * sizeA P e) l) s) 0 N) none
    | _ => none
  | _, _ => none
def lenM (t : TypeId) (a : AV tb.T) (s : S tb.T) (k : KO tb.T ρ) : Option ρ := match a with
  | .row id => match slcE P t, lk s.σ id with
    | some _, some (_, .row _ _ l) => k (.i64 (l.length : Int)) s
    | some _, some (_, .lit _ j _) => k (.i64 (j : Int)) s
    | _, _ => none
  | _ => none
def sliceM (t : TypeId) (a : AV tb.T) (lo hi : Option Operand) (s : S tb.T) (k : KO tb.T ρ) : Option ρ := match frzA tb 20 [a] s with
  | some ([a], s) => sliceB P tb (evA s.κ) t a lo hi (fun v => k v s)
  | _ => none
def u8L {T : Nat → Type} : List (AV T) → Option (List UInt8)
  | [] => some []
  | .u8 x :: r => match u8L r with
    | some l => some (x :: l)
    | none => none
  | _ => none
def convM (sT d : TypeId) (a : AV tb.T) (s : S tb.T) (k : KO tb.T ρ) : Option ρ := match a with
  | .str l => match (P.underlying sT).isSome, P.underlying d with
    | true, some (.slice e) => match P.underlying e with
      | some (.int .u8) => k (.sl tb.u8c (tb.ofu8 l)) s
      | _ => none
    | _, _ => none
  | .row id => match lk s.σ id, P.underlying sT, P.underlying d with
    | some (_, .row n _ l), some (.slice e), some .string => match P.underlying e, tb.tou8 n l with
      | some (.int .u8), some x => k (.str x) s
      | _, _ => none
    | some (_, .lit t kk c), some (.slice e), some (.slice _) => cond (Nat.beq sT d && (Nat.beq e t && Nat.ble kk 137438953472)) (match P.underlying e, u8L c with
      | some (.int .u8), some l => cond (Nat.beq l.length kk) (k (.sl tb.u8c (tb.ofu8 l)) (chg s id (.sl tb.u8c (tb.ofu8 l)))) none
      | _, _ => none) none
    | some (_, .lit _ _ _), _, _ => match frz tb s id with
      | some (b, s) => match convB P tb sT d b with
        | some v => k v s
        | none => none
      | none => none
    | _, _, _ => none
  | _ => none
def elC (t e sz : Nat) : Bool := match P.underlying t, P.info? e with
  | some (.slice e'), some i => Nat.beq e' e && (Nat.beq i.size sz && (Nat.blt 0 sz && (Nat.blt 0 i.bytes && (Nat.ble i.bytes 1024 && (match i.zero with
    | some z => Nat.beq z.cells.size sz
    | none => false)))))
  | _, _ => false
def elU8 (t e : Nat) : Bool := match P.underlying t, P.info? e with
  | some (.slice e'), some i => Nat.beq e' e && (Nat.beq i.size 1 && (Nat.beq i.bytes 1 && (match i.zero with
    | some (.int .u8 z) => decide (z = 0)
    | _ => false)))
  | _, _ => false
def newsA (n : Nat) (b : AV tb.T) (s : S tb.T) : Option (List (tb.T n) × S tb.T) := match b with
  | .sl n' l => match castL n n' l with
    | some x => some (x, s)
    | none => none
  | .nils => some ([], s)
  | .row id => match lk s.σ id with
    | some (_, .row n' _ l) => match castL n n' l with
      | some x => some (x, s)
      | none => none
    | some (_, .lit _ _ c) => match frzA tb 20 c s with
      | some (_, s) => match lk s.σ id with
        | some (_, .lit _ j c) => match imL tb n (tb.rep n).sz j c with
          | some x => some (x, delI s id)
          | none => none
        | _ => none
      | none => none
    | _ => none
  | _ => none
def baseA (n e : Nat) (a : AV tb.T) (s : S tb.T) : Option (List (tb.T n) × S tb.T) := match a with
  | .nils => some ([], s)
  | .row id => match lk s.σ id with
    | some (_, .row n' e' l) => cond (Nat.beq e' e) (match castL n n' l with
      | some x => some (x, delI s id)
      | none => none) none
    | some (_, .lit _ _ c) => match frzA tb 20 c s with
      | some (_, s) => match lk s.σ id with
        | some (_, .lit e' j c) => cond (Nat.beq e' e && Nat.ble j 137438953472) (match imL tb n (tb.rep n).sz j c with
          | some x => some (x, delI s id)
          | none => none) none
        | _ => none
      | none => none
    | _ => none
  | _ => none
def appU (e : TypeId) (x : List UInt8) (a : AV tb.T) (s : S tb.T) (k : KO tb.T ρ) : Option ρ := match a with
  | .nils => (app [] x).bind fun y => k (.row s.c) (addI s (.row tb.u8c e (tb.ofu8 y)))
  | .row id => match lk s.σ id with
    | some (_, .row n' e' l) => cond (Nat.beq e' e) (match tb.tou8 n' l with
      | some l => (app l x).bind fun y => k (.row s.c) (addI (delI s id) (.row tb.u8c e (tb.ofu8 y)))
      | none => none) none
    | _ => none
  | _ => none
def strT : Option TypeId := (List.range P.types.size).find? (isStrT P ·)
def isIntT (t : TypeId) : Bool := match P.underlying t with
  | some (.int _) => true
  | _ => false
def appM (t t2 : TypeId) (a b : AV tb.T) (s : S tb.T) (k : KO tb.T ρ) : Option ρ := match slcE P t with
  | none => none
  | some e => match b with
    | .str x => cond (isStrT P t2 && elU8 P t e) (appU tb e x a s k) none
    | .i64 x => cond (isIntT P t2 && (elU8 P t e && (strT P).isSome)) ((mkz 1 (0 : UInt8) x).bind fun z => appU tb e z a s k) none
    | b => match tb.code e with
      | none => none
      | some n => cond (Nat.beq t2 t && elC P t e (tb.rep n).sz) (match newsA tb n b s with
        | some (x, s) => match baseA tb n e a s with
          | some (l, s) => (app l x).bind fun y => k (.row s.c) (addI s (.row n e y))
          | none => none
        | none => none) none
end
section
variable {P : Program} {tb : Tab} {bs : Bs} {η : List Value} {m : Mem} {s : S tb.T} {w : World} {κc : Kn} {B : Code} {n : Cx} {p : List Nat} {i : Nat} {o : Oper} {ρ' : Type} {k : KO tb.T ρ'} {ans : ρ'} {a b v : AV tb.T} {x y : Value}
theorem slcE_ok {t e : Nat} (h : slcE P t = some e) : P.underlying t = some (.slice e) := by
  unfold slcE at h
  split at h
  · cases h; assumption
  · cases h
theorem elU8_ok {t e : Nat} (h : elU8 P t e = true) : elB P t e 1 1 (.int .u8 0) := by
  unfold elU8 at h
  split at h
  · rename_i e' inf hu hi
    simp only [Bool.and_eq_true] at h
    obtain ⟨h1, h2, h3, h4⟩ := h
    have := beq_t h1
    subst this
    split at h4
    · rename_i z hz
      have := of_decide_eq_true h4
      subst this
      exact ⟨hu, by simp [hi, hz, beq_t h2, beq_t h3]⟩
    · cases h4
  · cases h
theorem elC_ok {t e sz : Nat} (h : elC P t e sz = true) : ∃ by_ z, elB P t e sz by_ z ∧ z.cells.size = sz ∧ 0 < sz ∧ 0 < by_ ∧ by_ ≤ 1024 := by
  unfold elC at h
  split at h
  · rename_i e' inf hu hi
    simp only [Bool.and_eq_true, Nat.blt_eq] at h
    obtain ⟨h1, h2, h3, h4, h5, h6⟩ := h
    have := beq_t h1
    subst this
    have := beq_t h2
    subst this
    cases hz : inf.zero with
    | none => rw [hz] at h6; cases h6
    | some z =>
      rw [hz] at h6
      exact ⟨inf.bytes, z, ⟨hu, by simp [hi, hz]⟩, beq_t h6, h3, h4, Nat.le_of_ble_eq_true h5⟩
  · cases h
variable (hw : Wd tb bs η m s w) (hk : KR tb η m s.κ κc)
include hw hk
theorem idxM_step (T : TabOk tb) {t : TypeId} (fo' : fetch B n p i κc = some (o.dst, vS (Instr.indexAt t x y))) (ha : R tb η m a x) (hb : R tb η m b y) (h : idxM P tb t a b s k = some ans) : Step P B n p i κc w (YX tb bs η m o.dst s k ans κc) := by
  unfold idxM at h
  split at h
  · rename_i id j hj
    obtain ⟨ik, rfl⟩ := iv_ok hj hb
    obtain ⟨hη, _⟩ := ha
    split at h
    · rename_i st n' e l hl
      cases hc : (slB' P tb t n' && Nat.blt 0 (tb.rep n').sz) with
      | false => rw [hc] at h; cases h
      | true =>
        rw [hc] at h
        rw [Bool.and_eq_true] at hc
        obtain ⟨z, hz, h⟩ := bindE h
        obtain ⟨i0, i1, i2⟩ := idx_some hz
        obtain ⟨A, c, g1, H⟩ := hw.row hl
        rw [hη] at g1
        cases g1
        obtain ⟨ad, cs, hA, _⟩ := H.rowAt 0 rfl i2 (by simpa [Nat.blt_eq] using hc.2)
        cases hA
        obtain ⟨e2, he2⟩ := slB'_ok hc.1
        refine runR fo' (idx_run t e2 (tb.rep n').sz (some ad) ad l.length c ik j _ rfl he2 i0 i1 rfl) ⟨_, s, _, η, m, h, Ext.refl _, rfl, Le.refl _, Sub.refl _, ⟨ad, l.length, c, hη, i0, i1, ?_⟩, hk, hw⟩
        simp [Addr.add]
    · split at h
      · rename_i n' l s1 hf
        obtain ⟨h1, m1, h2, h3, h4, h5⟩ := frz_ok T hf hw hk
        obtain ⟨v, hv, u, hu, hr⟩ := idxB_ok T h4.gl h (h5.1 x ⟨hη, by assumption⟩) (R.mono (Le.refl _) h2 b hb)
        exact Step.imp (runR fo' (hu w h4.st.has) ⟨v, s1, u, η, m1, hv, h1, rfl, Le.refl _, h2, hr, h3, h4⟩) fun _ _ e => e
      · cases h
    · cases h
  · rename_i id off j hj
    obtain ⟨ik, rfl⟩ := iv_ok hj hb
    obtain ⟨g, hg, rfl⟩ := ha
    split at h
    · rename_i N e hu
      cases hc : (arB P t N e (sizeA P e) && Nat.ble N 16) with
      | false => rw [hc] at h; cases h
      | true =>
        rw [hc] at h
        simp only [Bool.and_eq_true] at hc
        obtain ⟨q, rfl, h1, h⟩ := whichE_some h
        refine runR fo' (idxA_run t N e (sizeA P e) ⟨g, off, none⟩ ik (q : Int) hc.1 (by omega) (by omega)) ⟨_, s, _, η, m, h, Ext.refl _, rfl, Le.refl _, Sub.refl _, ⟨g, hg, by rw [Addr.add_lit, Int.toNat_natCast]⟩, hk, hw⟩
    · cases h
  · rename_i off l j hj
    obtain ⟨ik, rfl⟩ := iv_ok hj hb
    obtain ⟨A, cs, rfl, h1, h2⟩ := ha
    split at h
    · rename_i N e hu
      cases hc : (arB P t N e (sizeA P e) && Nat.ble N 16) with
      | false => rw [hc] at h; cases h
      | true =>
        rw [hc] at h
        simp only [Bool.and_eq_true] at hc
        obtain ⟨q, rfl, h3, h⟩ := whichE_some h
        refine runR fo' (idxA_run t N e (sizeA P e) (A.add off) ik (q : Int) hc.1 (by omega) (by omega)) ⟨_, s, _, η, m, h, Ext.refl _, rfl, Le.refl _, Sub.refl _, ⟨A, cs, by rw [add_add, Int.toNat_natCast], h1, h2⟩, hk, hw⟩
    · cases h
  · cases h
theorem lenM_step {t ty : TypeId} (fo' : fetch B n p i κc = some (o.dst, vS (Builtin.len_ #[t] ty #[x]))) (ha : R tb η m a x) (h : lenM P tb t a s k = some ans) : Step P B n p i κc w (YX tb bs η m o.dst s k ans κc) := by
  have run : ∀ (A : Option Addr) (l c e : Nat), P.underlying t = some (.slice e) → (vS (Builtin.len_ #[t] ty #[.slice A l c])).run P w = .ok (.value (.int .i64 (l : Int))) w := by
    intro A l c e hu
    refine vS_run ?_
    simp only [Builtin.len_, List.getElem?_toArray, List.getElem?_cons_zero, Sem.run_bind, run_und hu, Result.andThen_ok]
    rfl
  unfold lenM at h
  split at h
  · rename_i id
    obtain ⟨hη, _⟩ := ha
    split at h
    · rename_i e st n' e' l he hl
      obtain ⟨A, c, g1, H⟩ := hw.row hl
      rw [hη] at g1
      cases g1
      exact runR fo' (run _ _ _ e (slcE_ok he)) ⟨_, s, _, η, m, h, Ext.refl _, rfl, Le.refl _, Sub.refl _, rfl, hk, hw⟩
    · rename_i e st t' j c he hl
      obtain ⟨g, cs, g1, _⟩ := hw.lit hl
      rw [hη] at g1
      cases g1
      exact runR fo' (run _ _ _ e (slcE_ok he)) ⟨_, s, _, η, m, h, Ext.refl _, rfl, Le.refl _, Sub.refl _, rfl, hk, hw⟩
    · cases h
  · cases h
theorem sliceM_step (T : TabOk tb) {t : TypeId} {lo hi : Option Operand} (fo' : fetch B n p i κc = some (o.dst, vS (Instr.sliceAt t x (lo.map (evT κc)) (hi.map (evT κc)) none))) (ha : R tb η m a x) (h : sliceM P tb t a lo hi s k = some ans) : Step P B n p i κc w (YX tb bs η m o.dst s k ans κc) := by
  unfold sliceM at h
  split at h
  · rename_i a' s1 hf
    obtain ⟨h1, m1, h2, h3, h4, h5⟩ := frzA_ok T 20 hf hw hk (RL.mk1 ha)
    obtain ⟨x', hx', ha'⟩ := h5.one
    cases hx'
    obtain ⟨v, hv, u, hu, hr⟩ := sliceB_ok h3.ev h ha'
    exact runR fo' (hu w h4.st.has) ⟨v, s1, u, η, m1, hv, h1, rfl, Le.refl _, h2, hr, h3, h4⟩
  · cases h
omit hw hk in
theorem u8L_ok : ∀ {c : List (AV tb.T)} {l : List UInt8} {cs : List Value}, u8L c = some l → RL tb η m c cs → cs = K.bs l
  | [], l, cs, h, hr => by
    simp only [u8L, Option.some.injEq] at h
    subst h
    exact hr
  | a :: r, l, cs, h, ⟨v, vs, h1, h2, h3⟩ => by
    subst h1
    unfold u8L at h
    split at h
    · rename_i e; cases e
    · rename_i x r' e
      cases e
      split at h
      · rename_i l' hl
        cases h
        have h2 : v = .int .u8 (x.toNat : Int) := h2
        rw [u8L_ok hl h3, h2]
        rfl
      · cases h
    · cases h
theorem convM_step (T : TabOk tb) {sT d : TypeId} (fo' : fetch B n p i κc = some (o.dst, vS (convert sT d x))) (ha : R tb η m a x) (h : convM P tb sT d a s k = some ans) : Step P B n p i κc w (YX tb bs η m o.dst s k ans κc) := by
  unfold convM at h
  split at h
  · rename_i l
    obtain ⟨rfl, hl⟩ := ha
    split at h
    · rename_i e hs hu
      split at h
      · rename_i he
        obtain ⟨ds, hds⟩ := Option.isSome_iff_exists.1 hs
        refine s2bS (H := hw.st) o.dst sT d e l hds hu he fo' ?_ hl
        intro A' c' m1 w1 h1 h2 H1
        have h3 : (.slice A' l.length c' : Value) = .slice A' (tb.ofu8 l).length c' ∧ SlI (tb.rep tb.u8c) m1 A' c' (tb.ofu8 l) := T.ofu8 (x := l) (fun α r y => (Value.slice A' l.length c' = .slice A' y.length c') ∧ SlI r m1 A' c' y) ⟨rfl, h2⟩
        exact ⟨_, s, _, η, m1, h, Ext.refl _, rfl, Le.refl _, h1, ⟨A', c', h3.1, h3.2⟩, hk.mono (Le.refl _) h1, hw.len, hw.le, St_imp H1 (fun _ e => e), Glob.mono hw.gl h1⟩
      · cases h
    · cases h
  · rename_i id
    obtain ⟨hη, _⟩ := ha
    split at h
    · rename_i st n' e' l e hl hus hud
      split at h
      · rename_i z hue hz
        obtain ⟨A, c, g1, H⟩ := hw.row hl
        rw [hη] at g1
        cases g1
        have h3 : ∃ F0, l.length = z.length ∧ (rowI rU8 e' A c z).P m w F0 := by
          obtain ⟨F, ⟨F1, F2, h1, _⟩, _⟩ := H.sep
          exact ⟨F1, T.tou8 hz (fun α r y => l.length = y.length ∧ (rowI r e' A c y).P m w F1) ⟨rfl, h1⟩⟩
        obtain ⟨F0, h4, ⟨xs, h5, h6⟩, h7⟩ := h3
        rw [Rows.u8.1 h5] at h6
        have hcap := own_cap h6
        rw [h4] at fo'
        exact runR fo' (b2s_run sT d e A z.length c z hus hue hud (Cs.of_own h6) rfl) ⟨_, s, _, η, m, h, Ext.refl _, rfl, Le.refl _, Sub.refl _, ⟨rfl, Nat.le_trans hcap.1 hcap.2⟩, hk, hw⟩
      · cases h
    · rename_i st t kk c e e' hl hus hud
      cases hb : (Nat.beq sT d && (Nat.beq e t && Nat.ble kk 137438953472)) with
      | false => rw [hb] at h; cases h
      | true =>
        rw [hb] at h
        rw [Bool.and_eq_true, Bool.and_eq_true] at hb
        have e1 := beq_t hb.1
        have e2 := beq_t hb.2.1
        subst e1 e2
        simp only [cond_true] at h
        split at h
        · rename_i l hue hul
          cases hkl : Nat.beq l.length kk with
          | false => rw [hkl] at h; cases h
          | true =>
            have e3 := beq_t hkl
            subst e3
            rw [hkl] at h
            simp only [cond_true] at h
            obtain ⟨g, cs, g1, g2, H⟩ := hw.lit hl
            rw [hη] at g1
            cases g1
            have hcs := u8L_ok hul g2
            subst hcs
            refine litcS (H := H) o.dst sT e 0 g l rfl fo' hus hue (Nat.le_trans (Nat.le_of_ble_eq_true hb.2.2) (by decide)) ?_
            intro m1 w1 hs1 hsl H1
            have h3 : (.slice (some ⟨g, 0, none⟩) l.length l.length : Value) = .slice (some ⟨g, 0, none⟩) (tb.ofu8 l).length l.length ∧ SlI (tb.rep tb.u8c) m1 (some ⟨g, 0, none⟩) l.length (tb.ofu8 l) := T.ofu8 (x := l) (fun α r y => (Value.slice (some ⟨g, 0, none⟩) l.length l.length = .slice (some ⟨g, 0, none⟩) y.length l.length) ∧ SlI r m1 (some ⟨g, 0, none⟩) l.length y) ⟨rfl, hsl⟩
            have hR : R tb η m1 (.sl tb.u8c (tb.ofu8 l)) (.slice (some ⟨g, 0, none⟩) l.length l.length) := ⟨some ⟨g, 0, none⟩, l.length, h3.1, h3.2⟩
            obtain ⟨k1, k2⟩ := chg_ok (w' := w1) (b := .sl tb.u8c (tb.ofu8 l)) hw hk hs1 H1 ⟨by
              rintro v ⟨h8, _⟩
              rw [hη] at h8
              cases h8
              exact hR, fun o v e => e⟩
            exact ⟨_, _, _, η, m1, h, chg_ext, rfl, Le.refl _, hs1, hR, k1, k2⟩
        · cases h
    · split at h
      · rename_i b s1 hf
        obtain ⟨h1, m1, h2, h3, h4, h5⟩ := frz_ok T hf hw hk
        split at h
        · rename_i v hv
          obtain ⟨u, hu, hr⟩ := convB_ok T hv (h5.1 x ⟨hη, by assumption⟩)
          exact runR fo' (hu w h4.st.has) ⟨v, s1, u, η, m1, h, h1, rfl, Le.refl _, h2, hr, h3, h4⟩
        · cases h
      · cases h
    · cases h
  · cases h
omit hk in
theorem newsA_ok (T : TabOk tb) {n1 : Nat} {z : List (tb.T n1)} {s1 : S tb.T} (hk : KR tb η m s.κ κc) (h : newsA tb n1 b s = some (z, s1)) (hb : R tb η m b y) :
    ∃ m1, Ext s s1 ∧ Sub m m1 ∧ KR tb η m1 s1.κ κc ∧ Wd tb bs η m1 s1 w ∧ ∃ X c' news, y = .slice X z.length c' ∧ Rows (tb.rep n1) m1 news z ∧ Cs 0 w.heap.size w X news := by
  unfold newsA at h
  split at h
  · rename_i n' l
    cases hc : castL n1 n' l with
    | none => rw [hc] at h; cases h
    | some z' =>
      rw [hc] at h
      cases h
      obtain ⟨en, rfl⟩ := castL_some hc
      subst en
      obtain ⟨A, c, rfl, hs⟩ := hb
      obtain ⟨xs, h1, h2⟩ := hs.cs
      exact ⟨m, Ext.refl _, Sub.refl _, hk, hw, A, c, xs, rfl, h1, h2.cs hw.st.has⟩
  · cases h
    have hb : y = .slice none 0 0 := hb
    subst hb
    exact ⟨m, Ext.refl _, Sub.refl _, hk, hw, none, 0, [], rfl, rfl, Cs.nil _ _ _ _⟩
  · rename_i id
    obtain ⟨hη, _⟩ := hb
    split at h
    · rename_i st n' e' l hl
      cases hc : castL n1 n' l with
      | none => rw [hc] at h; cases h
      | some z' =>
        rw [hc] at h
        cases h
        obtain ⟨en, rfl⟩ := castL_some hc
        subst en
        obtain ⟨A, c, g1, H⟩ := hw.row hl
        rw [hη] at g1
        cases g1
        obtain ⟨xs, h1, h2⟩ := H.rowCs' 0 rfl
        exact ⟨m, Ext.refl _, Sub.refl _, hk, hw, A, c, xs, rfl, h1, h2⟩
    · rename_i st t' j0 c hl
      split at h
      · rename_i c2 s2 hf
        obtain ⟨g0, cs0, _, hr0, _⟩ := hw.lit hl
        obtain ⟨h1, m1, h2, h3, h4, _⟩ := frzA_ok T 20 hf hw hk hr0
        split at h
        · rename_i st2 t2 j c3 hl2
          split at h
          · rename_i z' hz
            cases h
            obtain ⟨g, cs, g1, hr, H⟩ := h4.lit hl2
            obtain ⟨h6, h7⟩ := imL_ok T hz hr
            rw [hη] at g1
            cases g1
            have hg := H.blk 0 rfl
            exact ⟨m1, h1.trans (Ext.del h4 id), h2, h3, h4.drop hl2, some ⟨g, 0, none⟩, j, cs, by rw [h7], h6, (Cs.of_blk hg).old⟩
          · cases h
        · cases h
      · cases h
    · cases h
  · cases h
omit hk in
theorem baseA_ok (T : TabOk tb) {n1 e : Nat} {z : List (tb.T n1)} {s1 : S tb.T} (hk : KR tb η m s.κ κc) (h : baseA tb n1 e a s = some (z, s1)) (ha : R tb η m a x) :
    ∃ m1, Ext s s1 ∧ Sub m m1 ∧ KR tb η m1 s1.κ κc ∧ Wd tb bs η m1 s1 w ∧ ∃ A c, x = .slice A z.length c ∧ St bs.w0 bs.F0 bs.m0 m1 (rowI (tb.rep n1) e A c z :: its tb η s1.σ) w := by
  unfold baseA at h
  split at h
  · cases h
    have ha : x = .slice none 0 0 := ha
    subst ha
    exact ⟨m, Ext.refl _, Sub.refl _, hk, hw, none, 0, rfl, hw.st.nilR _ _⟩
  · rename_i id
    obtain ⟨hη, _⟩ := ha
    split at h
    · rename_i st n' e' l hl
      cases hc : Nat.beq e' e with
      | false => rw [hc] at h; cases h
      | true =>
        rw [hc] at h
        have := beq_t hc
        subst this
        simp only [cond_true] at h
        split at h
        · rename_i z' hz
          cases h
          obtain ⟨en, rfl⟩ := castL_some hz
          subst en
          obtain ⟨A, c, g1, H⟩ := hw.row hl
          rw [hη] at g1
          cases g1
          exact ⟨m, Ext.del hw id, Sub.refl _, hk, hw.drop hl, A, c, rfl, H⟩
        · cases h
    · rename_i st t' j0 c hl
      split at h
      · rename_i c2 s2 hf
        obtain ⟨g0, cs0, _, hr0, _⟩ := hw.lit hl
        obtain ⟨h1, m1, h2, h3, h4, _⟩ := frzA_ok T 20 hf hw hk hr0
        split at h
        · rename_i st2 t2 j c3 hl2
          cases hc : (Nat.beq t2 e && Nat.ble j 137438953472) with
          | false => rw [hc] at h; cases h
          | true =>
            rw [hc] at h
            rw [Bool.and_eq_true] at hc
            have := beq_t hc.1
            subst this
            simp only [cond_true] at h
            split at h
            · rename_i z' hz
              cases h
              obtain ⟨g, cs, g1, hr, H⟩ := h4.lit hl2
              obtain ⟨h6, h7⟩ := lit_row T hz (Nat.le_of_ble_eq_true hc.2) hr H
              rw [hη] at g1
              cases g1
              exact ⟨m1, h1.trans (Ext.del h4 id), h2, h3, h4.drop hl2, some ⟨g, 0, none⟩, z.length, by rw [h6], h7⟩
            · cases h
        · cases h
      · cases h
    · cases h
  · cases h
theorem appU_step (T : TabOk tb) {e : TypeId} {z : List UInt8} (ha : R tb η m a x) (h : appU tb e z a s k = some ans)
    (hS : ∀ {σ : List Item} {Z : Kn → World → Prop} {l yy : List UInt8} {A : Option Addr} {c : Nat}, x = .slice A l.length c → St bs.w0 bs.F0 bs.m0 m (rowI rU8 e A c l :: σ) w → app l z = some yy → (∀ A' c1 w1, St bs.w0 bs.F0 bs.m0 m (rowI rU8 e A' c1 yy :: σ) w1 → Z (putk o.dst (.slice A' yy.length c1) κc) w1) → Step P B n p i κc w Z) : Step P B n p i κc w (YX tb bs η m o.dst s k ans κc) := by
  unfold appU at h
  have fin : ∀ {s1 : S tb.T} {l yy : List UInt8} {A : Option Addr} {c : Nat}, Ext s s1 → KR tb η m s1.κ κc → Wd tb bs η m s1 w → x = .slice A l.length c → St bs.w0 bs.F0 bs.m0 m (rowI rU8 e A c l :: its tb η s1.σ) w → app l z = some yy →
      k (.row s1.c) (addI s1 (.row tb.u8c e (tb.ofu8 yy))) = some ans → Step P B n p i κc w (YX tb bs η m o.dst s k ans κc) := by
    intro s1 l yy A c k1 k3 q4 hx H hy h
    refine hS hx H hy ?_
    intro A' c1 w1 H1
    have e1 : yy.length = (tb.ofu8 yy).length := T.ofu8 (x := yy) (fun α r y => yy.length = y.length) rfl
    have hadd := q4.add q4.gl (x := .row tb.u8c e (tb.ofu8 yy)) (u := .slice A' yy.length c1) (w' := w1) (St_conv H1 (fun F hF => ⟨A', c1, by rw [← e1]; exact at_new q4 _, T.ofu8 (x := yy) (fun α r y => (rowI r e A' c1 y).P m w1 F) hF⟩) (fun _ hF => hF))
    exact ⟨_, _, _, _, m, h, k1.trans (Ext.add _ _), rfl, Le.app _ _, Sub.refl _, ⟨at_new q4 _, rfl⟩, k3.mono (Le.app _ _) (Sub.refl _), hadd⟩
  split at h
  · obtain ⟨yy, hy, h⟩ := bindE h
    have ha : x = .slice none 0 0 := ha
    exact fin (Ext.refl _) hk hw ha (hw.st.nilR _ _) hy h
  · rename_i id
    obtain ⟨hη, _⟩ := ha
    split at h
    · rename_i st n' e' l hl
      cases hbe : Nat.beq e' e with
      | false => rw [hbe] at h; cases h
      | true =>
        rw [hbe] at h
        have := beq_t hbe
        subst this
        simp only [cond_true] at h
        split at h
        · rename_i l' hl'
          obtain ⟨yy, hy, h⟩ := bindE h
          obtain ⟨A, c, g1, H⟩ := hw.row hl
          rw [hη] at g1
          cases g1
          have hlen : l.length = l'.length := T.tou8 hl' (fun α r y => l.length = y.length) rfl
          refine fin (Ext.del hw id) hk (hw.drop hl) (by rw [hlen]) (St_conv H (fun F hF => ?_) (fun _ e => e)) hy h
          exact T.tou8 hl' (fun α r y => (rowI r e' A c y).P m w F) hF
        · cases h
    · cases h
  · cases h
theorem appM_step (T : TabOk tb) {t t2 ty : TypeId} (fo' : fetch B n p i κc = some (o.dst, vS (Builtin.append_ #[t, t2] ty #[x, y]))) (ha : R tb η m a x) (hb : R tb η m b y) (h : appM P tb t t2 a b s k = some ans) : Step P B n p i κc w (YX tb bs η m o.dst s k ans κc) := by
  unfold appM at h
  split at h
  · cases h
  · rename_i e he
    split at h
    · rename_i z
      obtain ⟨rfl, hzl⟩ := hb
      cases hc : (isStrT P t2 && elU8 P t e) with
      | false => rw [hc] at h; cases h
      | true =>
        rw [hc] at h
        rw [Bool.and_eq_true] at hc
        simp only [cond_true] at h
        exact appU_step hw hk T ha h (fun hx H hy hk1 => by
          subst hx
          exact appstrS (H := H) o.dst t t2 e ty 0 _ _ _ z _ rfl (elU8_ok hc.2) (isStrT_ok hc.1) fo' hy hk1)
    · rename_i z
      obtain rfl : y = .int .i64 z := hb
      cases hc : (isIntT P t2 && (elU8 P t e && (strT P).isSome)) with
      | false => rw [hc] at h; cases h
      | true =>
        rw [hc] at h
        rw [Bool.and_eq_true, Bool.and_eq_true] at hc
        simp only [cond_true] at h
        obtain ⟨zz, hz, h⟩ := bindE h
        obtain ⟨g0, g1, rfl⟩ := mkz_some hz
        obtain ⟨ik1, hu⟩ : ∃ ik1, P.underlying t2 = some (.int ik1) := by
          have := hc.1
          unfold isIntT at this
          split at this
          · exact ⟨_, by assumption⟩
          · cases this
        obtain ⟨us, hus⟩ := Option.isSome_iff_exists.1 hc.2.2
        have hus' := isStrT_ok (List.find?_some hus)
        exact appU_step hw hk T ha h (fun hx H hy hk1 => by
          subst hx
          refine appzS (ik' := .i64) (H := H) o.dst t t2 e ty 0 _ _ _ _ z.toNat rfl (elU8_ok hc.2.1) hu hus' ?_ hy hk1
          rw [show ((z.toNat : Nat) : Int) = z by omega]
          exact fo')
    · split at h
      · cases h
      · rename_i n1 hn1
        cases hc : (Nat.beq t2 t && elC P t e (tb.rep n1).sz) with
        | false => rw [hc] at h; cases h
        | true =>
          rw [hc] at h
          rw [Bool.and_eq_true] at hc
          have := beq_t hc.1
          subst this
          simp only [cond_true] at h
          split at h
          · rename_i z s1 hz
            obtain ⟨m1, k1, k2, k3, k4, X, c', news, rfl, k5, k6⟩ := newsA_ok hw T hk hz hb
            split at h
            · rename_i l s2 hl
              obtain ⟨m2, q1, q2, q3, q4, A, c, rfl, H⟩ := baseA_ok k4 T k3 hl (R.mono (Le.refl _) k2 a ha)
              obtain ⟨yy, hy, h⟩ := bindE h
              obtain ⟨by_, z0, e1, e2, e3, e4, e5⟩ := elC_ok hc.2
              refine appS (H := H) o.dst t2 e by_ z0 ty 0 A X c z.length c' l z yy news rfl e1 e2 e3 fo' k6 (k5.mono q2) rfl hy e4 e5 ?_
              intro A' c1 w1 H1
              have hadd := q4.add q4.gl (x := .row n1 e yy) (u := .slice A' yy.length c1) (w' := w1) (St_conv H1 (fun F hF => ⟨A', c1, at_new q4 _, hF⟩) (fun _ hF => hF))
              exact ⟨_, _, _, _, m2, h, (k1.trans q1).trans (Ext.add _ _), rfl, Le.app _ _, k2.trans q2, ⟨at_new q4 _, rfl⟩, q3.mono (Le.app _ _) (Sub.refl _), hadd⟩
            · cases h
          · cases h
end
theorem made1 (u : Value) (n : Nat) : madeCells #[u] n = (List.replicate n u).toArray := by
  apply Array.ext'
  unfold madeCells
  simp only [Array.toList_map, Array.toList_range]
  rw [List.eq_replicate_iff]
  refine ⟨by simp, fun b hb => ?_⟩
  obtain ⟨i, _, rfl⟩ := List.mem_map.1 hb
  simp [Nat.mod_one]
theorem rows_rep {α : Type} {r : Rep α} {m : Mem} {u : Value} {z : α} (h : r.im m [u] z) : ∀ k : Nat, Rows r m (List.replicate k u) (List.replicate k z)
  | 0 => rfl
  | k + 1 => ⟨[u], List.replicate k u, rfl, h, rows_rep h k⟩
def opEq : Operand → Operand → Bool
  | .tmp a, .tmp b => Nat.beq a b
  | .const (.int .i64 a), .const (.int .i64 b) => decide (a = b)
  | _, _ => false
section
variable (P : Program) (tb : Tab) {ρ : Type}
def makM (t : TypeId) (l c : Operand) (s : S tb.T) (k : KO tb.T ρ) : Option ρ := cond (opEq l c) (match slcE P t, evA s.κ l with
  | some e, some (.i64 x) => match P.info? e, tb.code e with
    | some i, some n => match i.zero with
      | some z => cond (Nat.beq i.size 1 && Nat.ble 1 i.bytes) (match z.cells.toList with
        | [u] => match tb.im n [cst u] with
          | some zz => (mkz i.bytes zz x).bind fun y => k (.row s.c) (addI s (.row n e y))
          | none => none
        | _ => none) none
      | none => none
    | _, _ => none
  | _, _ => none) none
end
section
variable {P : Program} {tb : Tab} {bs : Bs} {η : List Value} {m : Mem} {s : S tb.T} {w : World} {κc : Kn} {B : Code} {n : Cx} {p : List Nat} {i : Nat} {o : Oper} {ρ' : Type} {k : KO tb.T ρ'} {ans : ρ'}
theorem makM_step (T : TabOk tb) (hw : Wd tb bs η m s w) (hk : KR tb η m s.κ κc) (fo : fetch B n p i κc = some (o.dst, execOp (evT κc) o)) {t : TypeId} {l c : Operand} (ho : o.op = .makeSlice t l c) (h : makM P tb t l c s k = some ans) : Step P B n p i κc w (YX tb bs η m o.dst s k ans κc) := by
  unfold makM at h
  cases hq : opEq l c with
  | false => rw [hq] at h; cases h
  | true =>
    rw [hq] at h
    simp only [cond_true] at h
    have hlc : evT κc c = evT κc l := by
      unfold opEq at hq
      split at hq
      · have := beq_t hq; subst this; rfl
      · have := of_decide_eq_true hq; subst this; rfl
      · cases hq
    split at h
    · rename_i e x he hx
      split at h
      · rename_i inf nn hi hn
        split at h
        · rename_i z hz
          cases hb : (Nat.beq inf.size 1 && Nat.ble 1 inf.bytes) with
          | false => rw [hb] at h; cases h
          | true =>
            rw [hb] at h
            rw [Bool.and_eq_true] at hb
            have hs1 := beq_t hb.1
            have hb1 := Nat.le_of_ble_eq_true hb.2
            simp only [cond_true] at h
            split at h
            · rename_i u hu
              split at h
              · rename_i zz hzz
                obtain ⟨y, hy, h⟩ := bindE h
                obtain ⟨g0, g1, rfl⟩ := mkz_some hy
                have hzc : z.cells = #[u] := by apply Array.ext'; rw [hu]
                have hut : P.underlying t = some (.slice e) := by
                  unfold slcE at he
                  split at he
                  · cases he; assumption
                  · cases he
                have hxe : evT κc l = .int .i64 x := hk.ev _ _ hx
                have him : (tb.rep nn).im m [u] zz := T.im (η := η) hzz ⟨u, [], rfl, cst_ok u, rfl⟩
                have hsz : (tb.rep nn).sz = 1 := ((tb.rep nn).len him).symm
                have hle : x ≤ 281474976710656 := by
                  have : (1 : Int) * x ≤ (inf.bytes : Int) * x := Int.mul_le_mul_of_nonneg_right (by omega) g0
                  omega
                have hrun := run_make (P := P) w t e inf z hut hi hz .i64 .i64 x x g0 (Int.le_refl _) g1 (by omega)
                rw [hs1, Nat.mul_one, hzc, made1] at hrun
                have hown : (w.alloc (.cells (List.replicate x.toNat u).toArray e)).ownsRow 0 e (tb.rep nn).sz (.slice (some ⟨w.heap.size, 0, none⟩) x.toNat x.toNat) x.toNat (List.replicate x.toNat u) := by
                  have := own_of_blk (w := w.alloc (.cells (List.replicate x.toNat u).toArray e)) (g := w.heap.size) (base := 0) (n := x.toNat) (sz := (tb.rep nn).sz) (e := e) (c := (List.replicate x.toNat u).toArray) (heap_alloc_new w _) (Nat.zero_le _) (by simp only [maxLen]; omega) (by rw [hsz]; simp)
                  simpa using this
                have hl : (List.replicate x.toNat zz).length = x.toNat := List.length_replicate ..
                have hadd := hw.add hw.gl (x := .row nn e (List.replicate x.toNat zz)) (u := .slice (some ⟨w.heap.size, 0, none⟩) x.toNat x.toNat) (w' := w.alloc (.cells (List.replicate x.toNat u).toArray e))
                  (St_conv (hw.st.add (j := rowI (tb.rep nn) e (some ⟨w.heap.size, 0, none⟩) x.toNat (List.replicate x.toNat zz)) (G := fun k => k = w.heap.size) (Ex.alloc w _)
                    ⟨⟨_, rows_rep him x.toNat, by rw [hl]; exact hown⟩, fun k => ⟨fun e => by subst e; rfl, fun e => by cases e; rfl⟩⟩ (fun k e => by subst e; exact Nat.le_refl _))
                    (fun F hF => ⟨_, _, by rw [hl]; exact at_new hw _, hF⟩) (fun _ hF => hF))
                refine runR fo (v := .slice (some ⟨w.heap.size, 0, none⟩) x.toNat x.toNat) (w' := w.alloc (.cells (List.replicate x.toNat u).toArray e)) ?_ ⟨_, _, _, _, m, h, Ext.add _ _, rfl, Le.app _ _, Sub.refl _, ⟨at_new hw _, rfl⟩, hk.mono (Le.app _ _) (Sub.refl _), hadd⟩
                unfold execOp
                rw [ho]
                simp only [hlc, hxe]
                show (vS (Instr.makeSlice t (.int .i64 x) (.int .i64 x))).run P w = _
                unfold vS
                simp only [Sem.run_bind, hrun, Result.andThen_ok]
                rfl
              · cases h
            · cases h
        · cases h
      · cases h
    · cases h
end
end Go.Proofs.YtkmhidggbnbaaaaGreatDoor.K.E
