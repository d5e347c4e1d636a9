/- E, part 9 m: maps; slices against nil; structs compared; whole elements stored. -/
import Derived.Test.YtbldeodchhfjfaaGreatDoorE9
set_option linter.unusedVariables false
set_option linter.unusedSimpArgs false
set_option linter.unusedSectionVars false
namespace Go.Proofs.YtbldeodchhfjfaaGreatDoor.K.E
open Go Go.RowKit

/-! ### Both ways, the same -/
open Classical in
noncomputable def fork {ρ : Type} (x y : Option ρ) : Option ρ := if x = y then x else none
theorem fork_some {ρ : Type} {x y : Option ρ} {a : ρ} (h : fork x y = some a) : x = some a ∧ y = some a := by
  unfold fork at h
  split at h
  · rename_i e; subst e; exact ⟨h, h⟩
  · cases h
theorem fork_same {ρ : Type} (x : Option ρ) : fork x x = x := if_pos rfl
section
variable (P : Program) (tb : Tab) {ρ : Type}
def zmA {T : Nat → Type} (P : Program) (vt : TypeId) : Option (Bool × List (AV T)) := match P.info? vt with
  | some i => match i.zero with
    | some (.agg cs) => some (true, cs.toList.map cst1)
    | some v => cond v.oneCell' (some (false, [cst1 v])) none
    | none => none
  | none => none
def mapT {k : Nat} (d : MP tb.T tb.rep k) (t : TypeId) : Option TypeId := match P.underlying t with
  | some (.map kt vt) => match P.underlying kt with
    | some td => cond (d.ktd td) (some vt) none
    | none => none
  | _ => none
def withMap {C : Type} (s : S tb.T) (a : AV tb.T) (f : (id k : Nat) → MP tb.T tb.rep k → tb.T k → Option C) : Option C := match a with
  | .row id => match lk s.σ id with
    | some (_, .gen k x j) => cond (Nat.beq j id) (match tb.mp k with
      | some d => f id k d x
      | none => none) none
    | _ => none
  | _ => none
theorem withMap_some {C : Type} {s : S tb.T} {a : AV tb.T} {f : (id k : Nat) → MP tb.T tb.rep k → tb.T k → Option C} {c : C} (h : withMap tb s a f = some c) : ∃ id st k d x, a = .row id ∧ lk s.σ id = some (st, .gen k x id) ∧ tb.mp k = some d ∧ f id k d x = some c := by
  unfold withMap at h
  split at h
  · rename_i id
    split at h
    · rename_i st k x j hl
      cases hb : Nat.beq j id with
      | false => rw [hb] at h; cases h
      | true =>
        have := beq_t hb
        subst this
        rw [hb] at h
        simp only [cond_true] at h
        split at h
        · rename_i d hd
          exact ⟨j, st, k, d, x, rfl, hl, hd, h⟩
        · cases h
    · cases h
  · cases h
def mkM (t : TypeId) (s : S tb.T) (k : KO tb.T ρ) : Option ρ := match tb.gcode t with
  | some kk => match tb.mp kk with
    | some d => k (.row s.c) (addI s (.gen kk (d.of []) s.c))
    | none => none
  | none => none
def valA {T : Nat → Type} (g : Bool) (l : List (AV T)) : Option (AV T) := match g with
  | true => some (.agg l)
  | false => match l with
    | [a] => some a
    | _ => none
def valC {T : Nat → Type} (g : Bool) (a : AV T) : Option (List (AV T)) := match g with
  | true => match a with
    | .agg l => some l
    | _ => none
  | false => cond (oneA a) (some [a]) none
def beqB : Bool → Bool → Bool
  | true, b => b
  | false, b => !b
theorem beqB_ok {a b : Bool} (h : beqB a b = true) : a = b := by
  cases a <;> cases b <;> first | rfl | cases h
def lookM (t : TypeId) (a b : AV tb.T) (ok : Bool) (s : S tb.T) (k : KO tb.T ρ) : Option ρ := withMap tb s a fun _ _ d x => match mapT P tb d t with
  | some vt => match zmA P vt, d.va b with
    | some (g, zc), some key => cond (beqB g d.g) (match tb.im d.n zc with
      | some z => match valA d.g (tb.ex d.n ((mget (d.to x) key).getD z)) with
        | some v => k (cond ok (.tup [v, .bool (mget (d.to x) key).isSome]) v) s
        | none => none
      | none => none) none
    | _, _ => none
  | none => none
def mputM (t : TypeId) (a b c : AV tb.T) (s : S tb.T) (k : KO tb.T ρ) : Option ρ := match frzA tb 20 [c] s with
  | some ([c], s) => withMap tb s a fun id kk d x => match mapT P tb d t, d.va b, valC d.g c with
    | some _, some key, some l => match tb.im d.n l with
      | some y => k undA { s with σ := sto s.σ id s.d (.gen kk (d.of (mput (d.to x) key y)) id), d := s.d + 1 }
      | none => none
    | _, _, _ => none
  | _ => none
/-! slices against nil -/
def emptyA (s : S tb.T) (a : AV tb.T) : Option Bool := match a with
  | .sl n l => cond (Nat.blt 0 (tb.rep n).sz) (some l.isEmpty) none
  | .row id => match lk s.σ id with
    | some (_, .row n _ l) => cond (Nat.blt 0 (tb.rep n).sz) (some l.isEmpty) none
    | some (_, .lit _ _ _) => some false
    | _ => none
  | _ => none
noncomputable def nilM (op : BinOp) (e : Bool) (s : S tb.T) (k : KO tb.T ρ) : Option ρ := match op with
  | .eql => cond e (fork (k (.bool true) s) (k (.bool false) s)) (k (.bool false) s)
  | .neq => cond e (fork (k (.bool false) s) (k (.bool true) s)) (k (.bool true) s)
  | _ => none
/-! structs compared -/
def eqA1 {T : Nat → Type} (d : Option TypeDesc) (a b : AV T) : Option Bool := match d, a, b with
  | some (.int _), .i64 x, .i64 y => some (x == y)
  | some .bool, .bool x, .bool y => some (x == y)
  | some .string, .str x, .str y => some (x == y)
  | _, _, _ => none
def eqAs {T : Nat → Type} (xs ys : List (AV T)) : List Field → Option Bool
  | [] => some true
  | f :: fs => cond (f.name == "_") none (match P.plainKey f.type, xs[f.offset]?, ys[f.offset]? with
    | true, some x, some y => match eqA1 (P.underlying f.type) x y with
      | some c => match eqAs xs ys fs with
        | some r => some (c && r)
        | none => none
      | none => none
    | _, _, _ => none)
def eqM {T : Nat → Type} (op : BinOp) (t : TypeId) (xs ys : List (AV T)) (k : AV T → Option ρ) : Option ρ := cond (!P.eqGuardType P.depth t && (!P.stoodInHeld t && (match P.underlying t with
  | some (.struct _) => true
  | _ => false))) (match eqAs P xs ys (P.fieldsOf t).toList with
  | some b => match op with
    | .eql => k (.bool b)
    | .neq => k (.bool (!b))
    | _ => none
  | none => none) none
/-! a whole element stored -/
def storeE (t : TypeId) (id : Nat) (i : Int) (n : Nat) (off : Nat) (a : AV tb.T) (s : S tb.T) (k : KO tb.T ρ) : Option ρ := match frzA tb 20 [a] s with
  | some ([.agg c], s) => match lk s.σ id with
    | some (_, .row n' e l) => match castL n n' l with
      | some l => cond (aggB P t (tb.rep n).sz && (c.all oneA && (Nat.beq off 0 && (Nat.beq c.length (tb.rep n).sz && Nat.blt 0 (tb.rep n).sz)))) ((idx l i).bind fun _ => match tb.im n c with
        | some y => k undA { s with σ := sto s.σ id s.d (.row n e (l.set i.toNat y)), d := s.d + 1 }
        | none => none) none
      | none => none
    | _ => none
  | _ => none
end
section
variable {P : Program} {tb : Tab} {bs : Bs} {η : List Value} {m : Mem} {s : S tb.T} {w : World} {κc : Kn} {B : Code} {n : Cx} {p : List Nat} {i : Nat} {o : Oper} {ρ' : Type} {k : KO tb.T ρ'} {ans : ρ'} {a b c v : AV tb.T} {x y z : Value}
/-- A map's entries. -/
theorem Wd.map (T : TabOk tb) (h : Wd tb bs η m s w) {id st kk : Nat} {d : MP tb.T tb.rep kk} {g : tb.T kk} (hl : lk s.σ id = some (st, .gen kk g id)) (hd : tb.mp kk = some d) :
    ∃ b lv, η[id]? = some (.map (some b)) ∧ MVal (tb.rep d.n) d.g d.wf m lv (d.to g) ∧ St bs.w0 bs.F0 bs.m0 m (mapI d.K (_root_.id : Value → Value) b lv :: its tb η (E.del s.σ id)) w := by
  obtain ⟨v, u, h1, h2, h3, h4⟩ := h.gen hl
  rw [(T.kd.mgi hd).1] at h4
  obtain ⟨⟨b, lv⟩, ⟨q1, q2⟩, q3⟩ := St_ex (j := fun y : Nat × List (d.α × Value) => mapI d.K (_root_.id : Value → Value) y.1 y.2) (Q := fun y => v = .map (some y.1) ∧ MVal (tb.rep d.n) d.g d.wf m y.2 (d.to g)) h4 (fun F ⟨b, lv, e1, e2, e3⟩ => ⟨(b, lv), ⟨e1, e2⟩, e3⟩)
  simp only at q1
  subst q1
  exact ⟨b, lv, h1, q2, q3⟩
theorem map_item (T : TabOk tb) {kk id : Nat} {d : MP tb.T tb.rep kk} (hd : tb.mp kk = some d) {b : Nat} {lv : List (d.α × Value)} {l : List (d.α × tb.T d.n)} (h1 : η[id]? = some (.map (some b))) (h2 : MVal (tb.rep d.n) d.g d.wf m lv l) {F : Nat → Prop}
    (h3 : (mapI d.K (_root_.id : Value → Value) b lv).P m w F) : ((DI.gen kk (d.of l) id).item tb η id).P m w F := by
  refine ⟨.map (some b), .map (some b), ⟨h1, h1⟩, rfl, ?_⟩
  rw [(T.kd.mgi hd).1, (T.kd.mgi hd).2.1]
  exact ⟨b, lv, rfl, h2, h3⟩
theorem zmA_ok (T : TabOk tb) {vt : TypeId} {g : Bool} {zc : List (AV tb.T)} (h : zmA P vt = some (g, zc)) : ∃ z0, (∀ w, (zeroValue vt).run P w = .ok z0 w) ∧ ∀ {nn : Nat} {x : tb.T nn} {m : Mem}, tb.im nn zc = some x → VRep (tb.rep nn) g m z0 x := by
  unfold zmA at h
  split at h
  · rename_i inf hi
    split at h
    · rename_i cs hz
      cases h
      exact ⟨.agg cs, fun w => by simp [zeroValue, typeInfo, hi, hz], fun hx => ⟨cs.toList, T.im (η := []) hx (cst1L_ok _), by simp⟩⟩
    · rename_i v _ hz
      cases ho : v.oneCell' with
      | false => rw [ho] at h; cases h
      | true =>
        rw [ho] at h
        cases h
        exact ⟨v, fun w => by simp [zeroValue, typeInfo, hi, hz], fun hx => T.im (η := []) hx (RL.mk1 (cst1_ok v))⟩
    · cases h
  · cases h
theorem mapT_ok (T : TabOk tb) {kk : Nat} {d : MP tb.T tb.rep kk} (hd : tb.mp kk = some d) {t vt : TypeId} (h : mapT P tb d t = some vt) : ∃ kt, P.underlying t = some (.map kt vt) ∧ P.underlying kt = some d.K.td := by
  unfold mapT at h
  split at h
  · rename_i kt vt' hu
    split at h
    · rename_i td htd
      cases hk : d.ktd td with
      | false => rw [hk] at h; cases h
      | true =>
        rw [hk] at h
        cases h
        exact ⟨kt, hu, by rw [htd, (T.kd.mgi hd).2.2.2.2 td hk]⟩
    · cases h
  · cases h
theorem valA_ok (T : TabOk tb) {g : Bool} {nn : Nat} {y : tb.T nn} {u : Value} (h : valA g (tb.ex nn y) = some v) (hv : VRep (tb.rep nn) g m u y) : R tb η m v u := by
  cases g with
  | true =>
    simp only [valA, Option.some.injEq] at h
    subst h
    obtain ⟨cs, h1, rfl⟩ := hv
    exact ⟨cs, rfl, T.ex h1⟩
  | false =>
    simp only [valA] at h
    split at h
    · rename_i a ha
      cases h
      have := T.ex (η := η) (show (tb.rep nn).im m [u] y from hv)
      rw [ha] at this
      obtain ⟨v, e, hr⟩ := this.one
      cases e
      exact hr
    · cases h
theorem valC_ok (T : TabOk tb) {g : Bool} {nn : Nat} {y : tb.T nn} {u : Value} {l : List (AV tb.T)} (h : valC g a = some l) (hy : tb.im nn l = some y) (hr : R tb η m a u) : VRep (tb.rep nn) g m u y := by
  cases g with
  | true =>
    simp only [valC] at h
    split at h
    · cases h
      obtain ⟨cs, rfl, hl⟩ := hr
      exact ⟨cs, T.im hy hl, rfl⟩
    · cases h
  | false =>
    simp only [valC] at h
    cases ho : oneA a with
    | false => rw [ho] at h; cases h
    | true =>
      rw [ho] at h
      cases h
      exact T.im hy (RL.mk1 hr)
theorem exec_makeMap {t : TypeId} {r : Option Operand} (h : o.op = .makeMap t r) (ρ : Operand → Value) : execOp ρ o = vS (Instr.makeMap t (r.map ρ)) := by unfold execOp; rw [h]; rfl
theorem exec_lookup {t : TypeId} {q r : Operand} {ok : Bool} (h : o.op = .lookup t q r ok) (ρ : Operand → Value) : execOp ρ o = vS (Instr.lookup t (ρ q) (ρ r) ok) := by unfold execOp; rw [h]; rfl
theorem exec_mapUpdate {t : TypeId} {q r e : Operand} (h : o.op = .mapUpdate t q r e) (ρ : Operand → Value) : execOp ρ o = uS (Instr.mapUpdate t (ρ q) (ρ r) (ρ e)) := by unfold execOp; rw [h]; rfl
theorem exec_insert {t : TypeId} {q r e : Operand} (h : o.op = .insert t q r e) (ρ : Operand → Value) : execOp ρ o = uS (Instr.mapUpdate t (ρ q) (ρ r) (ρ e)) := by unfold execOp; rw [h]; rfl
variable (hw : Wd tb bs η m s w) (hk : KR tb η m s.κ κc)
include hw hk
theorem mkM_step (T : TabOk tb) {t : TypeId} (fo' : fetch B n p i κc = some (o.dst, vS (Instr.makeMap t none))) (h : mkM tb t s k = some ans) : Step P B n p i κc w (YX tb bs η m o.dst s k ans κc) := by
  unfold mkM at h
  split at h
  · rename_i kk hkk
    split at h
    · rename_i d hd
      refine mkmS d.K (_root_.id : Value → Value) o.dst t hw.st fo' ?_
      intro g w1 H1
      have hwn := hw.add hw.gl (x := .gen kk (d.of []) s.c) (u := .map (some g)) (w' := w1) (St_conv H1 (fun F hF => map_item T hd (l := []) (lv := []) (at_new hw _) (show MVal _ _ _ _ [] [] from rfl) hF) (fun _ hF => hF))
      exact ⟨_, _, .map (some g), _, m, h, Ext.add _ _, rfl, Le.app _ _, Sub.refl _, ⟨at_new hw _, rfl⟩, hk.mono (Le.app _ _) (Sub.refl _), hwn⟩
    · cases h
  · cases h
theorem lookM_step (T : TabOk tb) {t : TypeId} {ok : Bool} (fo' : fetch B n p i κc = some (o.dst, vS (Instr.lookup t x y ok))) (ha : R tb η m a x) (hb : R tb η m b y) (h : lookM P tb t a b ok s k = some ans) : Step P B n p i κc w (YX tb bs η m o.dst s k ans κc) := by
  unfold lookM at h
  obtain ⟨id, st, kk, d, g, rfl, hl, hd, h⟩ := withMap_some tb h
  split at h
  · rename_i vt hvt
    split at h
    · rename_i g0 zc key hz hkey
      cases hg : beqB g0 d.g with
      | false => rw [hg] at h; cases h
      | true =>
        have := beqB_ok hg
        subst this
        rw [hg] at h
        simp only [cond_true] at h
        split at h
        · rename_i z0 hz0
          split at h
          · rename_i v hv
            obtain ⟨bb, lv, q1, q2, q3⟩ := hw.map T hl hd
            have := ha.1
            rw [this] at q1
            cases q1
            obtain ⟨kt, e1, e2⟩ := mapT_ok T hd hvt
            obtain ⟨zv, f1, f2⟩ := zmA_ok T hz
            obtain ⟨rfl, hwf⟩ := (T.kd.mgi hd).2.2.1 _ _ _ _ _ hkey hb
            have hval : VRep (tb.rep d.n) d.g m ((mget lv key).getD zv) ((mget (d.to g) key).getD z0) ∧ (mget lv key).isSome = (mget (d.to g) key).isSome := by
              rcases q2.get key with ⟨r1, r2⟩ | ⟨u, x, r1, r2, r3⟩
              · rw [r1, r2]; exact ⟨f2 hz0, rfl⟩
              · rw [r1, r2]; exact ⟨r3, rfl⟩
            have hr : R tb η m v ((mget lv key).getD zv) := valA_ok T hv hval.1
            refine lookS (K := d.K) (fv := (_root_.id : Value → Value)) o.dst t kt vt 0 bb ok key zv lv q3 rfl fo' e1 e2 f1 ?_
            refine ⟨_, _, _, η, m, h, Ext.refl _, rfl, Le.refl _, Sub.refl _, ?_, hk, hw⟩
            rw [hval.2]
            cases ok with
            | false => exact hr
            | true => exact ⟨[(mget lv key).getD zv, .bool (mget (d.to g) key).isSome], rfl, _, _, rfl, hr, _, _, rfl, rfl, rfl⟩
          · cases h
        · cases h
    · cases h
  · cases h
theorem mputM_step (T : TabOk tb) {t : TypeId} (fo' : fetch B n p i κc = some (o.dst, uS (Instr.mapUpdate t x y z))) (ha : R tb η m a x) (hb : R tb η m b y) (hc : R tb η m c z) (h : mputM P tb t a b c s k = some ans) : Step P B n p i κc w (YX tb bs η m o.dst s k ans κc) := by
  unfold mputM at h
  split at h
  · rename_i c' s1 hf
    obtain ⟨h1, m1, h2, h3, h4, h5⟩ := frzA_ok T 20 hf hw hk (RL.mk1 hc)
    obtain ⟨z', hz', hc'⟩ := h5.one
    cases hz'
    obtain ⟨id, st, kk, d, g, rfl, hl, hd, h⟩ := withMap_some tb h
    split at h
    · rename_i vt key l hvt hkey hval
      split at h
      · rename_i y' hy'
        obtain ⟨bb, lv, q1, q2, q3⟩ := h4.map T hl hd
        have := ha.1
        rw [this] at q1
        cases q1
        obtain ⟨kt, e1, e2⟩ := mapT_ok T hd hvt
        obtain ⟨rfl, hwf⟩ := (T.kd.mgi hd).2.2.1 _ _ _ _ _ hkey hb
        refine mputS (K := d.K) (fv := (_root_.id : Value → Value)) o.dst t kt vt 0 bb key z lv q3 rfl fo' e1 e2 ?_
        intro w1 H1
        obtain ⟨k1, k2⟩ := h4.sto hl (x := .gen kk (d.of (mput (d.to g) key y')) id) (St_conv H1 (fun F hF => map_item T hd this (q2.put hwf (valC_ok T hval hy' hc')) hF) (fun _ e => e))
        exact ⟨_, _, undef, η, m1, h, h1.trans k1, rfl, Le.refl _, h2, rfl, h3, k2⟩
      · cases h
    · cases h
  · cases h
omit hw hk in
theorem run_eqSl {t e : TypeId} (hu : P.underlying t = some (.slice e)) (A : Option Addr) (l c : Nat) (w : World) : (Op.equal t (.slice A l c) (.slice none 0 0)).run P w = .ok A.isNone w ∧ (Op.equal t (.slice none 0 0) (.slice A l c)).run P w = .ok A.isNone w := by
  unfold Op.equal
  rw [show Op.maxDepth = 9999 + 1 from rfl]
  unfold Op.equalIn
  simp only [Sem.run_bind, run_und hu, Result.andThen_ok]
  cases A <;> exact ⟨rfl, rfl⟩
omit hk in
theorem emptyA_ok {e : Bool} (h : emptyA tb s a = some e) (ha : R tb η m a x) : ∃ A l c, x = .slice A l c ∧ (e = false → A.isNone = false) := by
  unfold emptyA at h
  split at h
  · rename_i nn l
    cases hb : Nat.blt 0 (tb.rep nn).sz with
    | false => rw [hb] at h; cases h
    | true =>
      rw [hb] at h
      cases h
      obtain ⟨A, c, rfl, hs⟩ := ha
      refine ⟨A, _, c, rfl, fun he => ?_⟩
      cases l with
      | nil => cases he
      | cons y l => obtain ⟨ad, cs, rfl, _⟩ := hs.at_ (i := 0) (x := y) rfl (by simpa [Nat.blt_eq] using hb); rfl
  · rename_i id
    obtain ⟨hη, _⟩ := ha
    split at h
    · rename_i st nn t l hl
      cases hb : Nat.blt 0 (tb.rep nn).sz with
      | false => rw [hb] at h; cases h
      | true =>
        rw [hb] at h
        cases h
        obtain ⟨A, c, g1, H⟩ := hw.row hl
        rw [hη] at g1
        cases g1
        refine ⟨A, _, c, rfl, fun he => ?_⟩
        cases l with
        | nil => cases he
        | cons y l => obtain ⟨ad, cs, rfl, _⟩ := H.rowAt 0 rfl (i := 0) (x := y) rfl (by simpa [Nat.blt_eq] using hb); rfl
    · rename_i st t j c hl
      cases h
      obtain ⟨g, cs, g1, _⟩ := hw.lit hl
      rw [hη] at g1
      cases g1
      exact ⟨_, _, _, rfl, fun _ => rfl⟩
    · cases h
  · cases h
theorem nilM_step {op : BinOp} {t : TypeId} {q r : Operand} {e : Bool} (hu : (slcE P t).isSome = true) (fo' : fetch B n p i κc = some (o.dst, vS (do eqGuard op t q r x y; binOp op t x y)))
    (hxy : ∃ A l c, ((x = .slice A l c ∧ y = .slice none 0 0) ∨ (x = .slice none 0 0 ∧ y = .slice A l c)) ∧ (e = false → A.isNone = false)) (h : nilM tb op e s k = some ans) : Step P B n p i κc w (YX tb bs η m o.dst s k ans κc) := by
  obtain ⟨A, l, c, hxy, hA⟩ := hxy
  obtain ⟨et, het⟩ := Option.isSome_iff_exists.1 hu
  have hut := slcE_ok het
  have heq : ∀ w, (Op.equal t x y).run P w = .ok A.isNone w := fun w => by
    rcases hxy with ⟨rfl, rfl⟩ | ⟨rfl, rfl⟩
    · exact (run_eqSl hut A l c w).1
    · exact (run_eqSl hut A l c w).2
  have hg : ∀ w, (eqGuard op t q r x y).run P w = .ok () w := fun w => by
    rcases hxy with ⟨rfl, rfl⟩ | ⟨rfl, rfl⟩ <;> cases op <;> rfl
  have hs : ∃ A1 l1 c1 A2 l2 c2, x = .slice A1 l1 c1 ∧ y = .slice A2 l2 c2 := by
    rcases hxy with ⟨rfl, rfl⟩ | ⟨rfl, rfl⟩ <;> exact ⟨_, _, _, _, _, _, rfl, rfl⟩
  obtain ⟨A1, l1, c1, A2, l2, c2, e1, e2⟩ := hs
  have fin : ∀ {bb : Bool}, (binOp op t x y).run P w = .ok (.bool bb) w → k (.bool bb) s = some ans → Step P B n p i κc w (YX tb bs η m o.dst s k ans κc) := fun hb hk' =>
    runR fo' (bin_run (hg w) hb) ⟨_, s, _, η, m, hk', Ext.refl _, rfl, Le.refl _, Sub.refl _, rfl, hk, hw⟩
  have pick : ∀ {x1 x2 : Option ρ'} {e : Bool}, cond e (fork x1 x2) x2 = some ans → (e = false → A.isNone = false) → cond A.isNone x1 x2 = some ans := by
    intro x1 x2 e h he
    cases e with
    | true => obtain ⟨g1, g2⟩ := fork_some h; cases A.isNone <;> assumption
    | false => rw [he rfl]; exact h
  unfold nilM at h
  split at h
  · have h2 := pick h hA
    have hb : (binOp .eql t x y).run P w = .ok (.bool A.isNone) w := by
      subst e1 e2
      show (do pure (.bool (← Op.equal t (.slice A1 l1 c1) (.slice A2 l2 c2))) : Sem Value).run P w = _
      rw [Sem.run_bind, heq]; rfl
    refine fin hb ?_
    cases hAn : A.isNone <;> rw [hAn] at h2 <;> exact h2
  · have h2 := pick h hA
    have hb : (binOp .neq t x y).run P w = .ok (.bool (!A.isNone)) w := by
      subst e1 e2
      show (do pure (.bool (!(← Op.equal t (.slice A1 l1 c1) (.slice A2 l2 c2)))) : Sem Value).run P w = _
      rw [Sem.run_bind, heq]; rfl
    refine fin hb ?_
    cases hAn : A.isNone <;> rw [hAn] at h2 <;> exact h2
  · cases h
omit hw hk in
theorem eqA1_ok {d : Option TypeDesc} {r : Bool} (h : eqA1 d a b = some r) (ha : R tb η m a x) (hb : R tb η m b y) : eqSc d x y = some r := by
  unfold eqA1 at h
  split at h <;> cases h
  · have ha : x = _ := ha; have hb : y = _ := hb; subst ha hb; rfl
  · have ha : x = _ := ha; have hb : y = _ := hb; subst ha hb; rfl
  · obtain ⟨rfl, _⟩ := ha; obtain ⟨rfl, _⟩ := hb
    exact congrArg some (seq_raw _ _)
omit hw hk in
theorem eqAs_ok {xs ys : List (AV tb.T)} {us vs : List Value} (hx : RL tb η m xs us) (hy : RL tb η m ys vs) : ∀ {fs : List Field} {r : Bool}, eqAs P xs ys fs = some r → eqFs P us.toArray vs.toArray fs = some r
  | [], r, h => h
  | f :: fs, r, h => by
    unfold eqAs at h
    unfold eqFs
    cases hn : (f.name == "_") with
    | true => rw [hn] at h; cases h
    | false =>
      rw [hn] at h
      simp only [cond_false] at h
      have hne : ¬ f.name = "_" := fun e => by rw [e] at hn; cases hn
      rw [if_neg hne]
      split at h
      · rename_i a b hp ha hb
        obtain ⟨u, hu, hru⟩ := hx.get ha
        obtain ⟨v, hv, hrv⟩ := hy.get hb
        split at h
        · rename_i c hc
          split at h
          · rename_i r' hr'
            cases h
            rw [hp, show us.toArray[f.offset]? = some u by simpa using hu, show vs.toArray[f.offset]? = some v by simpa using hv]
            simp only [eqA1_ok hc hru hrv, eqAs_ok hx hy hr']
          · cases h
        · cases h
      · cases h
omit hw hk in
theorem eqM_ok {op : BinOp} {t : TypeId} {q r : Operand} {xs ys : List (AV tb.T)} {kk : AV tb.T → Option ρ'} (h : eqM P op t xs ys kk = some ans) (ha : R tb η m (.agg xs) x) (hb : R tb η m (.agg ys) y) : ∃ v, kk v = some ans ∧ Run0 P tb η m (vS (do eqGuard op t q r x y; binOp op t x y)) v := by
  unfold eqM at h
  obtain ⟨us, rfl, hx⟩ := ha
  obtain ⟨vs, rfl, hy⟩ := hb
  generalize hc : (!P.eqGuardType P.depth t && (!P.stoodInHeld t && (match P.underlying t with | some (.struct _) => true | _ => false))) = cc at h
  cases cc with
  | false => cases h
  | true =>
    simp only [Bool.and_eq_true, Bool.not_eq_true'] at hc
    obtain ⟨h1, h2, h3⟩ := hc
    have hu : P.underlying t = some (.struct (P.fieldsOf t)) := by
      unfold Program.fieldsOf
      split at h3
      · rename_i fs hfs; simp [hfs]
      · cases h3
    simp only [cond_true] at h
    split at h
    · rename_i bb hbb
      have h4 := eqAs_ok hx hy hbb
      split at h
      · exact ⟨_, h, Run0.fix (fun w => eqAgg_run t q r us.toArray vs.toArray bb bb h4 rfl h1 hu h2) rfl⟩
      · exact ⟨_, h, Run0.fix (fun w => neAgg_run t q r us.toArray vs.toArray bb bb h4 rfl h1 hu h2) rfl⟩
      · cases h
    · cases h
end
theorem St_sub {w0 : World} {F0 : Nat → Prop} {m0 m : Mem} {σ σ' : List Item} {w : World} (H : St w0 F0 m0 m σ w) (h : ∀ F, Sep m w σ F → ∃ F', (∀ k, F' k → F k) ∧ Sep m w σ' F') : St w0 F0 m0 m σ' w := by
  obtain ⟨F, h1, h2, h3⟩ := H.sep
  obtain ⟨F', k1, k2⟩ := h F h1
  exact ⟨H.kp, H.sub, H.has, H.new, F', k2, fun k e => h2 k (k1 k e), fun k e => h3 k (k1 k e)⟩
theorem lk_del_ne {α : Type} : ∀ {l : List (Nat × Nat × α)} {t u : Nat} {p : Nat × α}, u ≠ t → lk l u = some p → lk (del l t) u = some p
  | [], _, _, _, _, h => by cases h
  | (i, st, v) :: r, t, u, p, hn, h => by
    simp only [lk] at h
    simp only [del]
    cases hb : Nat.beq i u with
    | true =>
      rw [hb] at h
      have := beq_t hb
      subst this
      have hb2 : Nat.beq i t = false := by
        cases hb2 : Nat.beq i t with
        | true => exact absurd (beq_t hb2) hn
        | false => rfl
      rw [hb2]
      simp only [cond_false, lk, Nat.beq_refl]
      exact h
    | false =>
      rw [hb] at h
      have ih := lk_del_ne hn (l := r) h
      cases Nat.beq i t with
      | true => exact ih
      | false => simp only [cond_false, lk, hb]; exact ih
/-! a store of a struct into a row of one's own -/
theorem take_mid {cur vs xs : List Value} {m n : Nat} (h : cur.take n = xs) (hm : m + vs.length ≤ xs.length) : (cur.take m ++ vs ++ cur.drop (m + vs.length)).take n = xs.take m ++ vs ++ xs.drop (m + vs.length) := by
  have hl : xs.length ≤ n ∧ xs.length ≤ cur.length := by rw [← h, List.length_take]; omega
  rw [← h, List.take_append, List.take_of_length_le (by rw [List.length_append, List.length_take]; omega), List.take_take, List.length_append, List.length_take, List.drop_take, Nat.min_eq_left (by omega), Nat.min_eq_left (by omega)]
section
variable {P : Program} {B : Code} {n : Cx} {p : List Nat} {i : Nat} {κ : Kn} {w : World} {Z : Kn → World → Prop}
theorem stOwnAggR (d : Option Nat) (t : TypeId) (base e sz : Nat) (A : Option Addr) (len cap : Nat) (xs vs : List Value) (ad : Addr) (m : Nat) (ho : fetch B n p i κ = some (d, uS (Instr.storeAt t (.pointer (some (ad.add m))) (.agg vs.toArray)))) (ht : aggB P t vs.length = true) (hv : vs.all (·.oneCell') = true)
    (hown : w.ownsRow base e sz (.slice A len cap) len xs) (hA : A = some ad) (hm : m + vs.length ≤ xs.length) (hv0 : 0 < vs.length)
    (hk : ∀ w1, w1.ownsRow base e sz (.slice A len cap) len (xs.take m ++ vs ++ xs.drop (m + vs.length)) → Kp (fun k => some k = (Value.slice A len cap).ownBlock) w w1 → w1.heap.size = w.heap.size → Z (putk d undef κ) w1) : Step P B n p i κ w Z := by
  have h0 : 0 < len := by
    rcases Nat.eq_zero_or_pos len with h | h
    · have := hown.1
      rw [h, Nat.zero_mul] at this
      omega
    · exact h
  obtain ⟨g, cur, hAg, hb, hg, hcs, htk, hnc, hcm⟩ := own_blk hown h0
  rw [hAg] at hA
  cases hA
  subst hAg
  have hlen : xs.length ≤ cur.size := by
    rw [hown.1, hcs]
    exact Nat.mul_le_mul_right _ hnc
  rw [Addr.add_lit, Nat.zero_add] at ho
  refine stAggR d t g m vs cur (cur.toList.take m ++ vs ++ cur.toList.drop (m + vs.length)).toArray e ho ht hv hg (by omega) rfl ?_
  intro w1 hx hg1 hz
  have hl2 : (xs.take m ++ vs ++ xs.drop (m + vs.length)).length = xs.length := by
    rw [List.length_append, List.length_append, List.length_take, List.length_drop]; omega
  refine hk w1 ⟨by rw [hl2]; exact hown.1, .inr ⟨g, cap, _, rfl, hb, hg1, hnc, hcm, ?_, ?_⟩⟩ ?_ hz
  · rw [← hcs, List.size_toArray, List.length_append, List.length_append, List.length_take, List.length_drop, Array.length_toList]; omega
  · exact take_mid htk hm
  · exact hx.mono (fun k _ hk => by simp [Value.ownBlock, hk])
end
section
variable {P : Program} {tb : Tab} {bs : Bs} {η : List Value} {m : Mem} {s : S tb.T} {w : World} {κc : Kn} {B : Code} {n : Cx} {p : List Nat} {i : Nat} {o : Oper} {ρ' : Type} {k : KO tb.T ρ'} {ans : ρ'} {a b c v : AV tb.T} {x y z : Value}
theorem storeE_step (T : TabOk tb) (hw : Wd tb bs η m s w) (hk : KR tb η m s.κ κc) {t : TypeId} {id n1 off : Nat} {j : Int} (fo' : fetch B n p i κc = some (o.dst, uS (Instr.storeAt t x y))) (ha : R tb η m (.elt id j n1 off) x) (hb : R tb η m b y) (h : storeE P tb t id j n1 off b s k = some ans) : Step P B n p i κc w (YX tb bs η m o.dst s k ans κc) := by
  unfold storeE at h
  split at h
  · rename_i c s1 hf
    obtain ⟨h1, m1, h2, h3, h4, h5⟩ := frzA_ok T 20 hf hw hk (RL.mk1 hb)
    obtain ⟨y', hy', us, rfl, hul⟩ := h5.one
    cases hy'
    obtain ⟨ad, len, c0, e1, e2, e3, rfl⟩ := ha
    split at h
    · rename_i st n' e l hl
      split at h
      · rename_i l' hcl
        obtain ⟨en, rfl⟩ := castL_some hcl
        subst en
        cases hc : (aggB P t (tb.rep n').sz && (c.all oneA && (Nat.beq off 0 && (Nat.beq c.length (tb.rep n').sz && Nat.blt 0 (tb.rep n').sz)))) with
        | false => rw [hc] at h; cases h
        | true =>
          rw [hc] at h
          simp only [Bool.and_eq_true, cond_true] at hc h
          obtain ⟨c1, c2, c3, c4, c5⟩ := hc
          have c3 := beq_t c3
          have c4 := beq_t c4
          have c5 : 0 < (tb.rep n').sz := by simpa [Nat.blt_eq] using c5
          subst c3
          obtain ⟨zz, hz, h⟩ := bindE h
          obtain ⟨i0, i1, i2⟩ := idx_some hz
          split at h
          · rename_i yy hyy
            obtain ⟨A, cap, g1, H⟩ := h4.row hl
            rw [e1] at g1
            obtain ⟨rfl, rfl, rfl⟩ : some ad = A ∧ len = l.length ∧ c0 = cap := by cases g1; exact ⟨rfl, rfl, rfl⟩
            obtain ⟨F, ⟨⟨xs, q1, q2⟩, hF⟩, q3, q4⟩ := H.upd 0 rfl
            have hus : us.length = (tb.rep n').sz := by rw [hul.len, c4]
            have hxl : xs.length = l.length * (tb.rep n').sz := q1.len
            have hjl : j.toNat < l.length := (List.getElem?_eq_some_iff.1 i2).1
            have hle : j.toNat * (tb.rep n').sz + (tb.rep n').sz ≤ xs.length := by
              rw [hxl, ← Nat.succ_mul]; exact Nat.mul_le_mul_right _ hjl
            have ea : (ad.add (j.toNat * (tb.rep n').sz)).add 0 = ad.add (j.toNat * (tb.rep n').sz) := by simp [Addr.add]
            rw [ea] at fo'
            refine stOwnAggR o.dst t 0 e (tb.rep n').sz (some ad) l.length c0 xs us ad (j.toNat * (tb.rep n').sz) fo' (by rw [hus]; exact c1) (oneL hul c2) q2 rfl (by rw [hus]; exact hle) (by omega) ?_
            intro w1 r1 r2 r3
            rw [hus] at r1
            have hset : Rows (tb.rep n') m1 (xs.take (j.toNat * (tb.rep n').sz) ++ us ++ xs.drop (j.toNat * (tb.rep n').sz + (tb.rep n').sz)) (l.set j.toNat yy) := q1.set hjl (T.im hyy hul)
            have H3 := q4 w1 (rowI (tb.rep n') e (some ad) c0 (l.set j.toNat yy)) F (r2.mono (fun k _ e => (hF k).2 e.symm)) ⟨⟨_, hset, by rw [List.length_set]; exact r1⟩, fun k => by rw [List.length_set]; exact hF k⟩ (fun k hk => .inl hk)
            obtain ⟨k1, k2⟩ := h4.sto hl (x := .row n' e (l.set j.toNat yy)) (St_conv H3 (fun F hF => ⟨some ad, c0, by rw [List.length_set]; exact e1, hF⟩) (fun _ e => e))
            exact ⟨_, _, undef, η, m1, h, h1.trans k1, rfl, Le.refl _, h2, rfl, h3, k2⟩
          · cases h
      · cases h
    · cases h
  · cases h
end
end Go.Proofs.YtbldeodchhfjfaaGreatDoor.K.E
