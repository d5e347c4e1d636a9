/- Texts in one: E9M E9D E9G E10 E9C. -/
import Derived.Test.YtkmhidggbnbaaaaGreatDoorBP3
import Derived.Laws.CopyRow
import Derived.Laws.IdiomCopy
set_option linter.unusedVariables false
set_option linter.unusedSimpArgs false
set_option linter.unusedSectionVars false
namespace Go.Proofs.YtkmhidggbnbaaaaGreatDoor.K.E
open Go Go.RowKit
open Classical in
noncomputable def fork {ρ : Type} (x y : Option ρ) : Option ρ := if x = y then x else none
theorem fork_some {ρ : Type} {x y : Option ρ} {a : ρ} (h : fork x y = some a) : x = some a ∧ y = some a := by
  unfold fork at h
  split at h
  · rename_i e; subst e; exact ⟨h, h⟩
  · cases h
theorem fork_same {ρ : Type} (x : Option ρ) : fork x x = x := if_pos rfl
section
variable (P : Program) (tb : Tab) {ρ : Type}
def zmA {T : Nat → Type} (P : Program) (vt : TypeId) : Option (Bool × List (AV T)) := match P.info? vt with
  | some i => match i.zero with
    | some (.agg cs) => some (true, cs.toList.map cst1)
    | some v => cond v.oneCell' (some (false, [cst1 v])) none
    | none => none
  | none => none
def mapT {k : Nat} (d : MP tb.T tb.rep k) (t : TypeId) : Option TypeId := match P.underlying t with
  | some (.map kt vt) => match P.underlying kt with
    | some td => cond (d.ktd td) (some vt) none
    | none => none
  | _ => none
def withMap {C : Type} (s : S tb.T) (a : AV tb.T) (f : (id k : Nat) → MP tb.T tb.rep k → tb.T k → Option C) : Option C := match a with
  | .row id => match lk s.σ id with
    | some (_, .gen k x j) => cond (Nat.beq j id) (match tb.mp k with
      | some d => f id k d x
      | none => none) none
    | _ => none
  | _ => none
theorem withMap_some {C : Type} {s : S tb.T} {a : AV tb.T} {f : (id k : Nat) → MP tb.T tb.rep k → tb.T k → Option C} {c : C} (h : withMap tb s a f = some c) : ∃ id st k d x, a = .row id ∧ lk s.σ id = some (st, .gen k x id) ∧ tb.mp k = some d ∧ f id k d x = some c := by
  unfold withMap at h
  split at h
  · rename_i id
    split at h
    · rename_i st k x j hl
      cases hb : Nat.beq j id with
      | false => rw [hb] at h; cases h
      | true =>
        have := beq_t hb
        subst this
        rw [hb] at h
        simp only [cond_true] at h
        split at h
        · rename_i d hd
          exact ⟨j, st, k, d, x, rfl, hl, hd, h⟩
        · cases h
    · cases h
  · cases h
def mkM (t : TypeId) (s : S tb.T) (k : KO tb.T ρ) : Option ρ := match tb.gcode t with
  | some kk => match tb.mp kk with
    | some d => k (.row s.c) (addI s (.gen kk (d.of []) s.c))
    | none => none
  | none => none
def valA {T : Nat → Type} (g : Bool) (l : List (AV T)) : Option (AV T) := match g with
  | true => some (.agg l)
  | false => match l with
    | [a] => some a
    | _ => none
def valC {T : Nat → Type} (g : Bool) (a : AV T) : Option (List (AV T)) := match g with
  | true => match a with
    | .agg l => some l
    | _ => none
  | false => cond (oneA a) (some [a]) none
def beqB : Bool → Bool → Bool
  | true, b => b
  | false, b => !b
theorem beqB_ok {a b : Bool} (h : beqB a b = true) : a = b := by
  cases a <;> cases b <;> first | rfl | cases h
def lookV (t : TypeId) (b : AV tb.T) (ok : Bool) (s : S tb.T) (k : KO tb.T ρ) {kk : Nat} (d : MP tb.T tb.rep kk) (x : tb.T kk) : Option ρ := match mapT P tb d t with
  | some vt => match zmA P vt, d.va b with
    | some (g, zc), some key => cond (beqB g d.g) (match tb.im d.n zc with
      | some z => match valA d.g (tb.ex d.n ((mget (d.to x) key).getD z)) with
        | some v => k (cond ok (.tup [v, .bool (mget (d.to x) key).isSome]) v) s
        | none => none
      | none => none) none
    | _, _ => none
  | none => none
def lookM (t : TypeId) (a b : AV tb.T) (ok : Bool) (s : S tb.T) (k : KO tb.T ρ) : Option ρ := match a with
  | .one kk x => match tb.mp kk with
    | some d => lookV P tb t b ok s k d x
    | none => none
  | _ => withMap tb s a fun _ _ d x => lookV P tb t b ok s k d x
def mputM (t : TypeId) (a b c : AV tb.T) (s : S tb.T) (k : KO tb.T ρ) : Option ρ := match frzA tb 20 [c] s with
  | some ([c], s) => withMap tb s a fun id kk d x => match mapT P tb d t, d.va b, valC d.g c with
    | some _, some key, some l => match tb.im d.n l with
      | some y => k undA { s with σ := sto s.σ id s.d (.gen kk (d.of (mput (d.to x) key y)) id), d := s.d + 1 }
      | none => none
    | _, _, _ => none
  | _ => none
def emptyA (s : S tb.T) (a : AV tb.T) : Option Bool := match a with
  | .sl n l => cond (Nat.blt 0 (tb.rep n).sz) (some l.isEmpty) none
  | .row id => match lk s.σ id with
    | some (_, .row n _ l) => cond (Nat.blt 0 (tb.rep n).sz) (some l.isEmpty) none
    | some (_, .lit _ _ _) => some false
    | _ => none
  | _ => none
noncomputable def nilM (op : BinOp) (e : Bool) (s : S tb.T) (k : KO tb.T ρ) : Option ρ := match op with
  | .eql => cond e (fork (k (.bool true) s) (k (.bool false) s)) (k (.bool false) s)
  | .neq => cond e (fork (k (.bool false) s) (k (.bool true) s)) (k (.bool true) s)
  | _ => none
def eqA1 {T : Nat → Type} (d : Option TypeDesc) (a b : AV T) : Option Bool := match d, a, b with
  | some (.int _), .i64 x, .i64 y => some (x == y)
  | some .bool, .bool x, .bool y => some (x == y)
  | some .string, .str x, .str y => some (x == y)
  | _, _, _ => none
def eqAs {T : Nat → Type} (xs ys : List (AV T)) : List Field → Option Bool
  | [] => some true
  | f :: fs => cond (f.name == "_") none (match P.plainKey f.type, xs[f.offset]?, ys[f.offset]? with
    | true, some x, some y => match eqA1 (P.underlying f.type) x y with
      | some c => match eqAs xs ys fs with
        | some r => some (c && r)
        | none => none
      | none => none
    | _, _, _ => none)
def eqM {T : Nat → Type} (op : BinOp) (t : TypeId) (xs ys : List (AV T)) (k : AV T → Option ρ) : Option ρ := cond (!P.eqGuardType P.depth t && (!P.stoodInHeld t && (match P.underlying t with
  | some (.struct _) => true
  | _ => false))) (match eqAs P xs ys (P.fieldsOf t).toList with
  | some b => match op with
    | .eql => k (.bool b)
    | .neq => k (.bool (!b))
    | _ => none
  | none => none) none
def storeE (t : TypeId) (id : Nat) (i : Int) (n : Nat) (off : Nat) (a : AV tb.T) (s : S tb.T) (k : KO tb.T ρ) : Option ρ := match frzA tb 20 [a] s with
  | some ([.agg c], s) => match lk s.σ id with
    | some (_, .row n' e l) => match castL n n' l with
      | some l => cond (aggB P t (tb.rep n).sz && (c.all oneA && (Nat.beq off 0 && (Nat.beq c.length (tb.rep n).sz && Nat.blt 0 (tb.rep n).sz)))) ((idx l i).bind fun _ => match tb.im n c with
        | some y => k undA { s with σ := sto s.σ id s.d (.row n e (l.set i.toNat y)), d := s.d + 1 }
        | none => none) none
      | none => none
    | _ => none
  | _ => none
end
section
variable {P : Program} {tb : Tab} {bs : Bs} {η : List Value} {m : Mem} {s : S tb.T} {w : World} {κc : Kn} {B : Code} {n : Cx} {p : List Nat} {i : Nat} {o : Oper} {ρ' : Type} {k : KO tb.T ρ'} {ans : ρ'} {a b c v : AV tb.T} {x y z : Value}
theorem Wd.map (T : TabOk tb) (h : Wd tb bs η m s w) {id st kk : Nat} {d : MP tb.T tb.rep kk} {g : tb.T kk} (hl : lk s.σ id = some (st, .gen kk g id)) (hd : tb.mp kk = some d) :
    ∃ b lv, η[id]? = some (.map (some b)) ∧ MVal (tb.rep d.n) d.g d.wf m lv (d.to g) ∧ St bs.w0 bs.F0 bs.m0 m (mapI d.K (_root_.id : Value → Value) b lv :: its tb η (E.del s.σ id)) w := by
  obtain ⟨v, u, h1, h2, h3, h4⟩ := h.gen hl
  rw [(T.kd.mgi hd).1] at h4
  obtain ⟨⟨b, lv⟩, ⟨q1, q2⟩, q3⟩ := St_ex (j := fun y : Nat × List (d.α × Value) => mapI d.K (_root_.id : Value → Value) y.1 y.2) (Q := fun y => v = .map (some y.1) ∧ MVal (tb.rep d.n) d.g d.wf m y.2 (d.to g)) h4 (fun F ⟨b, lv, e1, e2, e3⟩ => ⟨(b, lv), ⟨e1, e2⟩, e3⟩)
  simp only at q1
  subst q1
  exact ⟨b, lv, h1, q2, q3⟩
theorem map_item (T : TabOk tb) {kk id : Nat} {d : MP tb.T tb.rep kk} (hd : tb.mp kk = some d) {b : Nat} {lv : List (d.α × Value)} {l : List (d.α × tb.T d.n)} (h1 : η[id]? = some (.map (some b))) (h2 : MVal (tb.rep d.n) d.g d.wf m lv l) {F : Nat → Prop}
    (h3 : (mapI d.K (_root_.id : Value → Value) b lv).P m w F) : ((DI.gen kk (d.of l) id).item tb η id).P m w F := by
  refine ⟨.map (some b), .map (some b), ⟨h1, h1⟩, rfl, ?_⟩
  rw [(T.kd.mgi hd).1, (T.kd.mgi hd).2.1]
  exact ⟨b, lv, rfl, h2, h3⟩
theorem zmA_ok (T : TabOk tb) {vt : TypeId} {g : Bool} {zc : List (AV tb.T)} (h : zmA P vt = some (g, zc)) : ∃ z0, (∀ w, (zeroValue vt).run P w = .ok z0 w) ∧ ∀ {nn : Nat} {x : tb.T nn} {m : Mem}, tb.im nn zc = some x → VRep (tb.rep nn) g m z0 x := by
  unfold zmA at h
  split at h
  · rename_i inf hi
    split at h
    · rename_i cs hz
      cases h
      exact ⟨.agg cs, fun w => by simp [zeroValue, typeInfo, hi, hz], fun hx => ⟨cs.toList, T.im (η := []) hx (cst1L_ok _), by simp⟩⟩
    · rename_i v _ hz
      cases ho : v.oneCell' with
      | false => rw [ho] at h; cases h
      | true =>
        rw [ho] at h
        cases h
        exact ⟨v, fun w => by simp [zeroValue, typeInfo, hi, hz], fun hx => T.im (η := []) hx (RL.mk1 (cst1_ok v))⟩
    · cases h
  · cases h
theorem mapT_ok (T : TabOk tb) {kk : Nat} {d : MP tb.T tb.rep kk} (hd : tb.mp kk = some d) {t vt : TypeId} (h : mapT P tb d t = some vt) : ∃ kt, P.underlying t = some (.map kt vt) ∧ P.underlying kt = some d.K.td := by
  unfold mapT at h
  split at h
  · rename_i kt vt' hu
    split at h
    · rename_i td htd
      cases hk : d.ktd td with
      | false => rw [hk] at h; cases h
      | true =>
        rw [hk] at h
        cases h
        exact ⟨kt, hu, by rw [htd, (T.kd.mgi hd).2.2.2.2 td hk]⟩
    · cases h
  · cases h
theorem valA_ok (T : TabOk tb) {g : Bool} {nn : Nat} {y : tb.T nn} {u : Value} (h : valA g (tb.ex nn y) = some v) (hv : VRep (tb.rep nn) g m u y) : R tb η m v u := by
  cases g with
  | true =>
    simp only [valA, Option.some.injEq] at h
    subst h
    obtain ⟨cs, h1, rfl⟩ := hv
    exact ⟨cs, rfl, T.ex h1⟩
  | false =>
    simp only [valA] at h
    split at h
    · rename_i a ha
      cases h
      have := T.ex (η := η) (show (tb.rep nn).im m [u] y from hv)
      rw [ha] at this
      obtain ⟨v, e, hr⟩ := this.one
      cases e
      exact hr
    · cases h
theorem valC_ok (T : TabOk tb) {g : Bool} {nn : Nat} {y : tb.T nn} {u : Value} {l : List (AV tb.T)} (h : valC g a = some l) (hy : tb.im nn l = some y) (hr : R tb η m a u) : VRep (tb.rep nn) g m u y := by
  cases g with
  | true =>
    simp only [valC] at h
    split at h
    · cases h
      obtain ⟨cs, rfl, hl⟩ := hr
      exact ⟨cs, T.im hy hl, rfl⟩
    · cases h
  | false =>
    simp only [valC] at h
    cases ho : oneA a with
    | false => rw [ho] at h; cases h
    | true =>
      rw [ho] at h
      cases h
      exact T.im hy (RL.mk1 hr)
theorem exec_makeMap {t : TypeId} {r : Option Operand} (h : o.op = .makeMap t r) (ρ : Operand → Value) : execOp ρ o = vS (Instr.makeMap t (r.map ρ)) := by unfold execOp; rw [h]; rfl
theorem exec_lookup {t : TypeId} {q r : Operand} {ok : Bool} (h : o.op = .lookup t q r ok) (ρ : Operand → Value) : execOp ρ o = vS (Instr.lookup t (ρ q) (ρ r) ok) := by unfold execOp; rw [h]; rfl
theorem exec_mapUpdate {t : TypeId} {q r e : Operand} (h : o.op = .mapUpdate t q r e) (ρ : Operand → Value) : execOp ρ o = uS (Instr.mapUpdate t (ρ q) (ρ r) (ρ e)) := by unfold execOp; rw [h]; rfl
theorem exec_insert {t : TypeId} {q r e : Operand} (h : o.op = .insert t q r e) (ρ : Operand → Value) : execOp ρ o = uS (Instr.mapUpdate t (ρ q) (ρ r) (ρ e)) := by unfold execOp; rw [h]; rfl
variable (hw : Wd tb bs η m s w) (hk : KR tb η m s.κ κc)
include hw hk
theorem mkM_step (T : TabOk tb) {t : TypeId} (fo' : fetch B n p i κc = some (o.dst, vS (Instr.makeMap t none))) (h : mkM tb t s k = some ans) : Step P B n p i κc w (YX tb bs η m o.dst s k ans κc) := by
  unfold mkM at h
  split at h
  · rename_i kk hkk
    split at h
    · rename_i d hd
      refine mkmS d.K (_root_.id : Value → Value) o.dst t hw.st fo' ?_
      intro g w1 H1
      have hwn := hw.add hw.gl (x := .gen kk (d.of []) s.c) (u := .map (some g)) (w' := w1) (St_conv H1 (fun F hF => map_item T hd (l := []) (lv := []) (at_new hw _) (show MVal _ _ _ _ [] [] from rfl) hF) (fun _ hF => hF))
      exact ⟨_, _, .map (some g), _, m, h, Ext.add _ _, rfl, Le.app _ _, Sub.refl _, ⟨at_new hw _, rfl⟩, hk.mono (Le.app _ _) (Sub.refl _), hwn⟩
    · cases h
  · cases h
theorem lookV_step (T : TabOk tb) {t : TypeId} {ok : Bool} {bb kk : Nat} {d : MP tb.T tb.rep kk} {g : tb.T kk} {lv : List (d.α × Value)} {es : Array MapEntry} {clock : Nat} (hd : tb.mp kk = some d) (q2 : MVal (tb.rep d.n) d.g d.wf m lv (d.to g)) (g1 : w.heap[bb]? = some (.map es clock)) (g2 : es.toList.map (fun e => (e.key, e.val)) = lv.map (fun x => (d.K.fk x.1, (_root_.id : Value → Value) x.2)))
    (fo' : fetch B n p i κc = some (o.dst, vS (Instr.lookup t (.map (some bb)) y ok))) (hb : R tb η m b y) (h : lookV P tb t b ok s k d g = some ans) : Step P B n p i κc w (YX tb bs η m o.dst s k ans κc) := by
  unfold lookV at h
  split at h
  · rename_i vt hvt
    split at h
    · rename_i g0 zc key hz hkey
      cases hg : beqB g0 d.g with
      | false => rw [hg] at h; cases h
      | true =>
        have := beqB_ok hg
        subst this
        rw [hg] at h
        simp only [cond_true] at h
        split at h
        · rename_i z0 hz0
          split at h
          · rename_i v hv
            obtain ⟨kt, e1, e2⟩ := mapT_ok T hd hvt
            obtain ⟨zv, f1, f2⟩ := zmA_ok T hz
            obtain ⟨rfl, hwf⟩ := (T.kd.mgi hd).2.2.1 _ _ _ _ _ hkey hb
            have hval : VRep (tb.rep d.n) d.g m ((mget lv key).getD zv) ((mget (d.to g) key).getD z0) ∧ (mget lv key).isSome = (mget (d.to g) key).isSome := by
              rcases q2.get key with ⟨r1, r2⟩ | ⟨u, x, r1, r2, r3⟩
              · rw [r1, r2]; exact ⟨f2 hz0, rfl⟩
              · rw [r1, r2]; exact ⟨r3, rfl⟩
            have hr : R tb η m v ((mget lv key).getD zv) := valA_ok T hv hval.1
            refine runR fo' (vS_run (look_run (K := d.K) (fv := (_root_.id : Value → Value)) t kt vt bb ok key zv (f1 w) e1 e2 g1 g2)) ?_
            refine ⟨_, _, _, η, m, h, Ext.refl _, rfl, Le.refl _, Sub.refl _, ?_, hk, hw⟩
            rw [hval.2]
            cases ok with
            | false => exact hr
            | true => exact ⟨[(mget lv key).getD zv, .bool (mget (d.to g) key).isSome], rfl, _, _, rfl, hr, _, _, rfl, rfl, rfl⟩
          · cases h
        · cases h
    · cases h
  · cases h
theorem lookM_step (T : TabOk tb) {t : TypeId} {ok : Bool} (fo' : fetch B n p i κc = some (o.dst, vS (Instr.lookup t x y ok))) (ha : R tb η m a x) (hb : R tb η m b y) (h : lookM P tb t a b ok s k = some ans) : Step P B n p i κc w (YX tb bs η m o.dst s k ans κc) := by
  unfold lookM at h
  split at h
  · rename_i kk g
    split at h
    · rename_i d hd
      obtain ⟨bb, es, clock, lv, rfl, q1, q2, q3⟩ := (T.kd.mre hd m x g).1 ha
      exact lookV_step hw hk T hd q3 (hw.st.has _ _ q1) q2 fo' hb h
    · cases h
  · obtain ⟨id, st, kk, d, g, rfl, hl, hd, h⟩ := withMap_some tb h
    obtain ⟨bb, lv, q1, q2, q3⟩ := hw.map T hl hd
    have := ha.1
    rw [this] at q1
    cases q1
    obtain ⟨es, clock, h1, h2⟩ := q3.mapAt 0 rfl
    exact lookV_step hw hk T hd q2 h1 h2 fo' hb h
theorem mputM_step (T : TabOk tb) {t : TypeId} (fo' : fetch B n p i κc = some (o.dst, uS (Instr.mapUpdate t x y z))) (ha : R tb η m a x) (hb : R tb η m b y) (hc : R tb η m c z) (h : mputM P tb t a b c s k = some ans) : Step P B n p i κc w (YX tb bs η m o.dst s k ans κc) := by
  unfold mputM at h
  split at h
  · rename_i c' s1 hf
    obtain ⟨h1, m1, h2, h3, h4, h5⟩ := frzA_ok T 20 hf hw hk (RL.mk1 hc)
    obtain ⟨z', hz', hc'⟩ := h5.one
    cases hz'
    obtain ⟨id, st, kk, d, g, rfl, hl, hd, h⟩ := withMap_some tb h
    split at h
    · rename_i vt key l hvt hkey hval
      split at h
      · rename_i y' hy'
        obtain ⟨bb, lv, q1, q2, q3⟩ := h4.map T hl hd
        have := ha.1
        rw [this] at q1
        cases q1
        obtain ⟨kt, e1, e2⟩ := mapT_ok T hd hvt
        obtain ⟨rfl, hwf⟩ := (T.kd.mgi hd).2.2.1 _ _ _ _ _ hkey hb
        refine mputS (K := d.K) (fv := (_root_.id : Value → Value)) o.dst t kt vt 0 bb key z lv q3 rfl fo' e1 e2 ?_
        intro w1 H1
        obtain ⟨k1, k2⟩ := h4.sto hl (x := .gen kk (d.of (mput (d.to g) key y')) id) (St_conv H1 (fun F hF => map_item T hd this (q2.put hwf (valC_ok T hval hy' hc')) hF) (fun _ e => e))
        exact ⟨_, _, undef, η, m1, h, h1.trans k1, rfl, Le.refl _, h2, rfl, h3, k2⟩
      · cases h
    · cases h
  · cases h
omit hw hk in
theorem run_eqSl {t e : TypeId} (hu : P.underlying t = some (.slice e)) (A : Option Addr) (l c : Nat) (w : World) : (Op.equal t (.slice A l c) (.slice none 0 0)).run P w = .ok A.isNone w ∧ (Op.equal t (.slice none 0 0) (.slice A l c)).run P w = .ok A.isNone w := by
  unfold Op.equal
  rw [show Op.maxDepth = 9999 + 1 from rfl]
  unfold Op.equalIn
  simp only [Sem.run_bind, run_und hu, Result.andThen_ok]
  cases A <;> exact ⟨rfl, rfl⟩
omit hk in
theorem emptyA_ok {e : Bool} (h : emptyA tb s a = some e) (ha : R tb η m a x) : ∃ A l c, x = .slice A l c ∧ (e = false → A.isNone = false) := by
  unfold emptyA at h
  split at h
  · rename_i nn l
    cases hb : Nat.blt 0 (tb.rep nn).sz with
    | false => rw [hb] at h; cases h
    | true =>
      rw [hb] at h
      cases h
      obtain ⟨A, c, rfl, hs⟩ := ha
      refine ⟨A, _, c, rfl, fun he => ?_⟩
      cases l with
      | nil => cases he
      | cons y l => obtain ⟨ad, cs, rfl, _⟩ := hs.at_ (i := 0) (x := y) rfl (by simpa [Nat.blt_eq] using hb); rfl
  · rename_i id
    obtain ⟨hη, _⟩ := ha
    split at h
    · rename_i st nn t l hl
      cases hb : Nat.blt 0 (tb.rep nn).sz with
      | false => rw [hb] at h; cases h
      | true =>
        rw [hb] at h
        cases h
        obtain ⟨A, c, g1, H⟩ := hw.row hl
        rw [hη] at g1
        cases g1
        refine ⟨A, _, c, rfl, fun he => ?_⟩
        cases l with
        | nil => cases he
        | cons y l => obtain ⟨ad, cs, rfl, _⟩ := H.rowAt 0 rfl (i := 0) (x := y) rfl (by simpa [Nat.blt_eq] using hb); rfl
    · rename_i st t j c hl
      cases h
      obtain ⟨g, cs, g1, _⟩ := hw.lit hl
      rw [hη] at g1
      cases g1
      exact ⟨_, _, _, rfl, fun _ => rfl⟩
    · cases h
  · cases h
theorem nilM_step {op : BinOp} {t : TypeId} {q r : Operand} {e : Bool} (hu : (slcE P t).isSome = true) (fo' : fetch B n p i κc = some (o.dst, vS (do eqGuard op t q r x y; binOp op t x y)))
    (hxy : ∃ A l c, ((x = .slice A l c ∧ y = .slice none 0 0) ∨ (x = .slice none 0 0 ∧ y = .slice A l c)) ∧ (e = false → A.isNone = false)) (h : nilM tb op e s k = some ans) : Step P B n p i κc w (YX tb bs η m o.dst s k ans κc) := by
  obtain ⟨A, l, c, hxy, hA⟩ := hxy
  obtain ⟨et, het⟩ := Option.isSome_iff_exists.1 hu
  have hut := slcE_ok het
  have heq : ∀ w, (Op.equal t x y).run P w = .ok A.isNone w := fun w => by
    rcases hxy with ⟨rfl, rfl⟩ | ⟨rfl, rfl⟩
    · exact (run_eqSl hut A l c w).1
    · exact (run_eqSl hut A l c w).2
  have hg : ∀ w, (eqGuard op t q r x y).run P w = .ok () w := fun w => by
    rcases hxy with ⟨rfl, rfl⟩ | ⟨rfl, rfl⟩ <;> cases op <;> rfl
  have hs : ∃ A1 l1 c1 A2 l2 c2, x = .slice A1 l1 c1 ∧ y = .slice A2 l2 c2 := by
    rcases hxy with ⟨rfl, rfl⟩ | ⟨rfl, rfl⟩ <;> exact ⟨_, _, _, _, _, _, rfl, rfl⟩
  obtain ⟨A1, l1, c1, A2, l2, c2, e1, e2⟩ := hs
  have fin : ∀ {bb : Bool}, (binOp op t x y).run P w = .ok (.bool bb) w → k (.bool bb) s = some ans → Step P B n p i κc w (YX tb bs η m o.dst s k ans κc) := fun hb hk' =>
    runR fo' (bin_run (hg w) hb) ⟨_, s, _, η, m, hk', Ext.refl _, rfl, Le.refl _, Sub.refl _, rfl, hk, hw⟩
  have pick : ∀ {x1 x2 : Option ρ'} {e : Bool}, cond e (fork x1 x2) x2 = some ans → (e = false → A.isNone = false) → cond A.isNone x1 x2 = some ans := by
    intro x1 x2 e h he
    cases e with
    | true => obtain ⟨g1, g2⟩ := fork_some h; cases A.isNone <;> assumption
    | false => rw [he rfl]; exact h
  unfold nilM at h
  split at h
  · have h2 := pick h hA
    have hb : (binOp .eql t x y).run P w = .ok (.bool A.isNone) w := by
      subst e1 e2
      show (do pure (.bool (← Op.equal t (.slice A1 l1 c1) (.slice A2 l2 c2))) : Sem Value).run P w = _
      rw [Sem.run_bind, heq]; rfl
    refine fin hb ?_
    cases hAn : A.isNone <;> rw [hAn] at h2 <;> exact h2
  · have h2 := pick h hA
    have hb : (binOp .neq t x y).run P w = .ok (.bool (!A.isNone)) w := by
      subst e1 e2
      show (do pure (.bool (!(← Op.equal t (.slice A1 l1 c1) (.slice A2 l2 c2)))) : Sem Value).run P w = _
      rw [Sem.run_bind, heq]; rfl
    refine fin hb ?_
    cases hAn : A.isNone <;> rw [hAn] at h2 <;> exact h2
  · cases h
omit hw hk in
theorem eqA1_ok {d : Option TypeDesc} {r : Bool} (h : eqA1 d a b = some r) (ha : R tb η m a x) (hb : R tb η m b y) : eqSc d x y = some r := by
  unfold eqA1 at h
  split at h <;> cases h
  · have ha : x = _ := ha; have hb : y = _ := hb; subst ha hb; rfl
  · have ha : x = _ := ha; have hb : y = _ := hb; subst ha hb; rfl
  · obtain ⟨rfl, _⟩ := ha; obtain ⟨rfl, _⟩ := hb
    exact congrArg some (seq_raw _ _)
omit hw hk in
theorem eqAs_ok {xs ys : List (AV tb.T)} {us vs : List Value} (hx : RL tb η m xs us) (hy : RL tb η m ys vs) : ∀ {fs : List Field} {r : Bool}, eqAs P xs ys fs = some r → eqFs P us.toArray vs.toArray fs = some r
  | [], r, h => h
  | f :: fs, r, h => by
    unfold eqAs at h
    unfold eqFs
    cases hn : (f.name == "_") with
    | true => rw [hn] at h; cases h
    | false =>
      rw [hn] at h
      simp only [cond_false] at h
      have hne : ¬ f.name = "_" := fun e => by rw [e] at hn; cases hn
      rw [if_neg hne]
      split at h
      · rename_i a b hp ha hb
        obtain ⟨u, hu, hru⟩ := hx.get ha
        obtain ⟨v, hv, hrv⟩ := hy.get hb
        split at h
        · rename_i c hc
          split at h
          · rename_i r' hr'
            cases h
            rw [hp, show us.toArray[f.offset]? = some u by simpa using hu, show vs.toArray[f.offset]? = some v by simpa using hv]
            simp only [eqA1_ok hc hru hrv, eqAs_ok hx hy hr']
          · cases h
        · cases h
      · cases h
omit hw hk in
theorem eqM_ok {op : BinOp} {t : TypeId} {q r : Operand} {xs ys : List (AV tb.T)} {kk : AV tb.T → Option ρ'} (h : eqM P op t xs ys kk = some ans) (ha : R tb η m (.agg xs) x) (hb : R tb η m (.agg ys) y) : ∃ v, kk v = some ans ∧ Run0 P tb η m (vS (do eqGuard op t q r x y; binOp op t x y)) v := by
  unfold eqM at h
  obtain ⟨us, rfl, hx⟩ := ha
  obtain ⟨vs, rfl, hy⟩ := hb
  generalize hc : (!P.eqGuardType P.depth t && (!P.stoodInHeld t && (match P.underlying t with | some (.struct _) => true | _ => false))) = cc at h
  cases cc with
  | false => cases h
  | true =>
    simp only [Bool.and_eq_true, Bool.not_eq_true'] at hc
    obtain ⟨h1, h2, h3⟩ := hc
    have hu : P.underlying t = some (.struct (P.fieldsOf t)) := by
      unfold Program.fieldsOf
      split at h3
      · rename_i fs hfs; simp [hfs]
      · cases h3
    simp only [cond_true] at h
    split at h
    · rename_i bb hbb
      have h4 := eqAs_ok hx hy hbb
      split at h
      · exact ⟨_, h, Run0.fix (fun w => eqAgg_run t q r us.toArray vs.toArray bb bb h4 rfl h1 hu h2) rfl⟩
      · exact ⟨_, h, Run0.fix (fun w => neAgg_run t q r us.toArray vs.toArray bb bb h4 rfl h1 hu h2) rfl⟩
      · cases h
    · cases h
end
theorem St_sub {w0 : World} {F0 : Nat → Prop} {m0 m : Mem} {σ σ' : List Item} {w : World} (H : St w0 F0 m0 m σ w) (h : ∀ F, Sep m w σ F → ∃ F', (∀ k, F' k → F k) ∧ Sep m w σ' F') : St w0 F0 m0 m σ' w := by
  obtain ⟨F, h1, h2, h3⟩ := H.sep
  obtain ⟨F', k1, k2⟩ := h F h1
  exact ⟨H.kp, H.sub, H.has, H.new, F', k2, fun k e => h2 k (k1 k e), fun k e => h3 k (k1 k e)⟩
theorem lk_del_ne {α : Type} : ∀ {l : List (Nat × Nat × α)} {t u : Nat} {p : Nat × α}, u ≠ t → lk l u = some p → lk (del l t) u = some p
  | [], _, _, _, _, h => by cases h
  | (i, st, v) :: r, t, u, p, hn, h => by
    simp only [lk] at h
    simp only [del]
    cases hb : Nat.beq i u with
    | true =>
      rw [hb] at h
      have := beq_t hb
      subst this
      have hb2 : Nat.beq i t = false := by
        cases hb2 : Nat.beq i t with
        | true => exact absurd (beq_t hb2) hn
        | false => rfl
      rw [hb2]
      simp only [cond_false, lk, Nat.beq_refl]
      exact h
    | false =>
      rw [hb] at h
      have ih := lk_del_ne hn (l := r) h
      cases Nat.beq i t with
      | true => exact ih
      | false => simp only [cond_false, lk, hb]; exact ih
theorem take_mid {cur vs xs : List Value} {m n : Nat} (h : cur.take n = xs) (hm : m + vs.length ≤ xs.length) : (cur.take m ++ vs ++ cur.drop (m + vs.length)).take n = xs.take m ++ vs ++ xs.drop (m + vs.length) := by
  have hl : xs.length ≤ n ∧ xs.length ≤ cur.length := by rw [← h, List.length_take]; omega
  rw [← h, List.take_append, List.take_of_length_le (by rw [List.length_append, List.length_take]; omega), List.take_take, List.length_append, List.length_take, List.drop_take, Nat.min_eq_left (by omega), Nat.min_eq_left (by omega)]
section
variable {P : Program} {B : Code} {n : Cx} {p : List Nat} {i : Nat} {κ : Kn} {w : World} {Z : Kn → World → Prop}
theorem stOwnAggR (d : Option Nat) (t : TypeId) (base e sz : Nat) (A : Option Addr) (len cap : Nat) (xs vs : List Value) (ad : Addr) (m : Nat) (ho : fetch B n p i κ = some (d, uS (Instr.storeAt t (.pointer (some (ad.add m))) (.agg vs.toArray)))) (ht : aggB P t vs.length = true) (hv : vs.all (·.oneCell') = true)
    (hown : w.ownsRow base e sz (.slice A len cap) len xs) (hA : A = some ad) (hm : m + vs.length ≤ xs.length) (hv0 : 0 < vs.length)
    (hk : ∀ w1, w1.ownsRow base e sz (.slice A len cap) len (xs.take m ++ vs ++ xs.drop (m + vs.length)) → Kp (fun k => some k = (Value.slice A len cap).ownBlock) w w1 → w1.heap.size = w.heap.size → Z (putk d undef κ) w1) : Step P B n p i κ w Z := by
  have h0 : 0 < len := by
    rcases Nat.eq_zero_or_pos len with h | h
    · have := hown.1
      rw [h, Nat.zero_mul] at this
      omega
    · exact h
  obtain ⟨g, cur, hAg, hb, hg, hcs, htk, hnc, hcm⟩ := own_blk hown h0
  rw [hAg] at hA
  cases hA
  subst hAg
  have hlen : xs.length ≤ cur.size := by
    rw [hown.1, hcs]
    exact Nat.mul_le_mul_right _ hnc
  rw [Addr.add_lit, Nat.zero_add] at ho
  refine stAggR d t g m vs cur (cur.toList.take m ++ vs ++ cur.toList.drop (m + vs.length)).toArray e ho ht hv hg (by omega) rfl ?_
  intro w1 hx hg1 hz
  have hl2 : (xs.take m ++ vs ++ xs.drop (m + vs.length)).length = xs.length := by
    rw [List.length_append, List.length_append, List.length_take, List.length_drop]; omega
  refine hk w1 ⟨by rw [hl2]; exact hown.1, .inr ⟨g, cap, _, rfl, hb, hg1, hnc, hcm, ?_, ?_⟩⟩ ?_ hz
  · rw [← hcs, List.size_toArray, List.length_append, List.length_append, List.length_take, List.length_drop, Array.length_toList]; omega
  · exact take_mid htk hm
  · exact hx.mono (fun k _ hk => by simp [Value.ownBlock, hk])
end
section
variable {P : Program} {tb : Tab} {bs : Bs} {η : List Value} {m : Mem} {s : S tb.T} {w : World} {κc : Kn} {B : Code} {n : Cx} {p : List Nat} {i : Nat} {o : Oper} {ρ' : Type} {k : KO tb.T ρ'} {ans : ρ'} {a b c v : AV tb.T} {x y z : Value}
theorem storeE_step (T : TabOk tb) (hw : Wd tb bs η m s w) (hk : KR tb η m s.κ κc) {t : TypeId} {id n1 off : Nat} {j : Int} (fo' : fetch B n p i κc = some (o.dst, uS (Instr.storeAt t x y))) (ha : R tb η m (.elt id j n1 off) x) (hb : R tb η m b y) (h : storeE P tb t id j n1 off b s k = some ans) : Step P B n p i κc w (YX tb bs η m o.dst s k ans κc) := by
  unfold storeE at h
  split at h
  · rename_i c s1 hf
    obtain ⟨h1, m1, h2, h3, h4, h5⟩ := frzA_ok T 20 hf hw hk (RL.mk1 hb)
    obtain ⟨y', hy', us, rfl, hul⟩ := h5.one
    cases hy'
    obtain ⟨ad, len, c0, e1, e2, e3, rfl⟩ := ha
    split at h
    · rename_i st n' e l hl
      split at h
      · rename_i l' hcl
        obtain ⟨en, rfl⟩ := castL_some hcl
        subst en
        cases hc : (aggB P t (tb.rep n').sz && (c.all oneA && (Nat.beq off 0 && (Nat.beq c.length (tb.rep n').sz && Nat.blt 0 (tb.rep n').sz)))) with
        | false => rw [hc] at h; cases h
        | true =>
          rw [hc] at h
          simp only [Bool.and_eq_true, cond_true] at hc h
          obtain ⟨c1, c2, c3, c4, c5⟩ := hc
          have c3 := beq_t c3
          have c4 := beq_t c4
          have c5 : 0 < (tb.rep n').sz := by simpa [Nat.blt_eq] using c5
          subst c3
          obtain ⟨zz, hz, h⟩ := bindE h
          obtain ⟨i0, i1, i2⟩ := idx_some hz
          split at h
          · rename_i yy hyy
            obtain ⟨A, cap, g1, H⟩ := h4.row hl
            rw [e1] at g1
            obtain ⟨rfl, rfl, rfl⟩ : some ad = A ∧ len = l.length ∧ c0 = cap := by cases g1; exact ⟨rfl, rfl, rfl⟩
            obtain ⟨F, ⟨⟨xs, q1, q2⟩, hF⟩, q3, q4⟩ := H.upd 0 rfl
            have hus : us.length = (tb.rep n').sz := by rw [hul.len, c4]
            have hxl : xs.length = l.length * (tb.rep n').sz := q1.len
            have hjl : j.toNat < l.length := (List.getElem?_eq_some_iff.1 i2).1
            have hle : j.toNat * (tb.rep n').sz + (tb.rep n').sz ≤ xs.length := by
              rw [hxl, ← Nat.succ_mul]; exact Nat.mul_le_mul_right _ hjl
            have ea : (ad.add (j.toNat * (tb.rep n').sz)).add 0 = ad.add (j.toNat * (tb.rep n').sz) := by simp [Addr.add]
            rw [ea] at fo'
            refine stOwnAggR o.dst t 0 e (tb.rep n').sz (some ad) l.length c0 xs us ad (j.toNat * (tb.rep n').sz) fo' (by rw [hus]; exact c1) (oneL hul c2) q2 rfl (by rw [hus]; exact hle) (by omega) ?_
            intro w1 r1 r2 r3
            rw [hus] at r1
            have hset : Rows (tb.rep n') m1 (xs.take (j.toNat * (tb.rep n').sz) ++ us ++ xs.drop (j.toNat * (tb.rep n').sz + (tb.rep n').sz)) (l.set j.toNat yy) := q1.set hjl (T.im hyy hul)
            have H3 := q4 w1 (rowI (tb.rep n') e (some ad) c0 (l.set j.toNat yy)) F (r2.mono (fun k _ e => (hF k).2 e.symm)) ⟨⟨_, hset, by rw [List.length_set]; exact r1⟩, fun k => by rw [List.length_set]; exact hF k⟩ (fun k hk => .inl hk)
            obtain ⟨k1, k2⟩ := h4.sto hl (x := .row n' e (l.set j.toNat yy)) (St_conv H3 (fun F hF => ⟨some ad, c0, by rw [List.length_set]; exact e1, hF⟩) (fun _ e => e))
            exact ⟨_, _, undef, η, m1, h, h1.trans k1, rfl, Le.refl _, h2, rfl, h3, k2⟩
          · cases h
      · cases h
    · cases h
  · cases h
end
end Go.Proofs.YtkmhidggbnbaaaaGreatDoor.K.E
set_option linter.unusedVariables false
set_option linter.unusedSimpArgs false
set_option linter.unusedSectionVars false
namespace Go.Proofs.YtkmhidggbnbaaaaGreatDoor.K.E
open Go Go.RowKit
section
variable (P : Program) (tb : Tab) {ρ : Type}
def withDeep {C : Type} (s : S tb.T) (id : Nat) (f : (k : Nat) → (d : DP tb.T tb.rep k) → List (tb.T d.n) → Option C) : Option C := match lk s.σ id with
  | some (_, .gen k x j) => cond (Nat.beq j id) (match tb.dp k with
    | some d => f k d (d.to x)
    | none => none) none
  | _ => none
theorem withDeep_some {C : Type} {s : S tb.T} {id : Nat} {f : (k : Nat) → (d : DP tb.T tb.rep k) → List (tb.T d.n) → Option C} {c : C} (h : withDeep tb s id f = some c) : ∃ st k d x, lk s.σ id = some (st, .gen k x id) ∧ tb.dp k = some d ∧ f k d (d.to x) = some c := by
  unfold withDeep at h
  split at h
  · rename_i st k x j hl
    cases hb : Nat.beq j id with
    | false => rw [hb] at h; cases h
    | true =>
      have := beq_t hb
      subst this
      rw [hb] at h
      simp only [cond_true] at h
      split at h
      · rename_i d hd
        exact ⟨st, k, d, x, hl, hd, h⟩
      · cases h
  · cases h
def withHole {C : Type} (s : S tb.T) (id : Nat) (f : (k : Nat) → (d : DP tb.T tb.rep k) → List (tb.T d.n) × Int × tb.T d.n → Nat → Option C) : Option C := match lk s.σ id with
  | some (_, .gen h x j) => match tb.hd h with
    | some k => match tb.dp k with
      | some d => match castE d.hk h x with
        | some q => f k d (d.toh q) j
        | none => none
      | none => none
    | none => none
  | _ => none
theorem withHole_some {C : Type} {s : S tb.T} {id : Nat} {f : (k : Nat) → (d : DP tb.T tb.rep k) → List (tb.T d.n) × Int × tb.T d.n → Nat → Option C} {c : C} (h : withHole tb s id f = some c) : ∃ st k d x j, lk s.σ id = some (st, .gen d.hk x j) ∧ tb.dp k = some d ∧ f k d (d.toh x) j = some c := by
  unfold withHole at h
  split at h
  · rename_i st hh x j hl
    split at h
    · rename_i k _
      split at h
      · rename_i d hd
        split at h
        · rename_i q hq
          obtain ⟨e, rfl⟩ := castE_some hq
          subst e
          exact ⟨st, k, d, x, j, hl, hd, h⟩
        · cases h
      · cases h
    · cases h
  · cases h
def closeD (s : S tb.T) (id : Nat) : Option (S tb.T) := withHole tb s id fun k d q j => match lk s.σ j with
  | some (_, .row nk tk l2) => cond (Nat.beq tk d.tk) (match castL d.nk nk l2 with
    | some l2 => some { s with σ := (id, s.d, .gen k (d.of (q.1.set q.2.1.toNat (d.D.setk q.2.2 l2))) id) :: del (del s.σ id) j, d := s.d + 1 }
    | none => none) none
  | _ => none
def holesL : Sg tb.T → List Nat
  | [] => []
  | (id, _, .gen h _ _) :: r => cond (tb.hd h).isSome (id :: holesL r) (holesL r)
  | _ :: r => holesL r
def closeL : List Nat → S tb.T → S tb.T
  | [], s => s
  | id :: r, s => match closeD tb s id with
    | some s' => closeL r s'
    | none => closeL r s
def closeAll (s : S tb.T) : S tb.T := closeL tb (holesL tb s.σ) s
def shutD (s : S tb.T) (id : Nat) : S tb.T := match closeD tb s id with
  | some s' => s'
  | none => s
def elD {k : Nat} (d : DP tb.T tb.rep k) (x : tb.T d.n) : List (AV tb.T) := (tb.ex d.n (d.D.setk x [])).set d.off .any
def seenD (s : S tb.T) (id : Nat) {C : Type} (f : (k : Nat) → (d : DP tb.T tb.rep k) → List (tb.T d.n) → Option C) : Option C := match withDeep tb s id (fun k d l => some (f k d l)) with
  | some r => r
  | none => match withHole tb s id (fun k d q _ => some (f k d q.1)) with
    | some r => r
    | none => none
def idxD (t : TypeId) (id : Nat) (b : AV tb.T) (s : S tb.T) (k : KO tb.T ρ) : Option ρ := match iv b with
  | some i => seenD tb s id fun _ d l => cond (slB' P tb t d.n && Nat.blt 0 (tb.rep d.n).sz) ((idx l i).bind fun _ => k (.elt id i d.n 0) s) none
  | none => none
def lenD (t : TypeId) (id : Nat) (s : S tb.T) (k : KO tb.T ρ) : Option ρ := seenD tb s id fun _ d l => cond (slcE P t).isSome (k (.i64 (l.length : Int)) s) none
def openD (t : TypeId) (id : Nat) (i : Int) (n off : Nat) (s : S tb.T) (k : KO tb.T ρ) : Option ρ := withDeep tb s id fun _ d l => cond (Nat.beq n d.n && (Nat.beq off d.off && oneB P t)) ((idx l i).bind fun x =>
  k (.row s.c) { κ := s.κ, σ := (s.c, s.d, .row d.nk d.tk (d.D.getk x)) :: (id, s.d, .gen d.hk (d.ofh (l, i, x)) s.c) :: del s.σ id, c := s.c + 1, d := s.d + 1 }) none
def loadD1 (t : TypeId) (id : Nat) (i : Int) (n off : Nat) (s : S tb.T) (k : KO tb.T ρ) : Option ρ := withDeep tb s id fun _ d l => cond (Nat.beq n d.n) (cond (Nat.beq off d.off) (openD P tb t id i n off s k)
  ((idx l i).bind fun x => match getC P tb t (elD tb d x) off with
    | some v => k v s
    | none => none)) none
def loadD (t : TypeId) (id : Nat) (i : Int) (n off : Nat) (s : S tb.T) (k : KO tb.T ρ) : Option ρ := loadD1 P tb t id i n off (shutD tb s id) k
def storeD1 (t : TypeId) (id : Nat) (i : Int) (n off : Nat) (a : AV tb.T) (s : S tb.T) (k : KO tb.T ρ) : Option ρ := withDeep tb s id fun kk d l => cond (Nat.beq n d.n && (oneB P t && (oneA a && (Nat.blt off (tb.rep d.n).sz && !Nat.beq off d.off)))) ((idx l i).bind fun x =>
  match tb.im d.n ((tb.ex d.n (d.D.setk x [])).set off a) with
  | some y => k undA { s with σ := sto s.σ id s.d (.gen kk (d.of (l.set i.toNat (d.D.setk y (d.D.getk x)))) id), d := s.d + 1 }
  | none => none) none
def storeD2 (t : TypeId) (id : Nat) (i : Int) (n off : Nat) (a : AV tb.T) (s : S tb.T) (k : KO tb.T ρ) : Option ρ := withHole tb s id fun kk d q j => match a with
  | .row id3 => match lk s.σ id3 with
    | some (_, .row nk tk l3) => cond (Nat.beq n d.n && (Nat.beq off d.off && (oneB P t && Nat.beq tk d.tk))) (match castL d.nk nk l3 with
      | some l3 => (chk (decide (i = q.2.1))).bind fun _ => k undA { s with σ := (id, s.d, .gen kk (d.of (q.1.set q.2.1.toNat (d.D.setk q.2.2 l3))) id) :: del (del s.σ id) id3, d := s.d + 1 }
      | none => none) none
    | _ => none
  | _ => none
def storeD (t : TypeId) (id : Nat) (i : Int) (n off : Nat) (a : AV tb.T) (s : S tb.T) (k : KO tb.T ρ) : Option ρ := seenD tb s id fun _ d _ => cond (Nat.beq off d.off) (storeD2 P tb t id i n off a s k) (match frzA tb 20 [a] s with
  | some ([a], s) => storeD1 P tb t id i n off a (shutD tb s id) k
  | _ => none)
def kidsA {k : Nat} (d : DP tb.T tb.rep k) (c : List (AV tb.T)) (σ : Sg tb.T) : Option (List (tb.T d.nk) × Sg tb.T) := match c[d.off]? with
  | some .nils => some ([], σ)
  | some (.row id) => match lk σ id with
    | some (_, .row nk tk l) => cond (Nat.beq tk d.tk) (match castL d.nk nk l with
      | some l => some (l, del σ id)
      | none => none) none
    | _ => none
  | _ => none
def litD (s : S tb.T) (id : Nat) : Option (S tb.T) := match lk s.σ id with
  | some (_, .lit e 1 c) => match tb.gcode e with
    | some kk => match tb.dp kk with
      | some d => cond (Nat.beq d.t e) (match kidsA tb d c (del s.σ id), tb.im d.n (c.set d.off .nils) with
        | some (l, σ), some x => some { s with σ := (id, s.d, .gen kk (d.of [d.D.setk x l]) id) :: σ, d := s.d + 1 }
        | _, _ => none) none
      | none => none
    | none => none
  | _ => none
def baseD {k : Nat} (d : DP tb.T tb.rep k) (kk : Nat) (a : AV tb.T) (s : S tb.T) : Option (List (tb.T d.n) × S tb.T) := match a with
  | .nils => some ([], s)
  | .row id => match lk s.σ id with
    | some (_, .gen k' x j) => cond (Nat.beq j id && Nat.beq k' kk) (match tb.dp k' with
      | some d' => match castL d.n d'.n (d'.to x) with
        | some l => some (l, delI s id)
        | none => none
      | none => none) none
    | _ => none
  | _ => none
def shutA (s : S tb.T) (a : AV tb.T) : S tb.T := match a with
  | .row id => match litD tb (shutD tb s id) id with
    | some s' => s'
    | none => shutD tb s id
  | _ => s
def appD (t t2 : TypeId) (a b : AV tb.T) (s : S tb.T) (k : KO tb.T ρ) : Option ρ := match slcE P t, b with
  | some e, .row idb => match tb.gcode e with
    | some kk => match tb.dp kk with
      | some d => cond (Nat.beq t2 t && (Nat.beq d.t e && elC P t e (tb.rep d.n).sz)) (match baseD tb d kk a (shutA tb s a) with
        | some (l, s) => match lk s.σ idb with
          | some (_, .lit _ 1 c) => match kidsA tb d c (del s.σ idb), tb.im d.n (c.set d.off .nils) with
            | some (lk', σ), some x => (app l [d.D.setk x lk']).bind fun y => k (.row s.c) (addI { s with σ := σ } (.gen kk (d.of y) s.c))
            | _, _ => none
          | _ => none
        | none => none) none
      | none => none
    | none => none
  | _, _ => none
end
section
variable {P : Program} {tb : Tab} {bs : Bs} {η : List Value} {m : Mem} {s s' : S tb.T} {w : World} {κc : Kn}
theorem Wd.hole (T : TabOk tb) (h : Wd tb bs η m s w) {id st kk j : Nat} {d : DP tb.T tb.rep kk} {x : tb.T d.hk} (hl : lk s.σ id = some (st, .gen d.hk x j)) (hd : tb.dp kk = some d) :
    ∃ A c cs u, η[id]? = some (.slice A (d.toh x).1.length c) ∧ η[j]? = some u ∧ (d.toh x).1[(d.toh x).2.1.toNat]? = some (d.toh x).2.2 ∧ cs[d.off]? = some u ∧ u.oneCell' = true ∧ But d.D m cs (d.toh x).2.2 ∧ St bs.w0 bs.F0 bs.m0 m (holeO (oD d.D d.tk) d.t A c (d.toh x).1 (d.toh x).2.1.toNat cs :: its tb η (E.del s.σ id)) w := by
  obtain ⟨v, u, h1, h2, h3, h4⟩ := h.gen hl
  rw [(T.kd.dgi hd).2.1] at h4
  obtain ⟨⟨A, c, cs⟩, q1, q2⟩ := St_ex (j := fun q : Option Addr × Nat × List Value => holeO (oD d.D d.tk) d.t q.1 q.2.1 (d.toh x).1 (d.toh x).2.1.toNat q.2.2)
    (Q := fun q => (v = .slice q.1 (d.toh x).1.length q.2.1 ∧ (d.toh x).1[(d.toh x).2.1.toNat]? = some (d.toh x).2.2 ∧ q.2.2[d.off]? = some u ∧ u.oneCell' = true) ∧ But d.D m q.2.2 (d.toh x).2.2) h4 (fun F ⟨A, c, cs, e1, e2, e3⟩ => ⟨(A, c, cs), ⟨e1, e2⟩, e3⟩)
  obtain ⟨⟨e1, e2, e3, e4⟩, e5⟩ := q1
  simp only at e1 e2 e3 e4 e5 q2
  subst e1
  exact ⟨A, c, cs, u, h1, h2, e2, e3, e4, e5, q2⟩
theorem deep_item (T : TabOk tb) {kk id : Nat} {d : DP tb.T tb.rep kk} (hd : tb.dp kk = some d) {A : Option Addr} {c : Nat} {l : List (tb.T d.n)} (h1 : η[id]? = some (.slice A l.length c)) {F : Nat → Prop}
    (h3 : (rowO (oD d.D d.tk) d.t A c l).P m w F) : ((DI.gen kk (d.of l) id).item tb η id).P m w F := by
  refine ⟨_, _, ⟨h1, h1⟩, rfl, ?_⟩
  rw [(T.kd.dgi hd).1, (T.kd.dgi hd).2.2.1]
  exact ⟨A, c, rfl, h3⟩
theorem hole_item (T : TabOk tb) {kk id j : Nat} {d : DP tb.T tb.rep kk} (hd : tb.dp kk = some d) {A : Option Addr} {c : Nat} {i : Int} {l : List (tb.T d.n)} {y : tb.T d.n} {cs : List Value} {u : Value} (h1 : η[id]? = some (.slice A l.length c)) (h2 : η[j]? = some u)
    (e2 : l[i.toNat]? = some y) (e3 : cs[d.off]? = some u) (e4 : u.oneCell' = true) (e5 : But d.D m cs y) {F : Nat → Prop}
    (h3 : (holeO (oD d.D d.tk) d.t A c l i.toNat cs).P m w F) : ((DI.gen d.hk (d.ofh (l, i, y)) j).item tb η id).P m w F := by
  refine ⟨_, _, ⟨h1, h2⟩, rfl, ?_⟩
  rw [(T.kd.dgi hd).2.1, (T.kd.dgi hd).2.2.2]
  exact ⟨A, c, cs, ⟨rfl, e2, e3, e4⟩, e5, h3⟩
theorem St_swap {w0 : World} {F0 : Nat → Prop} {m0 : Mem} {i j : Item} {σ : List Item} (H : St w0 F0 m0 m (i :: j :: σ) w) : St w0 F0 m0 m (j :: i :: σ) w := H.perm (List.Perm.swap _ _ _)
theorem St_pull2 {w0 : World} {F0 : Nat → Prop} {m0 : Mem} {i : Item} {σ : Sg tb.T} {id : Nat} {p : Nat × DI tb.T} (hl : lk σ id = some p) (H : St w0 F0 m0 m (i :: its tb η σ) w) : St w0 F0 m0 m (p.2.item tb η id :: i :: its tb η (E.del σ id)) w := by
  refine St_sub H ?_
  rintro F ⟨F1, F2, h1, h2, h3, h4⟩
  obtain ⟨G1, G2, k1, k2, k3, k4⟩ := Sep_lk hl h2
  refine ⟨fun k => G1 k ∨ (F1 k ∨ G2 k), fun k e => (h4 k).2 (e.elim (fun e => .inr (k4 k (.inl e))) (fun e => e.elim .inl (fun e => .inr (k4 k (.inr e))))), G1, fun k => F1 k ∨ G2 k, k1, ⟨F1, G2, h1, k2, fun k a b => h3 k a (k4 k (.inr b)), fun k => Iff.rfl⟩, ?_, fun k => Iff.rfl⟩
  intro k a b
  exact b.elim (fun b => h3 k b (k4 k (.inl a))) (k3 k a)
theorem row_ex {w0 : World} {F0 : Nat → Prop} {m0 : Mem} {σ : List Item} {id n t : Nat} {l : List (tb.T n)} (H : St w0 F0 m0 m ((DI.row n t l).item tb η id :: σ) w) : ∃ A c, η[id]? = some (.slice A l.length c) ∧ St w0 F0 m0 m (rowI (tb.rep n) t A c l :: σ) w := by
  obtain ⟨⟨A, c⟩, h1, h2⟩ := St_ex (j := fun y : Option Addr × Nat => rowI (tb.rep n) t y.1 y.2 l) (Q := fun y => η[id]? = some (.slice y.1 l.length y.2)) H (fun F ⟨A, c, h1, h2⟩ => ⟨(A, c), h1, h2⟩)
  exact ⟨A, c, h1, h2⟩
theorem St.oIt {w0 : World} {F0 : Nat → Prop} {m0 : Mem} {σ : List Item} {α β : Type} {r : Rep α} {rk : Rep β} {off : Nat} (D : Deep α β r rk off) {tk : TypeId} {A : Option Addr} {c : Nat} {l : List β} {cs : List Value} {x : α}
    (e : D.getk x = l) (h1 : cs[off]? = some (.slice A l.length c)) (h2 : But D m cs x) (H : St w0 F0 m0 m (rowI rk tk A c l :: σ) w) : St w0 F0 m0 m ((oD D tk).it cs x :: σ) w := by
  subst e
  exact St_conv H (fun F hF => ⟨A, c, h1, h2, hF⟩) (fun _ e => e)
theorem St.unIt {w0 : World} {F0 : Nat → Prop} {m0 : Mem} {σ : List Item} {α β : Type} {r : Rep α} {rk : Rep β} {off : Nat} {D : Deep α β r rk off} {tk : TypeId} {cs : List Value} {x : α}
    (H : St w0 F0 m0 m ((oD D tk).it cs x :: σ) w) : ∃ A c, cs[off]? = some (.slice A (D.getk x).length c) ∧ But D m cs x ∧ St w0 F0 m0 m (rowI rk tk A c (D.getk x) :: σ) w := by
  obtain ⟨⟨A, c⟩, ⟨h1, h2⟩, h3⟩ := St_ex (j := fun y : Option Addr × Nat => rowI rk tk y.1 y.2 (D.getk x)) (Q := fun y => cs[off]? = some (.slice y.1 (D.getk x).length y.2) ∧ But D m cs x) H (fun F ⟨A, c, h1, h2, h3⟩ => ⟨(A, c), ⟨h1, h2⟩, h3⟩)
  exact ⟨A, c, h1, h2, h3⟩
theorem But.setk {α β : Type} {r : Rep α} {rk : Rep β} {off : Nat} {D : Deep α β r rk off} {cs : List Value} {x : α} (h : But D m cs x) (l : List β) : But D m cs (D.setk x l) := by
  unfold But at h ⊢
  rw [D.ss]
  exact h
theorem Ext_new {s : S tb.T} {σ' : Sg tb.T} {c' : Nat} (hc : s.c ≤ c') (h : ∀ t st v, lk σ' t = some (st, v) → st < s.d → lk s.σ t = some (st, v)) : Ext s { κ := s.κ, σ := σ', c := c', d := s.d + 1 } := ⟨hc, Nat.le_succ _, fun _ _ _ e _ => e, h⟩
theorem lk_new {σ τ : Sg tb.T} {id d : Nat} {x : DI tb.T} (h : ∀ t p, lk τ t = some p → lk σ t = some p) : ∀ t st v, lk ((id, d, x) :: τ) t = some (st, v) → st < d → lk σ t = some (st, v) := by
  intro t st v e l
  simp only [lk] at e
  cases hb : Nat.beq id t with
  | true => rw [hb] at e; simp only [cond_true, Option.some.injEq, Prod.mk.injEq] at e; rw [← e.1] at l; exact absurd l (Nat.lt_irrefl _)
  | false => rw [hb] at e; exact h t _ e
theorem closeD_ok (T : TabOk tb) {id : Nat} (h : closeD tb s id = some s') (hw : Wd tb bs η m s w) : s'.κ = s.κ ∧ Ext s s' ∧ Wd tb bs η m s' w := by
  unfold closeD at h
  obtain ⟨st, kk, d, x, j, hl, hd, h⟩ := withHole_some tb h
  split at h
  · rename_i st2 nk tk l2 hl2
    cases hb : Nat.beq tk d.tk with
    | false => rw [hb] at h; cases h
    | true =>
      have := beq_t hb
      subst this
      rw [hb] at h
      simp only [cond_true] at h
      split at h
      · rename_i l2' hc
        obtain ⟨en, rfl⟩ := castL_some hc
        subst en
        cases h
        obtain ⟨A, c, cs, u, h1, h2, h3, h4, h5, h6, H⟩ := hw.hole T hl hd
        have hne : j ≠ id := fun e => by subst e; rw [hl] at hl2; cases hl2
        have H2 := St_pull2 (lk_del_ne hne hl2) H
        obtain ⟨A2, c2, g1, H3⟩ := row_ex H2
        rw [h2] at g1
        cases g1
        have H4 := St.closeO (St.oIt d.D (d.D.gs _ l2) h4 (h6.setk l2) H3)
        refine ⟨rfl, Ext_new (Nat.le_refl _) (lk_new fun t p e => (lk_del (lk_del e).2).2), hw.len, hw.le, ?_, hw.gl⟩
        exact St_conv H4 (fun F hF => deep_item T hd (by rw [List.length_set]; exact h1) hF) (fun _ e => e)
      · cases h
  · cases h
theorem closeL_ok (T : TabOk tb) : ∀ (l : List Nat) {s : S tb.T}, Wd tb bs η m s w → (closeL tb l s).κ = s.κ ∧ Ext s (closeL tb l s) ∧ Wd tb bs η m (closeL tb l s) w
  | [], s, hw => ⟨rfl, Ext.refl _, hw⟩
  | id :: r, s, hw => by
    simp only [closeL]
    split
    · rename_i s1 h1
      obtain ⟨e1, e2, e3⟩ := closeD_ok T h1 hw
      obtain ⟨k1, k2, k3⟩ := closeL_ok T r e3
      exact ⟨k1.trans e1, e2.trans k2, k3⟩
    · exact closeL_ok T r hw
theorem shutD_ok (T : TabOk tb) (id : Nat) (hw : Wd tb bs η m s w) : (shutD tb s id).κ = s.κ ∧ Ext s (shutD tb s id) ∧ Wd tb bs η m (shutD tb s id) w := by
  unfold shutD
  split
  · rename_i s1 h1; exact closeD_ok T h1 hw
  · exact ⟨rfl, Ext.refl _, hw⟩
theorem kidsA_ok {kk : Nat} {d : DP tb.T tb.rep kk} {c : List (AV tb.T)} {σ σ' : Sg tb.T} {l : List (tb.T d.nk)} (h : kidsA tb d c σ = some (l, σ')) {cs : List Value} (hr : RL tb η m c cs) {w0 : World} {F0 : Nat → Prop} {m0 : Mem} {i : Item} (H : St w0 F0 m0 m (i :: its tb η σ) w) :
    (∀ t p, lk σ' t = some p → lk σ t = some p) ∧ ∃ A cc, cs[d.off]? = some (.slice A l.length cc) ∧ RL tb η m (c.set d.off .nils) (cs.set d.off (.slice none 0 0)) ∧ St w0 F0 m0 m (rowI (tb.rep d.nk) d.tk A cc l :: i :: its tb η σ') w := by
  have hset : RL tb η m (c.set d.off .nils) (cs.set d.off (.slice none 0 0)) := hr.set (a := .nils) rfl
  unfold kidsA at h
  split at h
  · rename_i hc
    cases h
    obtain ⟨v, h1, h2⟩ := hr.get hc
    have h2 : v = .slice none 0 0 := h2
    subst h2
    exact ⟨fun _ _ e => e, none, 0, h1, hset, H.nilR _ _⟩
  · rename_i id hc
    obtain ⟨v, h1, h2, _⟩ := hr.get hc
    split at h
    · rename_i st nk tk l' hl
      cases hb : Nat.beq tk d.tk with
      | false => rw [hb] at h; cases h
      | true =>
        have := beq_t hb
        subst this
        rw [hb] at h
        simp only [cond_true] at h
        split at h
        · rename_i l2 hl2
          cases h
          obtain ⟨en, rfl⟩ := castL_some hl2
          subst en
          obtain ⟨A2, c2, g1, H3⟩ := row_ex (St_pull2 hl H)
          rw [h2] at g1
          cases g1
          exact ⟨fun _ _ e => (lk_del e).2, A2, c2, h1, hset, H3⟩
        · cases h
    · cases h
  · cases h
theorem But_of (T : TabOk tb) {kk : Nat} {d : DP tb.T tb.rep kk} {c : List (AV tb.T)} {cs : List Value} {x : tb.T d.n} (h : tb.im d.n c = some x) (hr : RL tb η m c (cs.set d.off (.slice none 0 0))) (l : List (tb.T d.nk)) : But d.D m cs (d.D.setk x l) := by
  have := d.D.empt (T.im h hr)
  rw [List.set_set] at this
  unfold But
  rw [d.D.ss]
  exact this
theorem lit_ex {w0 : World} {F0 : Nat → Prop} {m0 : Mem} {σ : List Item} {id t k : Nat} {c : List (AV tb.T)} (H : St w0 F0 m0 m ((DI.lit t k c).item tb η id :: σ) w) : ∃ g cs, η[id]? = some (.slice (some ⟨g, 0, none⟩) k k) ∧ RL tb η m c cs ∧ St w0 F0 m0 m (blkI g cs t :: σ) w := by
  obtain ⟨⟨g, cs⟩, ⟨h1, h2⟩, h3⟩ := St_ex (j := fun y : Nat × List Value => blkI y.1 y.2 t) (Q := fun y => η[id]? = some (.slice (some ⟨y.1, 0, none⟩) k k) ∧ RL tb η m c y.2) H (fun F ⟨g, cs, h1, h2, h3⟩ => ⟨(g, cs), ⟨h1, h2⟩, h3⟩)
  exact ⟨g, cs, h1, h2, h3⟩
theorem St.toO1 {w0 : World} {F0 : Nat → Prop} {m0 : Mem} {σ : List Item} {α : Type} {o : ORep α} {g : Nat} {cs : List Value} {t : TypeId} {x : α} (H : St w0 F0 m0 m (blkI g cs t :: o.it cs x :: σ) w) : St w0 F0 m0 m (rowO o t (some ⟨g, 0, none⟩) 1 [x] :: σ) w := by
  have hlen : cs.length = o.fr.sz := by
    obtain ⟨F, ⟨F1, F2, _, ⟨F3, F4, h, _⟩, _⟩, _⟩ := H.sep
    exact o.len h
  have hb := H.blk 0 rfl
  have hown := own_of_blk (base := 0) (n := 1) (sz := o.fr.sz) (e := t) hb (Nat.zero_le _) (by decide) (by simp [hlen])
  have H2 : St w0 F0 m0 m (rawI t o.fr.sz (some ⟨g, 0, none⟩) 1 1 cs :: o.it cs x :: σ) w := St_conv H (fun F hF => ⟨by simpa using hown, fun k => by rw [hF.2 k]; exact ⟨fun e => by subst e; rfl, fun e => by cases e; rfl⟩⟩) (fun _ e => e)
  refine St.exi [cs] (St.big _ (St.fac0 rfl ?_))
  have e1 : ([cs] : List (List Value)).flatten = cs := by simp
  rw [e1]
  exact H2
theorem litD_ok (T : TabOk tb) {id : Nat} (h : litD tb s id = some s') (hw : Wd tb bs η m s w) : s'.κ = s.κ ∧ Ext s s' ∧ Wd tb bs η m s' w := by
  unfold litD at h
  split at h
  · rename_i st e c hl
    split at h
    · rename_i kk hkk
      split at h
      · rename_i d hd
        cases hb : Nat.beq d.t e with
        | false => rw [hb] at h; cases h
        | true =>
          have := beq_t hb
          subst this
          rw [hb] at h
          simp only [cond_true] at h
          split at h
          · rename_i l σ x hk hx
            cases h
            obtain ⟨g, cs, h1, h2, H⟩ := lit_ex (hw.pull hl)
            obtain ⟨k1, A, cc, k2, k3, k4⟩ := kidsA_ok hk h2 H
            have H2 := St.toO1 (St_swap (St.oIt d.D (d.D.gs x l) k2 (But_of T hx k3 l) k4))
            refine ⟨rfl, Ext_new (Nat.le_refl _) (lk_new fun t p e => (lk_del (k1 t p e)).2), hw.len, hw.le, ?_, hw.gl⟩
            exact St_conv H2 (fun F hF => deep_item T hd h1 hF) (fun _ e => e)
          · cases h
      · cases h
    · cases h
  · cases h
theorem shutA_ok (T : TabOk tb) (a : AV tb.T) (hw : Wd tb bs η m s w) : (shutA tb s a).κ = s.κ ∧ Ext s (shutA tb s a) ∧ Wd tb bs η m (shutA tb s a) w := by
  unfold shutA
  split
  · rename_i id
    obtain ⟨e1, e2, e3⟩ := shutD_ok T id hw
    split
    · rename_i s1 h1
      obtain ⟨k1, k2, k3⟩ := litD_ok T h1 e3
      exact ⟨k1.trans e1, e2.trans k2, k3⟩
    · exact ⟨e1, e2, e3⟩
  · exact ⟨rfl, Ext.refl _, hw⟩
end
end Go.Proofs.YtkmhidggbnbaaaaGreatDoor.K.E
set_option linter.unusedVariables false
set_option linter.unusedSimpArgs false
set_option linter.unusedSectionVars false
namespace Go.Proofs.YtkmhidggbnbaaaaGreatDoor.K.E
open Go Go.RowKit
section
variable {P : Program} {tb : Tab} {bs : Bs} {η : List Value} {m : Mem} {s : S tb.T} {w : World} {κc : Kn} {B : Code} {n : Cx} {p : List Nat} {i : Nat} {o : Oper} {ρ' : Type} {k : KO tb.T ρ'} {ans : ρ'} {a b c v : AV tb.T} {x y z : Value}
theorem seenD_ok (T : TabOk tb) {id : Nat} {C : Type} {f : (k : Nat) → (d : DP tb.T tb.rep k) → List (tb.T d.n) → Option C} {r : C} (h : seenD tb s id f = some r) (hw : Wd tb bs η m s w) : ∃ kk d l, tb.dp kk = some d ∧ f kk d l = some r ∧ ∃ A c, η[id]? = some (.slice A l.length c) ∧
    ∀ {i : Nat} {x : tb.T d.n}, l[i]? = some x → ∃ ad, A = some ad := by
  unfold seenD at h
  split at h
  · rename_i r' hr'
    obtain ⟨st, kk, d, g, hl, hd, h2⟩ := withDeep_some tb hr'
    cases h2
    obtain ⟨A, c, h1, H⟩ := hw.deep T hl hd
    exact ⟨kk, d, _, hd, h, A, c, h1, fun hx => H.rowOA 0 rfl hx⟩
  · split at h
    · rename_i r' hr'
      obtain ⟨st, kk, d, g, j, hl, hd, h2⟩ := withHole_some tb hr'
      cases h2
      obtain ⟨A, c, cs, u, h1, h2, h3, h4, h5, h6, H⟩ := hw.hole T hl hd
      refine ⟨kk, d, _, hd, h, A, c, h1, fun hx => ?_⟩
      obtain ⟨ad, e, _⟩ := H.holeAt 0 rfl (Nat.lt_of_le_of_lt (Nat.zero_le _) d.D.lt)
      exact ⟨ad, e⟩
    · cases h
theorem exec_len1 {t ty : TypeId} {A : Option Addr} {l c e : Nat} (hu : P.underlying t = some (.slice e)) : (vS (Builtin.len_ #[t] ty #[.slice A l c])).run P w = .ok (.value (.int .i64 (l : Int))) w := by
  refine vS_run ?_
  simp only [Builtin.len_, List.getElem?_toArray, List.getElem?_cons_zero, Sem.run_bind, run_und hu, Result.andThen_ok]
  rfl
variable (hw : Wd tb bs η m s w) (hk : KR tb η m s.κ κc)
include hw hk
theorem idxD_step (T : TabOk tb) {t id : Nat} (fo' : fetch B n p i κc = some (o.dst, vS (Instr.indexAt t x y))) (ha : R tb η m (.row id) x) (hb : R tb η m b y) (h : idxD P tb t id b s k = some ans) : Step P B n p i κc w (YX tb bs η m o.dst s k ans κc) := by
  unfold idxD at h
  split at h
  · rename_i j hj
    obtain ⟨ik, rfl⟩ := iv_ok hj hb
    obtain ⟨kk, d, l, hd, h, A, c, h1, hA⟩ := seenD_ok T h hw
    cases hc : (slB' P tb t d.n && Nat.blt 0 (tb.rep d.n).sz) with
    | false => rw [hc] at h; cases h
    | true =>
      rw [hc] at h
      rw [Bool.and_eq_true] at hc
      obtain ⟨q, hq, h⟩ := bindE h
      obtain ⟨i0, i1, i2⟩ := idx_some hq
      obtain ⟨ad, rfl⟩ := hA i2
      rw [ha.1] at h1
      cases h1
      obtain ⟨e2, he2⟩ := slB'_ok hc.1
      refine runR fo' (idx_run t e2 (tb.rep d.n).sz (some ad) ad l.length c ik j _ rfl he2 i0 i1 rfl) ⟨_, s, _, η, m, h, Ext.refl _, rfl, Le.refl _, Sub.refl _, ⟨ad, l.length, c, ha.1, i0, i1, ?_⟩, hk, hw⟩
      simp [Addr.add]
  · cases h
theorem lenD_step (T : TabOk tb) {t ty id : Nat} (fo' : fetch B n p i κc = some (o.dst, vS (Builtin.len_ #[t] ty #[x]))) (ha : R tb η m (.row id) x) (h : lenD P tb t id s k = some ans) : Step P B n p i κc w (YX tb bs η m o.dst s k ans κc) := by
  unfold lenD at h
  obtain ⟨kk, d, l, hd, h, A, c, h1, hA⟩ := seenD_ok T h hw
  cases hc : (slcE P t).isSome with
  | false => rw [hc] at h; cases h
  | true =>
    rw [hc] at h
    obtain ⟨e, he⟩ := Option.isSome_iff_exists.1 hc
    rw [ha.1] at h1
    cases h1
    exact runR fo' (exec_len1 (slcE_ok he)) ⟨_, s, _, η, m, h, Ext.refl _, rfl, Le.refl _, Sub.refl _, rfl, hk, hw⟩
omit hw hk in
theorem lk_new2 {σ τ : Sg tb.T} {i1 i2 d : Nat} {x1 x2 : DI tb.T} (h : ∀ t p, lk τ t = some p → lk σ t = some p) : ∀ t st v, lk ((i1, d, x1) :: (i2, d, x2) :: τ) t = some (st, v) → st < d → lk σ t = some (st, v) := by
  intro t st v e l
  simp only [lk] at e
  cases hb : Nat.beq i1 t with
  | true => rw [hb] at e; simp only [cond_true, Option.some.injEq, Prod.mk.injEq] at e; rw [← e.1] at l; exact absurd l (Nat.lt_irrefl _)
  | false => rw [hb] at e; exact lk_new h t st v e l
omit hw hk in
theorem elD_ok (T : TabOk tb) {kk : Nat} {d : DP tb.T tb.rep kk} {cs : List Value} {q : tb.T d.n} (h : But d.D m cs q) : RL tb η m (elD tb d q) cs := by
  have h1 := T.ex (η := η) h
  have hlt : d.off < cs.length := by rw [h.len]; exact d.D.lt
  have h2 := h1.set (i := d.off) (a := .any) (v := cs[d.off]) trivial
  rwa [List.set_set, List.set_getElem_self] at h2
theorem openD_step (T : TabOk tb) {t id n1 off : Nat} {j : Int} (fo' : fetch B n p i κc = some (o.dst, vS (Instr.loadAt t x))) (ha : R tb η m (.elt id j n1 off) x) (h : openD P tb t id j n1 off s k = some ans) : Step P B n p i κc w (YX tb bs η m o.dst s k ans κc) := by
  unfold openD at h
  have hh := h
  clear h
  obtain ⟨st, k2, d2, g, hl, hd, h⟩ := withDeep_some tb hh
  clear hh
  cases hc : (Nat.beq n1 d2.n && (Nat.beq off d2.off && oneB P t)) with
  | false => rw [hc] at h; cases h
  | true =>
    rw [hc] at h
    simp only [cond_true] at h
    simp only [Bool.and_eq_true] at hc
    obtain ⟨hn, hof, hc⟩ := hc
    have hn := beq_t hn
    have hof := beq_t hof
    subst hn hof
    obtain ⟨q, hq, h⟩ := bindE h
    obtain ⟨i0, i1, i2⟩ := idx_some hq
    obtain ⟨A, c, h1, H⟩ := hw.deep T hl hd
    obtain ⟨ad, len, c0, e1, e2, e3, rfl⟩ := ha
    have e1' := e1
    rw [h1] at e1
    obtain ⟨rfl, rfl, rfl⟩ : A = some ad ∧ (d2.to g).length = len ∧ c = c0 := by cases e1; exact ⟨rfl, rfl, rfl⟩
    obtain ⟨cs, H2⟩ := H.openO 0 rfl i2
    obtain ⟨A2, c2, f1, f2, H3⟩ := St.unIt H2
    obtain ⟨ad', e, _, _, f3⟩ := H3.holeAt 1 rfl (Nat.lt_of_le_of_lt (Nat.zero_le _) d2.D.lt)
    cases e
    have hrun := ld_run (P := P) (w := w) t ((ad.add (j.toNat * (tb.rep d2.n).sz)).add d2.off) _ hc (f3 _ _ f1)
    refine runR fo' hrun ⟨_, _, _, η ++ [.slice A2 (d2.D.getk q).length c2], m, h, Ext_new (Nat.le_succ _) (lk_new2 fun t p e => (lk_del e).2), rfl, Le.app _ _, Sub.refl _, ⟨at_new hw _, rfl⟩, hk.mono (Le.app _ _) (Sub.refl _), ?_, hw.le.trans (Le.app _ _), ?_, hw.gl⟩
    · rw [List.length_append, hw.len]; rfl
    · have H4 : St bs.w0 bs.F0 bs.m0 m (rowI (tb.rep d2.nk) d2.tk A2 c2 (d2.D.getk q) :: holeO (oD d2.D d2.tk) d2.t (some ad) c (d2.to g) j.toNat cs :: its tb η (del s.σ id)) w := H3
      refine St_conv (St_imp H4 fun F hF => hF) (fun F hF => ⟨A2, c2, at_new hw _, hF⟩) (fun F hF => ?_)
      obtain ⟨F1, F2, g1, g2, g3⟩ := hF
      exact ⟨F1, F2, hole_item T hd (Le.app _ _ _ _ h1) (at_new hw _) i2 f1 rfl f2 g1, its_le (Le.app _ _) _ g2, g3⟩
theorem loadD1_step (T : TabOk tb) {t id n1 off : Nat} {j : Int} (fo' : fetch B n p i κc = some (o.dst, vS (Instr.loadAt t x))) (ha : R tb η m (.elt id j n1 off) x) (h : loadD1 P tb t id j n1 off s k = some ans) : Step P B n p i κc w (YX tb bs η m o.dst s k ans κc) := by
  unfold loadD1 at h
  have hh := h
  clear h
  obtain ⟨st, kk, d, g, hl, hd, h⟩ := withDeep_some tb hh
  clear hh
  cases hn : Nat.beq n1 d.n with
  | false => rw [hn] at h; cases h
  | true =>
    rw [hn] at h
    simp only [cond_true] at h
    cases ho : Nat.beq off d.off with
    | true => rw [ho] at h; exact openD_step hw hk T fo' ha h
    | false =>
      rw [ho] at h
      have hn := beq_t hn
      subst hn
      simp only [cond_false] at h
      obtain ⟨q, hq, h⟩ := bindE h
      obtain ⟨i0, i1, i2⟩ := idx_some hq
      obtain ⟨A, c, h1, H⟩ := hw.deep T hl hd
      obtain ⟨cs, H2⟩ := H.openO 0 rfl i2
      obtain ⟨A2, c2, f1, f2, H3⟩ := St.unIt H2
      obtain ⟨ad, len, c0, e1, e2, e3, rfl⟩ := ha
      rw [h1] at e1
      obtain ⟨rfl, rfl, rfl⟩ : A = some ad ∧ (d.to g).length = len ∧ c = c0 := by cases e1; exact ⟨rfl, rfl, rfl⟩
      split at h
      · rename_i v hv
        obtain ⟨u, r1, r2⟩ := getC_ok (P := P) (ad := ad.add (j.toNat * (tb.rep d.n).sz)) (w := w) hv (elD_ok T (η := η) f2) (H3.holeCell 1 rfl rfl (Nat.lt_of_le_of_lt (Nat.zero_le _) d.D.lt))
        exact runR fo' r1 ⟨v, s, u, η, m, h, Ext.refl _, rfl, Le.refl _, Sub.refl _, r2, hk, hw⟩
      · cases h
theorem loadD_step (T : TabOk tb) {t id n1 off : Nat} {j : Int} (fo' : fetch B n p i κc = some (o.dst, vS (Instr.loadAt t x))) (ha : R tb η m (.elt id j n1 off) x) (h : loadD P tb t id j n1 off s k = some ans) : Step P B n p i κc w (YX tb bs η m o.dst s k ans κc) := by
  obtain ⟨g1, g2, g3⟩ := shutD_ok T id hw
  have hk' : KR tb η m (shutD tb s id).κ κc := by rw [g1]; exact hk
  exact Step.imp (loadD1_step g3 hk' T fo' ha h) (YX.pre g2 (Sub.refl _))
theorem storeD1_step (T : TabOk tb) {t id n1 off : Nat} {j : Int} (fo' : fetch B n p i κc = some (o.dst, uS (Instr.storeAt t x y))) (ha : R tb η m (.elt id j n1 off) x) (hb : R tb η m a y) (h : storeD1 P tb t id j n1 off a s k = some ans) : Step P B n p i κc w (YX tb bs η m o.dst s k ans κc) := by
  unfold storeD1 at h
  have hh := h
  clear h
  obtain ⟨st, kk, d, g, hl, hd, h⟩ := withDeep_some tb hh
  clear hh
  cases hc : (Nat.beq n1 d.n && (oneB P t && (oneA a && (Nat.blt off (tb.rep d.n).sz && !Nat.beq off d.off)))) with
  | false => rw [hc] at h; cases h
  | true =>
    rw [hc] at h
    simp only [cond_true] at h
    simp only [Bool.and_eq_true, Bool.not_eq_true'] at hc
    obtain ⟨c1, c2, c3, c4, c5⟩ := hc
    have c1 := beq_t c1
    subst c1
    have c4 : off < (tb.rep d.n).sz := by simpa [Nat.blt_eq] using c4
    have c5 := beq_ne c5
    obtain ⟨q, hq, h⟩ := bindE h
    obtain ⟨i0, i1, i2⟩ := idx_some hq
    split at h
    · rename_i y0 hy0
      obtain ⟨A, c, h1, H⟩ := hw.deep T hl hd
      obtain ⟨cs, H2⟩ := H.openO 0 rfl i2
      obtain ⟨A2, c2', f1, f2, H3⟩ := St.unIt H2
      obtain ⟨ad, len, c0, e1, e2, e3, rfl⟩ := ha
      have e1' := e1
      rw [h1] at e1
      obtain ⟨rfl, rfl, rfl⟩ : A = some ad ∧ (d.to g).length = len ∧ c = c0 := by cases e1; exact ⟨rfl, rfl, rfl⟩
      have hlen : cs.length = (tb.rep d.n).sz := f2.len
      refine stHole (o := oD d.D d.tk) o.dst t 1 j.toNat off (some ad) c (d.to g) d.t cs y ad H3 rfl rfl fo' c2 (oneA_ok hb c3) (by omega) ?_
      intro w1 H4
      have hbut : But d.D m (cs.set off y) (d.D.setk y0 (d.D.getk q)) := by
        have r1 : RL tb η m ((tb.ex d.n (d.D.setk q [])).set off a) ((cs.set d.off (.slice none 0 0)).set off y) := (T.ex (η := η) f2).set hb
        have r2 := d.D.empt (T.im hy0 r1)
        unfold But
        rw [d.D.ss]
        rw [List.set_comm _ _ c5, List.set_set] at r2
        rw [List.set_comm _ _ c5]
        exact r2
      have H5 : St bs.w0 bs.F0 bs.m0 m (holeO (oD d.D d.tk) d.t (some ad) c (d.to g) j.toNat (cs.set off y) :: rowI (tb.rep d.nk) d.tk A2 c2' (d.D.getk q) :: its tb η (del s.σ id)) w1 := H4
      have H6 := St.closeO (St.oIt d.D (x := d.D.setk y0 (d.D.getk q)) (d.D.gs _ _) (by rw [List.getElem?_set_ne c5]; exact f1) hbut (St_swap H5))
      obtain ⟨k1, k2⟩ := hw.sto hl (x := .gen kk (d.of ((d.to g).set j.toNat (d.D.setk y0 (d.D.getk q)))) id) (St_conv H6 (fun F hF => deep_item T hd (by rw [List.length_set]; exact e1') hF) (fun _ e => e))
      exact ⟨_, _, undef, η, m, h, k1, rfl, Le.refl _, Sub.refl _, rfl, hk, k2⟩
    · cases h
theorem storeD2_step (T : TabOk tb) {t id n1 off : Nat} {j : Int} (fo' : fetch B n p i κc = some (o.dst, uS (Instr.storeAt t x y))) (ha : R tb η m (.elt id j n1 off) x) (hb : R tb η m a y) (h : storeD2 P tb t id j n1 off a s k = some ans) : Step P B n p i κc w (YX tb bs η m o.dst s k ans κc) := by
  unfold storeD2 at h
  have hh := h
  clear h
  obtain ⟨st, kk, d, g, j2, hl, hd, h⟩ := withHole_some tb hh
  clear hh
  split at h
  · rename_i id3
    split at h
    · rename_i st3 nk tk l3 hl3
      cases hc : (Nat.beq n1 d.n && (Nat.beq off d.off && (oneB P t && Nat.beq tk d.tk))) with
      | false => rw [hc] at h; cases h
      | true =>
        rw [hc] at h
        simp only [cond_true] at h
        simp only [Bool.and_eq_true] at hc
        obtain ⟨c1, c2, c3, c4⟩ := hc
        have c1 := beq_t c1
        have c2 := beq_t c2
        have c4 := beq_t c4
        subst c1 c2 c4
        split at h
        · rename_i l3' hl3'
          obtain ⟨en, rfl⟩ := castL_some hl3'
          subst en
          obtain ⟨hj, h⟩ := chkE h
          have hj : j = (d.toh g).2.1 := of_decide_eq_true hj
          obtain ⟨A, c, cs, u, h1, h2, h3, h4, h5, h6, H⟩ := hw.hole T hl hd
          have hne : id3 ≠ id := fun e => by subst e; rw [hl] at hl3; cases hl3
          obtain ⟨A3, c3', g1, H3⟩ := row_ex (St_pull2 (lk_del_ne hne hl3) H)
          rw [hb.1] at g1
          cases g1
          obtain ⟨ad, len, c0, e1, e2, e3, rfl⟩ := ha
          rw [h1] at e1
          obtain ⟨rfl, rfl, rfl⟩ : A = some ad ∧ (d.toh g).1.length = len ∧ c = c0 := by cases e1; exact ⟨rfl, rfl, rfl⟩
          have hjt : j.toNat = (d.toh g).2.1.toNat := by rw [hj]
          rw [hjt] at fo'
          refine stHole (o := oD d.D d.tk) o.dst t 1 (d.toh g).2.1.toNat d.off (some ad) c (d.toh g).1 d.t cs (.slice A3 l3.length c3') ad H3 rfl rfl fo' c3 rfl (List.getElem?_eq_some_iff.1 h4).1 ?_
          intro w1 H4
          have H5 : St bs.w0 bs.F0 bs.m0 m (holeO (oD d.D d.tk) d.t (some ad) c (d.toh g).1 (d.toh g).2.1.toNat (cs.set d.off (.slice A3 l3.length c3')) :: rowI (tb.rep d.nk) d.tk A3 c3' l3 :: its tb η (del (del s.σ id) id3)) w1 := H4
          have H6 := St.closeO (St.oIt d.D (x := d.D.setk (d.toh g).2.2 l3) (d.D.gs _ _) (by rw [List.getElem?_set_self (List.getElem?_eq_some_iff.1 h4).1]) h6.set (St_swap H5))
          refine ⟨_, _, undef, η, m, h, Ext_new (Nat.le_refl _) (lk_new fun t p e => (lk_del (lk_del e).2).2), rfl, Le.refl _, Sub.refl _, rfl, hk, hw.len, hw.le, ?_, hw.gl⟩
          exact St_conv H6 (fun F hF => deep_item T hd (by rw [List.length_set]; exact h1) hF) (fun _ e => e)
        · cases h
    · cases h
  · cases h
theorem storeD_step (T : TabOk tb) {t id n1 off : Nat} {j : Int} (fo' : fetch B n p i κc = some (o.dst, uS (Instr.storeAt t x y))) (ha : R tb η m (.elt id j n1 off) x) (hb : R tb η m a y) (h : storeD P tb t id j n1 off a s k = some ans) : Step P B n p i κc w (YX tb bs η m o.dst s k ans κc) := by
  unfold storeD at h
  obtain ⟨kk, d, l, hd, h, _⟩ := seenD_ok T h hw
  cases ho : Nat.beq off d.off with
  | true => rw [ho] at h; exact storeD2_step hw hk T fo' ha hb h
  | false =>
    rw [ho] at h
    simp only [cond_false] at h
    split at h
    · rename_i a' s1 hf
      obtain ⟨h1, m1, h2, h3, h4, h5⟩ := frzA_ok T 20 hf hw hk (RL.mk1 hb)
      obtain ⟨y', hy', hb'⟩ := h5.one
      cases hy'
      obtain ⟨g1, g2, g3⟩ := shutD_ok T id h4
      have hk' : KR tb η m1 (shutD tb s1 id).κ κc := by rw [g1]; exact h3
      exact Step.imp (storeD1_step g3 hk' T fo' (R.mono (Le.refl _) h2 (.elt id j n1 off) ha) hb' h) (YX.pre (h1.trans g2) h2)
    · cases h
theorem appD_step (T : TabOk tb) {t t2 ty : TypeId} (fo' : fetch B n p i κc = some (o.dst, vS (Builtin.append_ #[t, t2] ty #[x, y]))) (ha : R tb η m a x) (hb : R tb η m b y) (h : appD P tb t t2 a b s k = some ans) : Step P B n p i κc w (YX tb bs η m o.dst s k ans κc) := by
  unfold appD at h
  split at h
  · rename_i e idb he
    split at h
    · rename_i kk hkk
      split at h
      · rename_i d hd
        cases hc : (Nat.beq t2 t && (Nat.beq d.t e && elC P t e (tb.rep d.n).sz)) with
        | false => rw [hc] at h; cases h
        | true =>
          rw [hc] at h
          simp only [cond_true] at h
          simp only [Bool.and_eq_true] at hc
          obtain ⟨c1, c2, c3⟩ := hc
          have c1 := beq_t c1
          have c2 := beq_t c2
          subst c1 c2
          obtain ⟨s1, s2, s3⟩ := shutA_ok T a hw
          have hk1 : KR tb η m (shutA tb s a).κ κc := by rw [s1]; exact hk
          split at h
          · rename_i l s4 hb4

            have hbase : Ext (shutA tb s a) s4 ∧ s4.κ = (shutA tb s a).κ ∧ Wd tb bs η m s4 w ∧ ∃ A c, x = .slice A l.length c ∧ St bs.w0 bs.F0 bs.m0 m (rowO (oD d.D d.tk) d.t A c l :: its tb η s4.σ) w := by
              unfold baseD at hb4
              split at hb4
              · cases hb4
                have ha : x = .slice none 0 0 := ha
                exact ⟨Ext.refl _, rfl, s3, none, 0, ha, s3.st.nilO _ _⟩
              · rename_i id
                split at hb4
                · rename_i st k' g j hl
                  cases hcc : (Nat.beq j id && Nat.beq k' kk) with
                  | false => rw [hcc] at hb4; cases hb4
                  | true =>
                    rw [hcc] at hb4
                    simp only [cond_true] at hb4
                    simp only [Bool.and_eq_true] at hcc
                    have e1 := beq_t hcc.1
                    have e2 := beq_t hcc.2
                    subst e1 e2
                    rw [hd] at hb4
                    simp only at hb4
                    split at hb4
                    · rename_i l' hl'
                      cases hb4
                      obtain ⟨en, e3⟩ := castL_some hl'
                      have : l = d.to g := e3
                      subst this
                      obtain ⟨A, c, h1, H⟩ := s3.deep T hl hd
                      rw [ha.1] at h1
                      exact ⟨Ext.del s3 j, rfl, s3.drop hl, A, c, Option.some.inj h1, H⟩
                    · cases hb4
                · cases hb4
              · cases hb4
            obtain ⟨b1, b2, b3, A, c, rfl, H⟩ := hbase
            split at h
            · rename_i st5 e5 cl hl5
              split at h
              · rename_i lk' σ6 x0 hkid hx0
                obtain ⟨yy, hyy, h⟩ := bindE h
                obtain ⟨gb, cs, q1, q2, H2⟩ := lit_ex (St_pull2 hl5 H)
                rw [hb.1] at q1
                cases q1
                have hcs := H2.blk 0 rfl
                obtain ⟨k1, A2, cc, k2, k3, k4⟩ := kidsA_ok hkid q2 (i := bigI [blkI gb cs e5, rowO (oD d.D d.tk) d.t A c l]) (St.big _ H2)
                have k5 := St.unbig (St_swap k4)
                have H3 : St bs.w0 bs.F0 bs.m0 m (rowO (oD d.D d.tk) d.t A c l :: rowI (tb.rep d.nk) d.tk A2 cc lk' :: its tb η σ6) w := St.drop0 k5
                have H4 := St_swap H3
                have H5 := St.oIt d.D (x := d.D.setk x0 lk') (d.D.gs _ _) k2 (But_of T hx0 k3 lk') H4
                obtain ⟨by_, z0, e1, e2, e3, e4, e6⟩ := elC_ok c3
                refine appOS (o := oD d.D d.tk) o.dst t2 d.t by_ z0 ty A (some ⟨gb, 0, none⟩) c 1 1 l yy (d.D.setk x0 lk') cs H5 e1 e2 e3 fo' (Cs.of_blk hcs).old rfl hyy e4 e6 ?_
                intro A' c1 w1 H6
                have hx1 : Ext s4 { s4 with σ := σ6 } := ⟨Nat.le_refl _, Nat.le_refl _, fun _ _ _ e _ => e, fun t st v e l => (lk_del (k1 t _ e)).2⟩
                have hw6 : Wd tb bs η m { s4 with σ := σ6 } w := ⟨b3.len, b3.le, by
                  have := H4.drop0.drop0
                  exact this, b3.gl⟩
                have hadd := hw6.add hw6.gl (x := .gen kk (d.of yy) s4.c) (u := .slice A' yy.length c1) (w' := w1) (St_conv H6 (fun F hF => deep_item T hd (at_new hw6 _) hF) (fun _ hF => hF))
                refine ⟨_, _, _, _, m, h, ((s2.trans b1).trans hx1).trans (Ext.add _ _), rfl, Le.app _ _, Sub.refl _, ⟨at_new hw6 _, rfl⟩, ?_, hadd⟩
                have : KR tb η m s4.κ κc := by rw [b2]; exact hk1
                exact this.mono (Le.app _ _) (Sub.refl _)
              · cases h
            · cases h
          · cases h
      · cases h
    · cases h
  · cases h
end
section
variable (P : Program) (tb : Tab) {ρ : Type}
def genI {T : Nat → Type} (s : S T) (id : Nat) : Bool := match lk s.σ id with
  | some (_, .gen _ _ _) => true
  | _ => false
def rowIt {T : Nat → Type} (s : S T) (id : Nat) : Bool := match lk s.σ id with
  | some (_, .row _ _ _) => true
  | _ => false
def slLike {T : Nat → Type} : AV T → Bool
  | .sl _ _ => true
  | .row _ => true
  | _ => false
def litDeep (s : S tb.T) (id : Nat) : Bool := match lk s.σ id with
  | some (_, .lit e 1 c) => (match tb.gcode e with
    | some kk => (match tb.dp kk with
      | some d => (match c[d.off]? with
        | some (.row _) => true
        | some .nils => true
        | _ => false)
      | none => false)
    | none => false)
  | _ => false
def litS (s : S tb.T) (id : Nat) : S tb.T := match litD tb s id with
  | some s' => s'
  | none => s
def deepApp (s : S tb.T) (a b : AV tb.T) : Bool := match a with
  | .row id => genI s id || (match lk s.σ id, b with
    | some (_, .lit e 1 _), .row idb => (match tb.gcode e, lk s.σ idb with
      | some kk, some (_, .lit _ 1 c) => (match tb.dp kk with
        | some d => (match c[d.off]? with
          | some (.row _) => true
          | some .nils => true
          | _ => false)
        | none => false)
      | _, _ => false)
    | _, _ => false)
  | .nils => match b with
    | .row idb => (match lk s.σ idb with
      | some (_, .lit e 1 c) => (match tb.gcode e with
        | some kk => (match tb.dp kk with
          | some d => (match c[d.off]? with
            | some (.row _) => true
            | some .nils => true
            | _ => false)
          | none => false)
        | none => false)
      | _ => false)
    | _ => false
  | _ => false
def isGen (o : Oper) (s : S tb.T) : Bool := match o.op with
  | .makeMap _ none => true
  | .lookup _ _ _ _ => true
  | .mapUpdate _ _ _ _ => true
  | .insert _ _ _ _ => true
  | .binOp _ t x y _ => match evA s.κ x, evA s.κ y with
    | some (.agg _), some (.agg _) => true
    | some a, some .nils => (slcE P t).isSome && slLike a
    | some .nils, some a => (slcE P t).isSome && slLike a
    | _, _ => false
  | .store _ x y => match evA s.κ x, evA s.κ y with
    | some (.elt id _ _ _), some (.agg _) => genI s id || rowIt s id
    | some (.elt id _ _ _), _ => genI s id
    | _, _ => false
  | .load _ x => match evA s.κ x with
    | some (.elt id _ _ _) => genI s id
    | _ => false
  | .indexAddr _ x _ => match evA s.κ x with
    | some (.row id) => genI s id || litDeep tb s id
    | _ => false
  | .call c => match c.callee with
    | .builtin .len => (match evL (evA s.κ) c.args.toList with
      | some [.row id] => genI s id
      | _ => false)
    | .builtin .append => (match evL (evA s.κ) c.args.toList with
      | some [a, b] => deepApp tb s a b
      | _ => false)
    | _ => false
  | _ => false
noncomputable def genR (o : Oper) (s : S tb.T) (k : KO tb.T ρ) : Option ρ := match o.op with
  | .makeMap t none => mkM tb t s k
  | .lookup t x y ok => match evA s.κ x, evA s.κ y with
    | some a, some b => lookM P tb t a b ok s k
    | _, _ => none
  | .mapUpdate t x y z => match evA s.κ x, evA s.κ y, evA s.κ z with
    | some a, some b, some c => mputM P tb t a b c s k
    | _, _, _ => none
  | .insert t x y z => match evA s.κ x, evA s.κ y, evA s.κ z with
    | some a, some b, some c => mputM P tb t a b c s k
    | _, _, _ => none
  | .binOp op t x y _ => match evA s.κ x, evA s.κ y with
    | some (.agg l), some (.agg l') => eqM P op t l l' (fun v => k v s)
    | some a, some .nils => cond (slcE P t).isSome (match emptyA tb s a with
      | some e => nilM tb op e s k
      | none => none) none
    | some .nils, some a => cond (slcE P t).isSome (match emptyA tb s a with
      | some e => nilM tb op e s k
      | none => none) none
    | _, _ => none
  | .store t x y => match evA s.κ x, evA s.κ y with
    | some (.elt id i n off), some a => cond (genI s id) (storeD P tb t id i n off a s k) (storeE P tb t id i n off a s k)
    | _, _ => none
  | .load t x => match evA s.κ x with
    | some (.elt id i n off) => loadD P tb t id i n off s k
    | _ => none
  | .indexAddr t x y => match evA s.κ x, evA s.κ y with
    | some (.row id), some b => idxD P tb t id b (litS tb s id) k
    | _, _ => none
  | .call c => match c.callee with
    | .builtin .len => (match evL (evA s.κ) c.args.toList, c.argTypes.toList with
      | some [.row id], [t] => lenD P tb t id s k
      | _, _ => none)
    | .builtin .append => (match evL (evA s.κ) c.args.toList, c.argTypes.toList with
      | some [a, b], [t, t2] => appD P tb t t2 a b s k
      | _, _ => none)
    | _ => none
  | _ => none
end
section
variable {P : Program} {tb : Tab} {bs : Bs} {η : List Value} {m : Mem} {s : S tb.T} {w : World} {κc : Kn} {B : Code} {n : Cx} {p : List Nat} {i : Nat} {o : Oper} {ρ' : Type} {k : KO tb.T ρ'} {ans : ρ'}
theorem genR_step (T : TabOk tb) (hw : Wd tb bs η m s w) (hk : KR tb η m s.κ κc) (fo : fetch B n p i κc = some (o.dst, execOp (evT κc) o)) (h : genR P tb o s k = some ans) :
    Step P B n p i κc w (YX tb bs η m o.dst s k ans κc) := by
  have fo2 := fo
  unfold genR at h
  split at h
  · rename_i t ho
    rw [exec_makeMap ho] at fo2
    exact mkM_step hw hk T fo2 h
  · rename_i t x y ok ho
    rw [exec_lookup ho] at fo2
    split at h
    · rename_i a b ha hb; exact lookM_step hw hk T fo2 (hk.ev _ _ ha) (hk.ev _ _ hb) h
    · cases h
  · rename_i t x y z ho
    rw [exec_mapUpdate ho] at fo2
    split at h
    · rename_i a b c ha hb hc; exact mputM_step hw hk T fo2 (hk.ev _ _ ha) (hk.ev _ _ hb) (hk.ev _ _ hc) h
    · cases h
  · rename_i t x y z ho
    rw [exec_insert ho] at fo2
    split at h
    · rename_i a b c ha hb hc; exact mputM_step hw hk T fo2 (hk.ev _ _ ha) (hk.ev _ _ hb) (hk.ev _ _ hc) h
    · cases h
  · rename_i op t x y yt ho
    rw [exec_binOp ho] at fo2
    split at h
    · rename_i l l' ha hb
      obtain ⟨v, h1, u, h2, h3⟩ := eqM_ok (q := x) (r := y) h (hk.ev _ _ ha) (hk.ev _ _ hb)
      exact runR fo2 (h2 w hw.st.has) ⟨v, s, u, η, m, h1, Ext.refl _, rfl, Le.refl _, Sub.refl _, h3, hk, hw⟩
    · rename_i a _ ha hb
      cases hc : (slcE P t).isSome with
      | false => rw [hc] at h; cases h
      | true =>
        rw [hc] at h
        simp only [cond_true] at h
        split at h
        · rename_i e he
          obtain ⟨A, l, c, e1, e2⟩ := emptyA_ok hw he (hk.ev _ _ ha)
          exact nilM_step hw hk hc fo2 ⟨A, l, c, .inl ⟨e1, hk.ev _ _ hb⟩, e2⟩ h
        · cases h
    · rename_i a _ _ ha hb
      cases hc : (slcE P t).isSome with
      | false => rw [hc] at h; cases h
      | true =>
        rw [hc] at h
        simp only [cond_true] at h
        split at h
        · rename_i e he
          obtain ⟨A, l, c, e1, e2⟩ := emptyA_ok hw he (hk.ev _ _ hb)
          exact nilM_step hw hk hc fo2 ⟨A, l, c, .inr ⟨hk.ev _ _ ha, e1⟩, e2⟩ h
        · cases h
    · cases h
  · rename_i t x y ho
    rw [exec_store ho] at fo2
    split at h
    · rename_i id j n1 off a ha hb
      cases hg : genI s id with
      | true => rw [hg] at h; exact storeD_step hw hk T fo2 (hk.ev _ _ ha) (hk.ev _ _ hb) h
      | false => rw [hg] at h; exact storeE_step T hw hk fo2 (hk.ev _ _ ha) (hk.ev _ _ hb) h
    · cases h
  · rename_i t x ho
    rw [exec_load ho] at fo2
    split at h
    · rename_i id j n1 off ha; exact loadD_step hw hk T fo2 (hk.ev _ _ ha) h
    · cases h
  · rename_i t x y ho
    rw [exec_indexAddr ho] at fo2
    split at h
    · rename_i id b ha hb
      have hl : (litS tb s id).κ = s.κ ∧ Ext s (litS tb s id) ∧ Wd tb bs η m (litS tb s id) w := by
        unfold litS
        split
        · rename_i s1 h1; exact litD_ok T h1 hw
        · exact ⟨rfl, Ext.refl _, hw⟩
      have hk' : KR tb η m (litS tb s id).κ κc := by rw [hl.1]; exact hk
      exact Step.imp (idxD_step hl.2.2 hk' T fo2 (hk.ev _ _ ha) (hk.ev _ _ hb) h) (YX.pre hl.2.1 (Sub.refl _))
    · cases h
  · rename_i c ho
    split at h
    · rename_i hc
      split at h
      · rename_i id t has hts
        have hr := evL_ok hk.ev has
        obtain ⟨x, e1, e2⟩ := hr.one
        have ht : c.argTypes = #[t] := by rw [← Array.toArray_toList (xs := c.argTypes), hts]
        have ha : c.args.map (evT κc) = #[x] := by apply Array.ext'; rw [Array.toList_map, e1]
        rw [exec_builtin ho hc, ht, ha] at fo2
        exact lenD_step hw hk T (ty := o.type) fo2 e2 h
      · cases h
    · rename_i hc
      split at h
      · rename_i a b t t2 has hts
        have hr := evL_ok hk.ev has
        obtain ⟨x, r, e1, e2, e3⟩ := hr
        obtain ⟨y, rfl, e4⟩ := e3.one
        have ht : c.argTypes = #[t, t2] := by rw [← Array.toArray_toList (xs := c.argTypes), hts]
        have ha : c.args.map (evT κc) = #[x, y] := by apply Array.ext'; rw [Array.toList_map, e1]
        rw [exec_builtin ho hc, ht, ha] at fo2
        exact appD_step hw hk T (ty := o.type) fo2 e2 e4 h
      · cases h
    · cases h
  · cases h
end
end Go.Proofs.YtkmhidggbnbaaaaGreatDoor.K.E
set_option linter.unusedVariables false
set_option linter.unusedSimpArgs false
set_option linter.unusedSectionVars false
namespace Go.Proofs.YtkmhidggbnbaaaaGreatDoor.K.E
open Go Go.RowKit
def UpSh (tb : Tab) (st st' : Nat) (sh : Sh) : Prop := ∀ (x : sh.ty tb.T) (a b : Nat), ∃ j, (up tb st sh x a).2.2 = a + j ∧ (up tb st' sh x b).2.2 = b + j ∧ ∀ (η η' : List Value), (∀ (i : Nat) (v : Value), η[a + i]? = some v → η'[b + i]? = some v) →
  (∀ (m : Mem) (vs : List Value), RL tb η m (up tb st sh x a).1 vs → RL tb η' m (up tb st' sh x b).1 vs) ∧ ∀ (m : Mem) (w : World) (F : Nat → Prop), Sep m w (its tb η (up tb st sh x a).2.1) F → Sep m w (its tb η' (up tb st' sh x b).2.1) F
section
variable {tb : Tab} {st st' : Nat}
theorem upsh_own {t : Nat} {s : Sh} (ih : UpSh tb st st' s) : UpSh tb st st' (.own t s) := by
  intro x a b
  obtain ⟨j, h1, h2, h3⟩ := ih x (a + 1) (b + 1)
  refine ⟨j + 1, ?_, ?_, fun η η' hη => ?_⟩
  · show (up tb st s x (a + 1)).2.2 = _; rw [h1]; omega
  · show (up tb st' s x (b + 1)).2.2 = _; rw [h2]; omega
  · obtain ⟨k1, k2⟩ := h3 η η' (fun i v e => by rw [show b + 1 + i = b + (i + 1) by omega]; exact hη (i + 1) v (by rw [show a + (i + 1) = a + 1 + i by omega]; exact e))
    refine ⟨fun m vs h => ?_, fun m w F h => ?_⟩
    · obtain ⟨v, rfl, g, e1, e2⟩ := RL.one (show RL tb η m [.ptr a 0] vs from h)
      exact RL.mk1 (a := .ptr b 0) ⟨g, hη 0 _ e1, e2⟩
    · obtain ⟨F1, F2, ⟨g, cs, e1, e2, e3⟩, e4, e5⟩ := h
      exact ⟨F1, F2, ⟨g, cs, hη 0 _ e1, k1 m cs e2, e3⟩, k2 m w F2 e4, e5⟩
theorem upsh_row {n t : Nat} : UpSh tb st st' (.row n t) := by
  intro x a b
  refine ⟨1, rfl, rfl, fun η η' hη => ⟨fun m vs h => ?_, fun m w F h => ?_⟩⟩
  · obtain ⟨v, rfl, e1, e2⟩ := RL.one (show RL tb η m [.row a] vs from h)
    exact RL.mk1 (a := .row b) ⟨hη 0 _ e1, e2⟩
  · obtain ⟨F1, F2, ⟨A, c, e1, e2⟩, e4, e5⟩ := h
    exact ⟨F1, F2, ⟨A, c, hη 0 _ e1, e2⟩, e4, e5⟩
theorem upsh_gen {n : Nat} : UpSh tb st st' (.gen n) := by
  intro x a b
  refine ⟨1, rfl, rfl, fun η η' hη => ⟨fun m vs h => ?_, fun m w F h => ?_⟩⟩
  · obtain ⟨v, rfl, e1, e2⟩ := RL.one (show RL tb η m [.row a] vs from h)
    exact RL.mk1 (a := .row b) ⟨hη 0 _ e1, e2⟩
  · obtain ⟨F1, F2, ⟨v, u, ⟨e1, e2⟩, e3⟩, e4, e5⟩ := h
    exact ⟨F1, F2, ⟨v, u, ⟨hη 0 _ e1, hη 0 _ e2⟩, e3⟩, e4, e5⟩
theorem upsh_agg {s : Sh} (ih : UpSh tb st st' s) : UpSh tb st st' (.agg s) := by
  intro x a b
  obtain ⟨j, h1, h2, h3⟩ := ih x a b
  refine ⟨j, h1, h2, fun η η' hη => ?_⟩
  obtain ⟨k1, k2⟩ := h3 η η' hη
  refine ⟨fun m vs h => ?_, k2⟩
  obtain ⟨v, rfl, cs, e1, e2⟩ := RL.one (show RL tb η m [.agg (up tb st s x a).1] vs from h)
  exact RL.mk1 (a := .agg (up tb st' s x b).1) ⟨cs, e1, k1 m cs e2⟩
theorem upsh_fn {f k : Nat} {s : Sh} (ih : UpSh tb st st' s) : UpSh tb st st' (.fn f k s) := by
  intro x a b
  obtain ⟨j, h1, h2, h3⟩ := ih x a b
  refine ⟨j, h1, h2, fun η η' hη => ?_⟩
  obtain ⟨k1, k2⟩ := h3 η η' hη
  refine ⟨fun m vs h => ?_, k2⟩
  obtain ⟨v, rfl, xs, ys, e1, e2, e3⟩ := RL.one (show RL tb η m [.fn f ((up tb st s x a).1.take k) ((up tb st s x a).1.drop k)] vs from h)
  have h4 := e2.app e3
  rw [List.take_append_drop] at h4
  have h5 := k1 m _ h4
  have hl1 := h4.len
  have hl2 := h5.len
  refine RL.mk1 (a := .fn f ((up tb st' s x b).1.take k) ((up tb st' s x b).1.drop k)) ⟨xs, ys, e1, ?_, ?_⟩
  · have h6 := h5.take k
    have e4 : xs.length = ((up tb st s x a).1.take k).length := e2.len
    rw [List.length_take] at e4
    by_cases hk : k ≤ (up tb st s x a).1.length
    · rwa [List.take_left' (by omega)] at h6
    · have : ys = [] := by
        have := e3.len
        rw [List.length_drop] at this
        exact List.length_eq_zero_iff.1 (by omega)
      subst this
      rw [List.append_nil] at h6
      rwa [List.take_of_length_le (by omega : xs.length ≤ k)] at h6
  · have h6 := h5.drop k
    have e4 : xs.length = ((up tb st s x a).1.take k).length := e2.len
    rw [List.length_take] at e4
    by_cases hk : k ≤ (up tb st s x a).1.length
    · rwa [List.drop_left' (by omega)] at h6
    · have : ys = [] := by
        have := e3.len
        rw [List.length_drop] at this
        exact List.length_eq_zero_iff.1 (by omega)
      subst this
      rw [List.append_nil] at h6
      rwa [List.drop_of_length_le (by omega : xs.length ≤ k)] at h6
theorem upsh_alt {a b : Sh} (iha : UpSh tb st st' a) (ihb : UpSh tb st st' b) : UpSh tb st st' (.alt a b) := by
  intro x
  cases x with
  | inl y => exact iha y
  | inr y => exact ihb y
theorem upsh_cons {hd r : Sh} (ih1 : UpSh tb st st' hd) (ih2 : UpSh tb st st' r) : UpSh tb st st' (.cons hd r) := by
  intro x a b
  unfold up
  simp only [Sh.ty] at x
  generalize hi : r.isNil = i at x ⊢
  cases i with
  | true => exact ih1 x a b
  | false =>
    obtain ⟨y, z⟩ := x
    obtain ⟨j, h1, h2, h3⟩ := ih1 y a b
    obtain ⟨j2, k1, k2, k3⟩ := ih2 z (a + j) (b + j)
    simp only [upC]
    generalize up tb st hd y a = u at h1 h3
    generalize up tb st' hd y b = u' at h2 h3
    obtain ⟨as, σ, c⟩ := u
    obtain ⟨as', σ', c'⟩ := u'
    simp only at h1 h2 h3
    subst h1 h2
    simp only
    generalize up tb st r z (a + j) = u at k1 k3
    generalize up tb st' r z (b + j) = u' at k2 k3
    obtain ⟨bs, τ, c⟩ := u
    obtain ⟨bs', τ', c'⟩ := u'
    simp only at k1 k2 k3 ⊢
    subst k1 k2
    refine ⟨j + j2, by omega, by omega, fun η η' hη => ?_⟩
    obtain ⟨q1, q2⟩ := h3 η η' hη
    obtain ⟨r1, r2⟩ := k3 η η' (fun i v e => by rw [Nat.add_assoc] at e ⊢; exact hη _ v e)
    refine ⟨fun m vs h => ?_, fun m w F h => ?_⟩
    · obtain ⟨v1, v2, rfl, e1, e2⟩ := h.inv
      exact (q1 m v1 e1).app (r1 m v2 e2)
    · rw [its_app] at h ⊢
      obtain ⟨F1, F2, e1, e2, e3⟩ := Sep.app.1 h
      exact Sep.app.2 ⟨F1, F2, q2 m w F1 e1, r2 m w F2 e2, e3⟩
theorem upsh_flat {sh : Sh} {l : sh.ty tb.T → List (AV tb.T)} (h : ∀ st x c, up tb st sh x c = (l x, [], c)) (hf : ∀ x (η η' : List Value) m vs, RL tb η m (l x) vs → RL tb η' m (l x) vs) : UpSh tb st st' sh := by
  intro x a b
  refine ⟨0, by rw [h]; rfl, by rw [h]; rfl, fun η η' hη => ⟨fun m vs hh => ?_, fun m w F hh => ?_⟩⟩
  · rw [h] at hh ⊢; exact hf x η η' m vs hh
  · rw [h] at hh ⊢; exact hh
theorem upsh {tb : Tab} (T : TabOk tb) (st st' : Nat) : ∀ sh : Sh, UpSh tb st st' sh
  | .i64 => upsh_flat (l := fun x => [.i64 x]) (fun _ _ _ => rfl) (fun _ _ _ _ _ h => h)
  | .u8 => upsh_flat (l := fun x => [.u8 x]) (fun _ _ _ => rfl) (fun _ _ _ _ _ h => h)
  | .u32 => upsh_flat (l := fun x => [.u32 x]) (fun _ _ _ => rfl) (fun _ _ _ _ _ h => h)
  | .u16 => upsh_flat (l := fun x => [.u16 x]) (fun _ _ _ => rfl) (fun _ _ _ _ _ h => h)
  | .u64 => upsh_flat (l := fun x => [.u64 x]) (fun _ _ _ => rfl) (fun _ _ _ _ _ h => h)
  | .bool => upsh_flat (l := fun x => [.bool x]) (fun _ _ _ => rfl) (fun _ _ _ _ _ h => h)
  | .str => upsh_flat (l := fun x => [.str x]) (fun _ _ _ => rfl) (fun _ _ _ _ _ h => h)
  | .nilp => upsh_flat (l := fun x => [.nilp]) (fun _ _ _ => rfl) (fun _ _ _ _ _ h => h)
  | .nl => upsh_flat (l := fun x => [.nils]) (fun _ _ _ => rfl) (fun _ _ _ _ _ h => h)
  | .sl n => upsh_flat (l := fun x => [.sl n x]) (fun _ _ _ => rfl) (fun _ _ _ _ _ h => h)
  | .row n t => upsh_row
  | .gen n => upsh_gen
  | .own t s => upsh_own (upsh T st st' s)
  | .agg s => upsh_agg (upsh T st st' s)
  | .fn f k s => upsh_fn (upsh T st st' s)
  | .alt a b => upsh_alt (upsh T st st' a) (upsh T st st' b)
  | .pt n => upsh_flat (l := fun x => [.cells 0 (tb.ex n x)]) (fun _ _ _ => rfl) (fun x η η' m vs h => let ⟨v, e, A, cs, e1, e2, e3⟩ := RL.one h; e ▸ RL.mk1 (a := .cells 0 (tb.ex n x)) ⟨A, cs, e1, e2, T.fl e3⟩)
  | .lit l => upsh_flat (l := fun x => [.str l]) (fun _ _ _ => rfl) (fun _ _ _ _ _ h => h)
  | .nil => upsh_flat (l := fun x => []) (fun _ _ _ => rfl) (fun _ _ _ _ _ h => h)
  | .cons h r => upsh_cons (upsh T st st' h) (upsh T st st' r)
theorem up_le (tb : Tab) (st : Nat) : ∀ (sh : Sh) (x : sh.ty tb.T) (c : Nat), c ≤ (up tb st sh x c).2.2
  | .i64, _, c => Nat.le_refl c
  | .u8, _, c => Nat.le_refl c
  | .u32, _, c => Nat.le_refl c
  | .u16, _, c => Nat.le_refl c
  | .u64, _, c => Nat.le_refl c
  | .bool, _, c => Nat.le_refl c
  | .str, _, c => Nat.le_refl c
  | .nilp, _, c => Nat.le_refl c
  | .nl, _, c => Nat.le_refl c
  | .lit _, _, c => Nat.le_refl c
  | .pt _, _, c => Nat.le_refl c
  | .sl _, _, c => Nat.le_refl c
  | .nil, _, c => Nat.le_refl c
  | .row n t, x, c => Nat.le_succ c
  | .gen n, x, c => Nat.le_succ c
  | .own t s, x, c => Nat.le_trans (Nat.le_succ c) (up_le tb st s x (c + 1))
  | .agg s, x, c => up_le tb st s x c
  | .fn _ _ s, x, c => up_le tb st s x c
  | .alt a b, x, c => match x with
    | .inl y => up_le tb st a y c
    | .inr y => up_le tb st b y c
  | .cons hd r, x, c => by
    unfold up
    simp only [Sh.ty] at x
    generalize hi : r.isNil = i at x ⊢
    cases i with
    | true => exact up_le tb st hd x c
    | false =>
      obtain ⟨y, z⟩ := x
      have h1 := up_le tb st hd y c
      simp only [upC]
      generalize up tb st hd y c = u at h1
      obtain ⟨as, σ, c1⟩ := u
      have h2 := up_le tb st r z c1
      simp only
      generalize up tb st r z c1 = u at h2
      obtain ⟨bs, τ, c2⟩ := u
      exact Nat.le_trans h1 h2
theorem up_st (tb : Tab) (st : Nat) : ∀ (sh : Sh) (x : sh.ty tb.T) (c : Nat), ∀ e ∈ (up tb st sh x c).2.1, e.2.1 = st
  | .i64, _, _ => by intro e h; cases h
  | .u8, _, _ => by intro e h; cases h
  | .u32, _, _ => by intro e h; cases h
  | .u16, _, _ => by intro e h; cases h
  | .u64, _, _ => by intro e h; cases h
  | .bool, _, _ => by intro e h; cases h
  | .str, _, _ => by intro e h; cases h
  | .nilp, _, _ => by intro e h; cases h
  | .nl, _, _ => by intro e h; cases h
  | .lit _, _, _ => by intro e h; cases h
  | .pt _, _, _ => by intro e h; cases h
  | .sl _, _, _ => by intro e h; cases h
  | .nil, _, _ => by intro e h; cases h
  | .row n t, x, c => by
    intro e h
    have h : e ∈ [(c, st, DI.row n t x)] := h
    rw [List.mem_singleton] at h; rw [h]
  | .gen n, x, c => by
    intro e h
    have h : e ∈ [(c, st, DI.gen n x c)] := h
    rw [List.mem_singleton] at h; rw [h]
  | .own t s, x, c => by
    intro e h
    have h : e ∈ (c, st, DI.blk t (up tb st s x (c + 1)).1) :: (up tb st s x (c + 1)).2.1 := h
    rw [List.mem_cons] at h
    exact h.elim (fun h => by rw [h]) (up_st tb st s x (c + 1) e)
  | .agg s, x, c => up_st tb st s x c
  | .fn _ _ s, x, c => up_st tb st s x c
  | .alt a b, x, c => match x with
    | .inl y => up_st tb st a y c
    | .inr y => up_st tb st b y c
  | .cons hd r, x, c => by
    unfold up
    simp only [Sh.ty] at x
    generalize hi : r.isNil = i at x ⊢
    cases i with
    | true => exact up_st tb st hd x c
    | false =>
      obtain ⟨y, z⟩ := x
      have h1 := up_st tb st hd y c
      simp only [upC]
      generalize up tb st hd y c = u at h1
      obtain ⟨as, σ, c1⟩ := u
      have h2 := up_st tb st r z c1
      simp only
      generalize up tb st r z c1 = u at h2
      obtain ⟨bs, τ, c2⟩ := u
      intro e h
      rw [List.mem_append] at h
      exact h.elim (h1 e) (h2 e)
theorem lk_mem {α : Type} : ∀ {l : List (Nat × Nat × α)} {t : Nat} {p : Nat × α}, lk l t = some p → (t, p) ∈ l
  | [], _, _, h => by cases h
  | (i, st, v) :: r, t, p, h => by
    simp only [lk] at h
    cases hb : Nat.beq i t with
    | true => rw [hb] at h; have := beq_t hb; subst this; cases h; exact List.mem_cons_self ..
    | false => rw [hb] at h; exact List.mem_cons_of_mem _ (lk_mem h)
theorem lk_app {α : Type} : ∀ {l r : List (Nat × Nat × α)} {t : Nat} {p : Nat × α}, lk (l ++ r) t = some p → lk l t = some p ∨ lk r t = some p
  | [], _, _, _, h => .inr h
  | (i, st, v) :: l, r, t, p, h => by
    simp only [List.cons_append, lk] at h ⊢
    cases hb : Nat.beq i t with
    | true => rw [hb] at h; exact .inl h
    | false => rw [hb] at h; exact lk_app h
theorem pk_sub : ∀ (sh : Sh) {as : List (AV tb.T)} {σ σ' : Sg tb.T} {x : sh.ty tb.T}, pk tb sh as σ = some (x, σ') → ∀ t p, lk σ' t = some p → lk σ t = some p
  | .i64, as, σ, σ', x, h => by unfold pk at h; split at h <;> cases h; exact fun _ _ e => e
  | .u8, as, σ, σ', x, h => by unfold pk at h; split at h <;> cases h; exact fun _ _ e => e
  | .u32, as, σ, σ', x, h => by unfold pk at h; split at h <;> cases h; exact fun _ _ e => e
  | .u16, as, σ, σ', x, h => by unfold pk at h; split at h <;> cases h; exact fun _ _ e => e
  | .u64, as, σ, σ', x, h => by unfold pk at h; split at h <;> cases h; exact fun _ _ e => e
  | .bool, as, σ, σ', x, h => by unfold pk at h; split at h <;> cases h; exact fun _ _ e => e
  | .str, as, σ, σ', x, h => by unfold pk at h; split at h <;> cases h; exact fun _ _ e => e
  | .nilp, as, σ, σ', x, h => by unfold pk at h; split at h <;> cases h; exact fun _ _ e => e
  | .nl, as, σ, σ', x, h => by unfold pk at h; split at h <;> cases h; exact fun _ _ e => e
  | .nil, as, σ, σ', x, h => by unfold pk at h; split at h <;> cases h; exact fun _ _ e => e
  | .sl n, as, σ, σ', x, h => by
    unfold pk at h
    split at h
    · split at h <;> cases h; exact fun _ _ e => e
    · cases h; exact fun _ _ e => e
    · cases h
  | .row n t, as, σ, σ', x, h => by
    unfold pk at h
    split at h
    · rename_i id
      split at h
      · rename_i n' t' l hl
        cases hb : Nat.beq t' t with
        | false => rw [hb] at h; cases h
        | true =>
          rw [hb] at h
          simp only [cond_true] at h
          split at h
          · obtain ⟨_, h'⟩ := Prod.mk.inj (Option.some.inj h)
            subst h'
            exact fun _ _ e => (lk_del e).2
          · cases h
      · rename_i t' k c hl
        cases hb : (Nat.beq t' t && Nat.ble k 137438953472) with
        | false => rw [hb] at h; cases h
        | true =>
          rw [hb] at h
          simp only [cond_true] at h
          split at h
          · obtain ⟨_, h'⟩ := Prod.mk.inj (Option.some.inj h)
            subst h'
            exact fun _ _ e => (lk_del e).2
          · cases h
      · cases h
    · cases h; exact fun _ _ e => e
    · cases h
  | .own t s, as, σ, σ', x, h => by
    obtain ⟨id, st', c, rfl, hl, h⟩ := pkOwn_some tb (show pkOwn tb t as σ (pk tb s) = some (x, σ') from h)
    exact fun t p e => (lk_del (pk_sub s h t p e)).2
  | .agg s, as, σ, σ', x, h => by
    obtain ⟨c, rfl, h⟩ := pkAgg_some tb (show pkAgg tb as (fun c => pk tb s c σ) = some (x, σ') from h)
    exact pk_sub s h
  | .fn f k s, as, σ, σ', x, h => by
    obtain ⟨l, c, rfl, hk, h⟩ := pkFn_some tb (show pkFn tb f k as (fun c => pk tb s c σ) = some (x, σ') from h)
    exact pk_sub s h
  | .gen n, as, σ, σ', x, h => by
    rcases pkGen_some tb (show pkGen tb n as σ = some (x, σ') from h) with ⟨id, st', rfl, hl, h2⟩ | ⟨d, rfl, hd, h1, h2⟩
    · have h2 : σ' = del σ id := h2
      subst h2
      exact fun _ _ e => (lk_del e).2
    · have h2 : σ' = σ := h2
      subst h2
      exact fun _ _ e => e
  | .pt n, as, σ, σ', x, h => by
    obtain ⟨l, rfl, hy, h2⟩ := pkPt_some tb (show pkPt tb n as σ = some (x, σ') from h)
    have h2 : σ' = σ := h2
    subst h2
    exact fun _ _ e => e
  | .lit l, as, σ, σ', x, h => by
    unfold pk at h; split at h
    · rename_i y
      cases hb : (y == l) with
      | false => rw [hb] at h; cases h
      | true => rw [hb] at h; cases h; exact fun _ _ e => e
    · cases h
  | .alt a b, as, σ, σ', x, h => by
    rcases pkAlt_some (show pkAlt (pk tb a as σ) (fun _ => pk tb b as σ) = some (x, σ') from h) with ⟨y, h1, _⟩ | ⟨y, h1, _⟩
    · exact pk_sub a h1
    · exact pk_sub b h1
  | .cons hd r, as, σ, σ', x, h => by
    obtain ⟨a, as, rfl, hh⟩ := pkCons_some tb (show pkCons tb r.isNil as σ (pk tb hd) (pk tb r) = some (x, σ') from h)
    clear h
    have h := hh
    clear hh
    unfold pkC at h
    cases h1 : pk tb hd [a] σ with
    | none => rw [h1] at h; cases h
    | some q =>
      obtain ⟨y, σ1⟩ := q
      rw [h1] at h
      simp only [Sh.ty] at x h
      generalize hi : r.isNil = i at x h
      cases i with
      | true =>
        cases hb : as.isEmpty with
        | false => simp only [hb] at h; cases h
        | true =>
          simp only [hb, cond_true, Option.some.injEq, Prod.mk.injEq] at h
          obtain ⟨_, rfl⟩ := h
          exact pk_sub hd h1
      | false =>
        simp only at h
        cases h2 : pk tb r as σ1 with
        | none => rw [h2] at h; cases h
        | some q2 =>
          obtain ⟨z, σ2⟩ := q2
          rw [h2] at h
          simp only [Option.some.injEq, Prod.mk.injEq] at h
          obtain ⟨_, rfl⟩ := h
          exact fun t p e => pk_sub hd h1 t p (pk_sub r h2 t p e)
end
section
variable (tb : Tab)
def needF : Sh → List (AV tb.T) → Sg tb.T → Option Nat
  | .sl _, as, _ => match as with
    | [.row id] => some id
    | _ => none
  | .pt _, as, _ => match as with
    | [.ptr id 0] => some id
    | _ => none
  | .agg s, as, σ => match as with
    | [.agg l] => needF s l σ
    | _ => none
  | .fn _ _ s, as, σ => match as with
    | [.fn _ l c] => needF s (l ++ c) σ
    | _ => none
  | .own _ s, as, σ => match as with
    | [.ptr id _] => match lk σ id with
      | some (_, .blk _ c) => needF s c σ
      | _ => none
    | _ => none
  | .alt a b, as, σ => match needF a as σ with
    | some id => some id
    | none => needF b as σ
  | .cons h r, as, σ => match as with
    | [] => none
    | a :: as => match needF h [a] σ with
      | some id => some id
      | none => needF r as σ
  | _, _, _ => none
def needG : Sh → List (AV tb.T) → Sg tb.T → Option Nat
  | .gen _, as, σ => match as with
    | [.row id] => match lk σ id with
      | some (_, .lit _ _ _) => some id
      | _ => none
    | _ => none
  | .agg s, as, σ => match as with
    | [.agg l] => needG s l σ
    | _ => none
  | .own _ s, as, σ => match as with
    | [.ptr id _] => match lk σ id with
      | some (_, .blk _ c) => needG s c σ
      | _ => none
    | _ => none
  | .cons h r, as, σ => match as with
    | [] => none
    | a :: as => match needG h [a] σ with
      | some id => some id
      | none => needG r as σ
  | _, _, _ => none
def innr (s : S tb.T) (id : Nat) : Nat := match lk s.σ id with
  | some (_, .lit _ _ c) => match rowInL c with
    | some j => j
    | none => id
  | some (_, .blk _ c) => match rowInL c with
    | some j => j
    | none => id
  | _ => id
def prepF0 (sh : Sh) : Nat → List (AV tb.T) → S tb.T → Option (List (AV tb.T) × S tb.T)
  | 0, _, _ => none
  | f + 1, as, s => match needG tb sh as s.σ with
    | some id => match litD tb s id with
      | some s' => prepF0 sh f as s'
      | none => none
    | none => match needF tb sh as s.σ with
      | none => some (as, s)
      | some id => match frz tb s (innr tb s id) with
        | some (b, s') => prepF0 sh f (subL (innr tb s id) b as) s'
        | none => none
def prepF (sh : Sh) (f : Nat) (as : List (AV tb.T)) (s : S tb.T) : Option (List (AV tb.T) × S tb.T) := prepF0 tb sh f as (closeAll tb s)
variable {tb} {bs : Bs} {w : World} {κc : Kn}
theorem prepF0_ok (T : TabOk tb) (sh : Sh) : ∀ (f : Nat) {a a' : List (AV tb.T)} {s s' : S tb.T} {η : List Value} {m : Mem}, prepF0 tb sh f a s = some (a', s') → Wd tb bs η m s w → KR tb η m s.κ κc → ∀ {vs : List Value}, RL tb η m a vs → FzPost tb bs s s' η m κc w a' vs
  | 0, a, a', s, s', η, m, h, hw, hk, vs, hr => by cases h
  | f + 1, a, a', s, s', η, m, h, hw, hk, vs, hr => by
    simp only [prepF0] at h
    split at h
    · rename_i id hid
      split at h
      · rename_i s1 hl
        obtain ⟨e1, e2, e3⟩ := litD_ok T hl hw
        have hk1 : KR tb η m s1.κ κc := by rw [e1]; exact hk
        exact FzPost.step e2 (Sub.refl _) (prepF0_ok T sh f h e3 hk1 hr)
      · cases h
    · split at h
      · cases h; exact ⟨Ext.refl _, m, Sub.refl _, hk, hw, hr⟩
      · rename_i id hid
        split at h
        · rename_i b s1 hf
          obtain ⟨h1, m1, h2, h3, h4, h5⟩ := frz_ok T hf hw hk
          exact FzPost.step h1 h2 (prepF0_ok T sh f h h4 h3 (subL_ok (Le.refl _) h2 h5 a hr))
        · cases h
theorem prepF_ok (T : TabOk tb) (sh : Sh) (f : Nat) {a a' : List (AV tb.T)} {s s' : S tb.T} {η : List Value} {m : Mem} (h : prepF tb sh f a s = some (a', s')) (hw : Wd tb bs η m s w) (hk : KR tb η m s.κ κc) {vs : List Value} (hr : RL tb η m a vs) : FzPost tb bs s s' η m κc w a' vs := by
  obtain ⟨e1, e2, e3⟩ := closeL_ok T (holesL tb s.σ) hw
  have hk1 : KR tb η m (closeAll tb s).κ κc := by unfold closeAll; rw [e1]; exact hk
  exact FzPost.step e2 (Sub.refl _) (prepF0_ok T sh f h e3 hk1 hr)
end
structure Con (T : Nat → Type) where
  f : FuncId
  ar : Sh
  os : Sh
  nr : Nat
  bk : List (Nat × TypeId)
  rk : List Nat
  F : ar.ty T → Option (os.ty T)
def resA {T : Nat → Type} (l : List (AV T)) : AV T := match l with
  | [a] => a
  | l => .tup l
def bkI {T : Nat → Type} (as : List (AV T)) (st : Nat) : List (Nat × TypeId) → List (AV T) → Sg T
  | (j, t) :: bk, b :: bs => match as[j]?, b with
    | some (.ptr id _), .agg c => (id, st, .blk t c) :: bkI as st bk bs
    | _, _ => bkI as st bk bs
  | _, _ => []
def ptrOf : Value → Option Nat
  | .pointer (some a) => some a.block
  | _ => none
def bkV (vs : List Value) : List (Nat × TypeId) → List Value → List Item
  | (j, t) :: bk, b :: bs => match vs[j]?.bind ptrOf, b with
    | some g, .agg cs => blkI g cs.toList t :: bkV vs bk bs
    | _, _ => bkV vs bk bs
  | _, _ => []
def CallTo (P : Program) (f : FuncId) (args : Array Value) (w : World) (Φ : Value → World → Prop) : Prop :=
  ((callFunc f args).run P w = .ok (.enter f args) w ∧ Calls P f args w fun e w' => ∃ v, e = .returned v ∧ Φ v w') ∨ ∃ v w', (callFunc f args).run P w = .ok (.value v) w' ∧ Φ v w'
def ConOk (P : Program) (tb : Tab) (cn : Con tb.T) : Prop := ∀ (st : Nat) (x : cn.ar.ty tb.T) (y : cn.os.ty tb.T), cn.F x = some y → ∀ (η : List Value) (m : Mem) (w : World) (F : Nat → Prop) (vals : List Value),
  RL tb η m (up tb st cn.ar x 0).1 vals → η.length = (up tb st cn.ar x 0).2.2 → Has m w → Glob tb m → Sep m w (its tb η (up tb st cn.ar x 0).2.1) F → (∀ k, F k → m k = none) →
  CallTo P cn.f vals.toArray w fun v w' => ∃ (η2 : List Value) (m' : Mem) (rv bv : List Value), v = packV rv ∧ rv.length = cn.nr ∧ RL tb (η ++ η2) m' (up tb st cn.os y η.length).1 (rv ++ bv) ∧ (η ++ η2).length = (up tb st cn.os y η.length).2.2 ∧
    St w F m m' (bkV vals cn.bk bv ++ its tb (η ++ η2) (up tb st cn.os y η.length).2.1) w' ∧ bv.drop cn.bk.length = cn.rk.map (fun j => vals[j]?.getD undef)
def backS {T : Nat → Type} (avs : List (AV T)) : List Nat → List (AV T) → S T → S T
  | j :: rk, a :: as, s => match avs[j]?, a with
    | some (.row id), .row id' => backS avs rk as (chg s id (.row id'))
    | _, _ => backS avs rk as s
  | _, _, s => s
section
variable (tb : Tab) {ρ : Type}
def runC (cn : Con tb.T) (avs : List (AV tb.T)) (s : S tb.T) (x : cn.ar.ty tb.T) (σ' : Sg tb.T) (k : KO tb.T ρ) : Option ρ := (cn.F x).bind fun y => split cn.os y fun y => match up tb s.d cn.os y s.c with
  | (as, σo, c') => k (resA (as.take cn.nr)) (backS avs cn.rk (as.drop (cn.nr + cn.bk.length)) { κ := s.κ, σ := bkI avs s.d cn.bk (as.drop cn.nr) ++ (σo ++ σ'), c := c', d := s.d + 1 })
def tryC (f : FuncId) (avs : List (AV tb.T)) (s : S tb.T) (k : KO tb.T ρ) : List (Con tb.T) → Option ρ
  | [] => none
  | cn :: r => cond (Nat.beq cn.f f) (match prepF0 tb cn.ar 20 avs s with
    | some (avs', s') => match pk tb cn.ar avs' s'.σ with
      | some (x, σ') => runC tb cn avs' s' x σ' k
      | none => tryC f avs s k r
    | none => tryC f avs s k r) (tryC f avs s k r)
end
section
variable {P : Program} {tb : Tab} {bs : Bs} {η : List Value} {m : Mem} {s : S tb.T} {w : World} {κc : Kn} {B : Code} {n : Cx} {p : List Nat} {i : Nat} {d : Option Nat} {ρ' : Type} {k : KO tb.T ρ'} {ans : ρ'}
theorem bk_ok {η : List Value} {m m' : Mem} {w : World} {as : List (AV tb.T)} {vs : List Value} {st : Nat} (h : RL tb η m as vs) {η' : List Value} (hη : Le η η') : ∀ (bk : List (Nat × TypeId)) {bs : List (AV tb.T)} {bv : List Value}, RL tb η' m' bs bv → ∀ {F : Nat → Prop}, Sep m' w (bkV vs bk bv) F → ∃ F', (∀ k, F' k → F k) ∧ Sep m' w (its tb η' (bkI as st bk bs)) F'
  | [], bs, bv, hr, F, hs => ⟨fun _ => False, fun _ e => e.elim, fun _ e => e⟩
  | (j, t) :: bk, [], bv, hr, F, hs => ⟨fun _ => False, fun _ e => e.elim, fun _ e => e⟩
  | (j, t) :: bk, b :: bs, bv, ⟨v, r, h1, h2, h3⟩, F, hs => by
    subst h1
    simp only [bkI]
    have skip : ∀ {F : Nat → Prop}, Sep m' w (bkV vs ((j, t) :: bk) (v :: r)) F → ∃ F1, (∀ k, F1 k → F k) ∧ Sep m' w (bkV vs bk r) F1 := by
      intro F hs
      simp only [bkV] at hs
      split at hs
      · obtain ⟨F1, F2, e1, e2, e3, e4⟩ := hs
        exact ⟨F2, fun k e => (e4 k).2 (.inr e), e2⟩
      · exact ⟨F, fun _ e => e, hs⟩
    split
    · rename_i id o c hj
      obtain ⟨u, hu, g, e1, e2⟩ := h.get hj
      obtain ⟨cs, e3, e4⟩ := h2
      subst e3
      simp only [bkV, hu, e2, Option.bind_some, ptrOf] at hs
      obtain ⟨F1, F2, k1, k2, k3, k4⟩ := hs
      obtain ⟨F', q1, q2⟩ := bk_ok h hη bk h3 k2
      exact ⟨fun k => F1 k ∨ F' k, fun k e => (k4 k).2 (e.elim .inl (fun e => .inr (q1 k e))), F1, F', ⟨g, cs, hη _ _ e1, e4, by simpa using k1⟩, q2, fun k a b => k3 k a (q1 k b), fun k => Iff.rfl⟩
    · obtain ⟨F1, q1, q2⟩ := skip hs
      obtain ⟨F', r1, r2⟩ := bk_ok h hη bk h3 q2
      exact ⟨F', fun k e => q1 k (r1 k e), r2⟩
theorem bk_lk {as : List (AV tb.T)} {st : Nat} : ∀ (bk : List (Nat × TypeId)) (bs : List (AV tb.T)) {t : Nat} {p : Nat × DI tb.T}, lk (bkI as st bk bs) t = some p → p.1 = st
  | [], _, _, _, h => by cases h
  | (j, ty) :: bk, [], _, _, h => by cases h
  | (j, ty) :: bk, b :: bs, t, p, h => by
    simp only [bkI] at h
    split at h
    · rename_i id o c _
      simp only [lk] at h
      cases hb : Nat.beq id t with
      | true => rw [hb] at h; cases h; rfl
      | false => rw [hb] at h; exact bk_lk bk bs h
    · exact bk_lk bk bs h
theorem resA_ok {l : List (AV tb.T)} {vs : List Value} (h : RL tb η m l vs) : R tb η m (resA l) (packV vs) := by
  unfold resA
  split
  · obtain ⟨v, rfl, hv⟩ := h.one
    exact hv
  · rename_i hne
    refine ⟨vs, ?_, h⟩
    have hl := h.len
    match vs with
    | [] => rfl
    | [v] =>
      exfalso
      match l with
      | [] => simp at hl
      | [a] => exact hne a rfl
      | a :: b :: r => simp at hl
    | u :: v :: r => rfl
theorem backS_ok {avs : List (AV tb.T)} {vals : List Value} (ha : RL tb η m avs vals) {w' : World} : ∀ (rk : List Nat) {as : List (AV tb.T)} {vs : List Value} {s : S tb.T}, RL tb η m as vs → vs = rk.map (fun j => vals[j]?.getD undef) → Wd tb bs η m s w' → KR tb η m s.κ κc →
    Ext s (backS avs rk as s) ∧ Wd tb bs η m (backS avs rk as s) w' ∧ KR tb η m (backS avs rk as s).κ κc
  | [], as, vs, s, _, _, hw, hk => by cases as <;> exact ⟨Ext.refl _, hw, hk⟩
  | j :: rk, [], vs, s, _, _, hw, hk => ⟨Ext.refl _, hw, hk⟩
  | j :: rk, a :: as, vs, s, ⟨v, r, e1, e2, e3⟩, h, hw, hk => by
    subst e1
    rw [List.map_cons, List.cons.injEq] at h
    obtain ⟨h1, h2⟩ := h
    unfold backS
    split
    · rename_i id id' hj
      obtain ⟨u, hu, hr⟩ := ha.get hj
      rw [hu, Option.getD_some] at h1
      subst h1
      have hx : St bs.w0 bs.F0 bs.m0 m (its tb η (del s.σ id)) w' := St_sub hw.st fun F hF => its_del s.σ id hF
      obtain ⟨k1, k2⟩ := chg_ok (b := .row id') hw hk (Sub.refl _) hx ⟨fun u ⟨q1, q2⟩ => by
        have := hr.1
        rw [this] at q1
        cases q1
        exact e2, fun o v e => e⟩
      obtain ⟨g1, g2, g3⟩ := backS_ok ha rk e3 h2 k2 k1
      exact ⟨chg_ext.trans g1, g2, g3⟩
    · exact backS_ok ha rk e3 h2 hw hk
theorem runC_step (T : TabOk tb) (hw : Wd tb bs η m s w) (hk : KR tb η m s.κ κc) {cn : Con tb.T} (hok : ConOk P tb cn) {avs : List (AV tb.T)} {vals : List Value} (fo : fetch B n p i κc = some (d, callFunc cn.f vals.toArray)) (ha : RL tb η m avs vals)
    {x : cn.ar.ty tb.T} {σ' : Sg tb.T} (hp : pk tb cn.ar avs s.σ = some (x, σ')) (h : runC tb cn avs s x σ' k = some ans) : Step P B n p i κc w (YX tb bs η m d s k ans κc) := by
  unfold runC at h
  obtain ⟨y, hy, h⟩ := bindE h
  rw [split_eq] at h
  obtain ⟨F, f1, f2, f3⟩ := hw.st.sep
  obtain ⟨η1, e1, e2, F1, F2, e3, e4, e5, e6⟩ := pk_ok T s.d cn.ar hp ha f1 []
  simp only [List.nil_append] at e1 e2 e3
  have H0 : St bs.w0 bs.F0 bs.m0 m (its tb η1 (up tb s.d cn.ar x 0).2.1 ++ its tb η σ') w :=
    ⟨hw.st.kp, hw.st.sub, hw.st.has, hw.st.new, fun k => F1 k ∨ F2 k, Sep.app.2 ⟨F1, F2, e3, e4, e5, fun k => Iff.rfl⟩, fun k e => f2 k (e6 k e), fun k e => f3 k (e6 k e)⟩
  obtain ⟨F', g1, g2, g3⟩ := St.call _ H0
  have hc := hok s.d x y hy η1 m w F' vals e2 e1.symm hw.st.has hw.gl g1 g2
  have fin : ∀ v w', (∃ (η2 : List Value) (m' : Mem) (rv bv : List Value), v = packV rv ∧ rv.length = cn.nr ∧ RL tb (η1 ++ η2) m' (up tb s.d cn.os y η1.length).1 (rv ++ bv) ∧ (η1 ++ η2).length = (up tb s.d cn.os y η1.length).2.2 ∧
      St w F' m m' (bkV vals cn.bk bv ++ its tb (η1 ++ η2) (up tb s.d cn.os y η1.length).2.1) w' ∧ bv.drop cn.bk.length = cn.rk.map (fun j => vals[j]?.getD undef)) → YX tb bs η m d s k ans κc (putk d v κc) w' := by
    rintro v w' ⟨η2, m', rv, bv, rfl, hn, q1, q2, q3, q4⟩
    have H2 := g3 m' _ w' q3
    obtain ⟨j, j1, j2, j3⟩ := upsh T s.d s.d cn.os y η1.length s.c
    obtain ⟨k1, k2⟩ := j3 (η1 ++ η2) (η ++ η2) (fun i v e => by
      rw [List.getElem?_append_right (by omega), Nat.add_sub_cancel_left] at e
      rw [← hw.len, List.getElem?_append_right (by omega), Nat.add_sub_cancel_left]
      exact e)
    have hr := k1 m' _ q1
    rw [List.length_append, j1] at q2
    have hsub : Sub m m' := q3.sub
    generalize hu : up tb s.d cn.os y s.c = u at h hr j2 k2
    obtain ⟨as, σo, c'⟩ := u
    simp only at h hr j2 k2
    obtain ⟨v1, v2, ev, hr1, hr2⟩ : ∃ v1 v2, rv ++ bv = v1 ++ v2 ∧ RL tb (η ++ η2) m' (as.take cn.nr) v1 ∧ RL tb (η ++ η2) m' (as.drop cn.nr) v2 := RL.inv (by rw [List.take_append_drop]; exact hr)
    have hlen := hr.len
    have hl1 := hr1.len
    rw [List.length_take] at hl1
    have hv : v1 = rv ∧ v2 = bv := by
      rw [List.length_append, hn] at hlen
      have : v1.length = rv.length := by omega
      exact (List.append_inj ev.symm this)
    obtain ⟨rfl, rfl⟩ := hv
    have hS : Ext s { κ := s.κ, σ := bkI avs s.d cn.bk (as.drop cn.nr) ++ (σo ++ σ'), c := c', d := s.d + 1 } := by
      refine ⟨?_, Nat.le_succ _, fun _ _ _ e _ => e, ?_⟩
      · show s.c ≤ c'; omega
      · intro t st v e l
        rcases lk_app e with e | e
        · have := bk_lk _ _ e
          simp only at this
          omega
        · rcases lk_app e with e | e
          · have h9 := up_st tb s.d cn.os y s.c
            rw [hu] at h9
            have := h9 _ (lk_mem e)
            simp only at this
            omega
          · exact pk_sub cn.ar hp _ _ e
    have hW : Wd tb bs (η ++ η2) m' { κ := s.κ, σ := bkI avs s.d cn.bk (as.drop cn.nr) ++ (σo ++ σ'), c := c', d := s.d + 1 } w' := by
      refine ⟨?_, hw.le.trans (Le.app _ _), ?_, Glob.mono hw.gl hsub⟩
      · show (η ++ η2).length = c'
        rw [List.length_append, hw.len]; omega
      · refine St_sub H2 fun F hF => ?_
        obtain ⟨G1, G2, t1, t2, t3, t4⟩ := Sep.app.1 hF
        obtain ⟨G3, G4, t5, t6, t7, t8⟩ := Sep.app.1 t1
        obtain ⟨G5, t9, t10⟩ := bk_ok (st := s.d) ha (Le.app η η2) cn.bk hr2 t5
        have t11 := k2 m' w' G4 t6
        have t12 := its_le (Le.app η η2) σ' t2
        refine ⟨fun k => G5 k ∨ (G4 k ∨ G2 k), fun k e => (t4 k).2 (e.elim (fun e => .inl ((t8 k).2 (.inl (t9 k e)))) (fun e => e.elim (fun e => .inl ((t8 k).2 (.inr e))) .inr)), ?_⟩
        rw [its_app, its_app]
        refine Sep.app.2 ⟨G5, fun k => G4 k ∨ G2 k, t10, Sep.app.2 ⟨G4, G2, t11, t12, fun k a b => t3 k ((t8 k).2 (.inr a)) b, fun k => Iff.rfl⟩, ?_, fun k => Iff.rfl⟩
        intro k a b
        exact b.elim (t7 k (t9 k a)) (t3 k ((t8 k).2 (.inl (t9 k a))))
    have hr3 : RL tb (η ++ η2) m' (as.drop (cn.nr + cn.bk.length)) (v2.drop cn.bk.length) := by
      rw [← List.drop_drop]; exact hr2.drop _
    obtain ⟨z1, z2, z3⟩ := backS_ok (κc := κc) (RL.mono (Le.app η η2) hsub avs ha) cn.rk hr3 q4 hW (hk.mono (Le.app _ _) hsub)
    exact ⟨_, _, packV v1, η ++ η2, m', h, hS.trans z1, rfl, Le.app _ _, hsub, resA_ok hr1, z3, z2⟩
  rcases hc with ⟨r1, r2⟩ | ⟨v, w', r1, r2⟩
  · exact enterR fo r1 r2 fin
  · exact runR fo r1 (fin v w' r2)
theorem tryC_step (T : TabOk tb) (hw : Wd tb bs η m s w) (hk : KR tb η m s.κ κc) {f : FuncId} {avs : List (AV tb.T)} {vals : List Value} (fo : fetch B n p i κc = some (d, callFunc f vals.toArray)) (ha : RL tb η m avs vals) : ∀ (cs : List (Con tb.T)), (∀ cn ∈ cs, ConOk P tb cn) → tryC tb f avs s k cs = some ans → Step P B n p i κc w (YX tb bs η m d s k ans κc)
  | [], _, h => by cases h
  | cn :: r, hc, h => by
    have next := tryC_step T hw hk fo ha r (fun c hm => hc c (List.mem_cons_of_mem _ hm))
    simp only [tryC] at h
    cases hb : Nat.beq cn.f f with
    | false => rw [hb] at h; exact next h
    | true =>
      have := beq_t hb
      subst this
      rw [hb] at h
      simp only [cond_true] at h
      split at h
      · rename_i avs' s1 hp
        split at h
        · rename_i x σ' hpk
          obtain ⟨h1, m1, h2, h3, h4, h5⟩ := prepF0_ok T cn.ar 20 hp hw hk ha
          exact Step.imp (runC_step T h4 h3 (hc cn (List.mem_cons_self ..)) fo h5 hpk h) (YX.pre h1 h2)
        · exact next h
      · exact next h
end
end Go.Proofs.YtkmhidggbnbaaaaGreatDoor.K.E
set_option linter.unusedVariables false
set_option linter.unusedSimpArgs false
set_option linter.unusedSectionVars false
namespace Go.Proofs.YtkmhidggbnbaaaaGreatDoor.K.E
open Go Go.RowKit
def cpy {α : Type} (l x : List α) : List α := x.take l.length ++ l.drop x.length
theorem cpy_len {α : Type} (l x : List α) : (cpy l x).length = l.length := by
  unfold cpy
  rw [List.length_append, List.length_take, List.length_drop]
  omega
section
variable {P : Program} {B : Code} {n : Cx} {p : List Nat} {i : Nat} {κ : Kn} {w : World} {w0 : World} {F0 : Nat → Prop} {m0 m : Mem} {σ : List Item} {Z : Kn → World → Prop}
theorem copyS {α : Type} {r : Rep α} (d : Option Nat) {dT sT ty e et : TypeId} (n' : Nat) {A C : Option Addr} {c c2 : Nat} {l x : List α} (H : St w0 F0 m0 m σ w) (hn : σ[n']? = some (rowI r et A c l)) (hx : SlI r m C c2 x) (hu : P.underlying dT = some (.slice e)) (hs : (P.info? e).map (·.size) = some 1) (hr : r.sz = 1)
    (ho : fetch B n p i κ = some (d, vS (Builtin.copy_ #[dT, sT] ty #[.slice A l.length c, .slice C x.length c2])))
    (hk : ∀ w1, St w0 F0 m0 m (σ.set n' (rowI r et A c (cpy l x))) w1 → Z (putk d (.int .i64 ((Nat.min x.length l.length : Nat) : Int)) κ) w1) : Step P B n p i κ w Z := by
  obtain ⟨F, ⟨⟨xs, h1, ho1⟩, hF⟩, h2, h3⟩ := H.upd n' hn
  obtain ⟨ys, g1, g2⟩ := hx.cs
  have hl1 := h1.len
  have hl2 := g1.len
  rw [hr, Nat.mul_one] at hl1 hl2
  by_cases h0 : Nat.min x.length l.length = 0
  · have hc : cpy l x = l := by
      unfold cpy
      rcases Nat.min_eq_zero_iff.1 h0 with e1 | e1
      · have := List.eq_nil_of_length_eq_zero e1
        subst this
        simp
      · have := List.eq_nil_of_length_eq_zero e1
        subst this
        simp
    refine runR ho (vS_run (run_copy_none w dT sT ty e A C l.length c x.length c2 hu hs h0)) ?_
    have := hk w (by
      rw [hc]
      have he : σ.set n' (rowI r et A c l) = σ := List.ext_getElem? fun j => by
        by_cases ej : j = n'
        · subst ej
          rw [List.getElem?_set_self (List.getElem?_eq_some_iff.1 hn).1, hn]
        · rw [List.getElem?_set_ne (Ne.symm ej)]
      rw [he]
      exact H)
    rw [h0] at this
    exact this
  · have hpx : 0 < x.length := by
      rcases Nat.eq_zero_or_pos x.length with e1 | e1
      · exact absurd (by rw [e1]; exact Nat.min_eq_zero_iff.2 (Or.inl rfl)) h0
      · exact e1
    have hpl : 0 < l.length := by
      rcases Nat.eq_zero_or_pos l.length with e1 | e1
      · exact absurd (by rw [e1]; exact Nat.min_eq_zero_iff.2 (Or.inr rfl)) h0
      · exact e1
    obtain ⟨hxs, hown⟩ := ho1
    rcases hown with ⟨_, e1⟩ | ⟨g, cap, cur, hv, hb, hg, k1, k2, k3, k4⟩
    · omega
    cases hv
    have hC : ∃ ad, C = some ad := by
      obtain ⟨ad, e1, _⟩ := g2 0 (ys[0]'(by omega)) (List.getElem?_eq_getElem _)
      exact ⟨ad, e1⟩
    obtain ⟨ad, rfl⟩ := hC
    have hcl : (ys.take l.length).length = Nat.min x.length l.length := by rw [List.length_take, hl2, Nat.min_comm]
    have hmin : Nat.min x.length l.length ≤ l.length := Nat.min_le_right _ _
    have hrun := run_copy_row (P := P) w dT sT ty e g 0 l.length c ad x.length c2 cur et (ys.take l.length) hu hs hg hcl (by
      intro j v hj
      have hj' : ys[j]? = some v := by
        rw [List.getElem?_take] at hj
        split at hj
        · exact hj
        · cases hj
      obtain ⟨ad', e1, e2⟩ := g2 j v hj'
      cases e1
      exact H.has.cell e2) (by rw [hcl, k3, hr]; omega) (fun v hv => g1.one v (List.mem_of_mem_take hv))
    refine runR ho (vS_run hrun) ?_
    rw [hcl]
    refine hk _ (h3 _ (rowI r et (some ⟨g, 0, none⟩) c (cpy l x)) F ?_ ⟨⟨ys.take l.length ++ xs.drop x.length, ?_, ?_⟩, fun k => by rw [cpy_len]; exact hF k⟩ (fun k hk => .inl hk))
    · exact ⟨rfl, rfl, rfl, by simp [World.setRow], fun k hk hF' => setRow_other w g k _ (fun e => hF' ((hF k).2 (by rw [e]; rfl))), Nat.le_refl _⟩
    · have q1 := g1.take l.length
      have q2 := h1.drop x.length
      rw [hr, Nat.mul_one] at q1 q2
      exact q1.app q2
    · have hcx : cur.toList.take l.length = xs := by rw [hr, Nat.mul_one] at k4; exact k4
      refine ⟨?_, .inr ⟨g, c, ((cur.toList.take 0 ++ ys.take l.length ++ cur.toList.drop (0 + Nat.min x.length l.length)).toArray), by rw [cpy_len], hb, setRow_heap w g _ _ et _ hg, by rw [cpy_len]; exact k1, k2, ?_, ?_⟩⟩
      · rw [cpy_len, hr, Nat.mul_one, List.length_append, List.length_take, List.length_drop, hl1, hl2]
        omega
      · have hcs : cur.toList.length = c * r.sz := by simpa using k3
        rw [hr, Nat.mul_one] at hcs ⊢
        have := hcl
        simp only [List.take_zero, List.nil_append, Nat.zero_add, List.size_toArray, List.length_append, List.length_drop]
        rw [List.length_take] at this ⊢
        omega
      · rw [cpy_len, hr, Nat.mul_one]
        simp only [List.take_zero, List.nil_append, Nat.zero_add]
        rw [List.take_append, hcl]
        have e3 : (ys.take l.length).take l.length = ys.take l.length := by rw [List.take_take, Nat.min_self]
        rw [e3, ← hcx, List.drop_take]
        congr 1
        by_cases hxl : x.length ≤ l.length
        · have hm : Nat.min x.length l.length = x.length := Nat.min_eq_left hxl
          rw [hm]
        · have hm : Nat.min x.length l.length = l.length := Nat.min_eq_right (by omega)
          rw [hm, Nat.sub_self, show l.length - x.length = 0 by omega]
          simp
end
section
variable (P : Program) (tb : Tab) {ρ : Type}
def srcA (n : Nat) : AV tb.T → Option (List (tb.T n))
  | .sl n' x => castL n n' x
  | .nils => some []
  | _ => none
def copyM (dT : TypeId) (a b : AV tb.T) (s : S tb.T) (k : KO tb.T ρ) : Option ρ := match a with
  | .row id => match lk s.σ id with
    | some (_, .row n e l) => match srcA tb n b, slcE P dT with
      | some x, some el => match P.info? el with
        | some inf => cond (Nat.beq inf.size 1 && Nat.beq (tb.rep n).sz 1) (k (.i64 ((Nat.min x.length l.length : Nat) : Int)) { s with σ := sto s.σ id s.d (.row n e (cpy l x)), d := s.d + 1 }) none
        | none => none
      | _, _ => none
    | _ => none
  | _ => none
end
section
variable {P : Program} {tb : Tab} {bs : Bs} {η : List Value} {m : Mem} {s : S tb.T} {w : World} {κc : Kn} {B : Code} {n : Cx} {p : List Nat} {i : Nat} {o : Oper} {ρ' : Type} {k : KO tb.T ρ'} {ans : ρ'} {a b v : AV tb.T} {x y : Value}
theorem srcA_ok {nn : Nat} {l : List (tb.T nn)} (h : srcA tb nn a = some l) (hr : R tb η m a x) : ∃ A c, x = .slice A l.length c ∧ SlI (tb.rep nn) m A c l := by
  unfold srcA at h
  split at h
  · rename_i n' l'
    obtain ⟨e, rfl⟩ := castL_some h
    subst e
    exact hr
  · cases h
    exact ⟨none, 0, hr, SlI.nil _ _⟩
  · cases h
theorem copyM_step (hw : Wd tb bs η m s w) (hk : KR tb η m s.κ κc) (T : TabOk tb) {dT sT ty : TypeId} (fo : fetch B n p i κc = some (o.dst, vS (Builtin.copy_ #[dT, sT] ty #[x, y]))) (ha : R tb η m a x) (hb : R tb η m b y) (h : copyM P tb dT a b s k = some ans) : Step P B n p i κc w (YX tb bs η m o.dst s k ans κc) := by
  unfold copyM at h
  split at h
  · rename_i id
    split at h
    · rename_i st nn e l hl
      split at h
      · rename_i z el hz hel
        split at h
        · rename_i inf hi
          cases hc : (Nat.beq inf.size 1 && Nat.beq (tb.rep nn).sz 1) with
          | false => rw [hc] at h; cases h
          | true =>
            rw [hc] at h
            rw [Bool.and_eq_true] at hc
            simp only [cond_true] at h
            obtain ⟨A, c, g1, H⟩ := hw.row hl
            have := ha.1
            rw [this] at g1
            cases g1
            obtain ⟨C, c2, rfl, hs⟩ := srcA_ok hz hb
            have hu : P.underlying dT = some (.slice el) := by
              unfold slcE at hel
              split at hel
              · cases hel; assumption
              · cases hel
            refine copyS (H := H) o.dst 0 rfl hs hu (by rw [hi]; simp [beq_t hc.1]) (beq_t hc.2) fo ?_
            intro w1 H1
            obtain ⟨k1, k2⟩ := hw.sto hl (x := .row nn e (cpy l z)) (St_conv H1 (fun F hF => ⟨A, c, by rw [cpy_len]; exact this, hF⟩) (fun _ e => e))
            exact ⟨_, _, _, η, m, h, k1, rfl, Le.refl _, Sub.refl _, rfl, hk, k2⟩
        · cases h
      · cases h
    · cases h
  · cases h
end
end Go.Proofs.YtkmhidggbnbaaaaGreatDoor.K.E
