/- Texts in one: E7 E8 E8Z E9 E9M E9D. -/
import Derived.Test.YtkleajhiihbefaaGreatDoorBK2
import Derived.Test.YtkleajhiihbefaaGreatDoorBK1
import Derived.Lib.AppendZerosOnto
import Derived.Laws.MakeOwn
set_option linter.unusedVariables false
set_option linter.unusedSimpArgs false
set_option linter.unusedSectionVars false
namespace Go.Proofs.YtkleajhiihbefaaGreatDoor.K.E
open Go Go.RowKit
def YX {ρ : Type} (tb : Tab) (bs : Bs) (η : List Value) (m : Mem) (d : Option Nat) (s : S tb.T) (k : AV tb.T → S tb.T → Option ρ) (ans : ρ) (κc : Kn) : Kn → World → Prop := fun κ' w' =>
 ∃ v s' u η' m', k v s' = some ans ∧ Ext s s' ∧ κ' = putk d u κc ∧ Le η η' ∧ Sub m m' ∧ R tb η' m' v u ∧ KR tb η' m' s'.κ κc ∧ Wd tb bs η' m' s' w'
theorem YX.pre {ρ : Type} {tb : Tab} {bs : Bs} {η : List Value} {m m1 : Mem} {d : Option Nat} {s s1 : S tb.T} {k : AV tb.T → S tb.T → Option ρ} {ans : ρ} {κc : Kn} (h : Ext s s1) (hm : Sub m m1) : ∀ κ' w', YX tb bs η m1 d s1 k ans κc κ' w' → YX tb bs η m d s k ans κc κ' w' :=
 fun _ _ ⟨v, s', u, η', m', h1, h2, h3, h4, h5, h6⟩ => ⟨v, s', u, η', m', h1, h.trans h2, h3, h4, hm.trans h5, h6⟩
theorem Step.imp {P : Program} {B : Code} {n : Cx} {p : List Nat} {i : Nat} {κ : Kn} {w : World} {X Y : Kn → World → Prop} (h : Step P B n p i κ w X) (hi : ∀ κ' w', X κ' w' → Y κ' w') : Step P B n p i κ w Y :=
 fun Q K hK a ha => h Q K (fun κ' w' a' hx ha' => hK κ' w' a' (hi _ _ hx) ha') a ha
section
variable {w0 : World} {F0 : Nat → Prop} {m0 m : Mem} {σ σ' : List Item} {w : World}
theorem St_imp (H : St w0 F0 m0 m σ w) (h : ∀ F, Sep m w σ F → Sep m w σ' F) : St w0 F0 m0 m σ' w := by
 obtain ⟨F, h1, h2, h3⟩ := H.sep
 exact ⟨H.kp, H.sub, H.has, H.new, F, h F h1, h2, h3⟩
theorem St_conv {i j : Item} (H : St w0 F0 m0 m (i :: σ) w) (h : ∀ F, i.P m w F → j.P m w F) (hσ : ∀ F, Sep m w σ F → Sep m w σ' F) : St w0 F0 m0 m (j :: σ') w :=
 St_imp H fun F ⟨F1, F2, h1, h2, h3⟩ => ⟨F1, F2, h F1 h1, hσ F2 h2, h3⟩
end
section
variable {tb : Tab} {bs : Bs} {η : List Value} {m : Mem} {s : S tb.T} {w w' : World} {κc : Kn}
theorem Wd.sto (h : Wd tb bs η m s w) {id : Nat} {p : Nat × DI tb.T} (hl : lk s.σ id = some p) {x : DI tb.T} (H : St bs.w0 bs.F0 bs.m0 m (x.item tb η id :: its tb η (del s.σ id)) w') :
  Ext s { s with σ := sto s.σ id s.d x, d := s.d + 1 } ∧ Wd tb bs η m { s with σ := E.sto s.σ id s.d x, d := s.d + 1 } w' := by
 refine ⟨⟨Nat.le_refl _, Nat.le_succ _, fun _ _ _ e _ => e, fun t st v e l => ?_⟩, h.len, h.le, H, h.gl⟩
 rcases lk_sto e with ⟨_, e⟩ | e
 ·cases e; exact absurd l (Nat.lt_irrefl _)
 ·exact e
def addI {T : Nat → Type} (s : S T) (x : DI T) : S T := { κ := s.κ, σ := (s.c, s.d, x) :: s.σ, c := s.c + 1, d := s.d + 1 }
theorem Ext.add {T : Nat → Type} (s : S T) (x : DI T) : Ext s (addI s x) := by
 refine ⟨Nat.le_succ _, Nat.le_succ _, fun _ _ _ e _ => e, fun t st v e l => ?_⟩
 simp only [addI, lk] at e
 cases hb : Nat.beq s.c t with
 | true => rw [hb] at e; simp only [cond_true, Option.some.injEq, Prod.mk.injEq] at e; rw [← e.1] at l; exact absurd l (Nat.lt_irrefl _)
 | false => rw [hb] at e; exact e
theorem Wd.add (h : Wd tb bs η m s w) (hg : Glob tb m) {x : DI tb.T} {u : Value} (H : St bs.w0 bs.F0 bs.m0 m (x.item tb (η ++ [u]) s.c :: its tb η s.σ) w') : Wd tb bs (η ++ [u]) m (addI s x) w' := by
 exact ⟨by rw [List.length_append, h.len]; rfl, h.le.trans (Le.app _ _), St_conv H (fun _ e => e) (fun F hF => its_le (Le.app _ _) _ hF), hg⟩
def delI {T : Nat → Type} (s : S T) (id : Nat) : S T := { s with σ := del s.σ id }
theorem Ext.del (h : Wd tb bs η m s w) (id : Nat) : Ext s (delI s id) :=
 ⟨Nat.le_refl _, Nat.le_refl _, fun _ _ _ e _ => e, fun t st v e l => (lk_del e).2⟩
theorem Wd.del (h : Wd tb bs η m s w) {id : Nat} {m' : Mem} (hg : Glob tb m') (H : St bs.w0 bs.F0 bs.m0 m' (its tb η (del s.σ id)) w') : Wd tb bs η m' (delI s id) w' :=
 ⟨h.len, h.le, H, hg⟩
theorem Wd.drop (h : Wd tb bs η m s w) {id : Nat} {p : Nat × DI tb.T} (hl : lk s.σ id = some p) : Wd tb bs η m (delI s id) w := h.del h.gl (h.pull hl).drop0
theorem blk_new (h : Wd tb bs η m s w) (t : TypeId) {cells : List (AV tb.T)} {cs : List Value} (hr : RL tb η m cells cs) : Wd tb bs (η ++ [.pointer (some ⟨w.heap.size, 0, none⟩)]) m (addI s (.blk t cells)) (w.alloc (.cells cs.toArray t (0, 0))) := by
 refine h.add h.gl (h.st.add (G := fun k => k = w.heap.size) (Ex.alloc w _) ⟨w.heap.size, cs, ?_, RL.mono (Le.app _ _) (Sub.refl _) cells hr, heap_alloc_new w _, fun _ => Iff.rfl⟩ (fun k e => by subst e; exact Nat.le_refl _))
 rw [← h.len, List.getElem?_append_right (Nat.le_refl _), Nat.sub_self]; rfl
theorem at_new (h : Wd tb bs η m s w) (u : Value) : (η ++ [u])[s.c]? = some u := by
 rw [← h.len, List.getElem?_append_right (Nat.le_refl _), Nat.sub_self]; rfl
end
mutual
def rowIn {T : Nat → Type} : AV T → Option Nat
 | .row i => some i
 | .cells _ l => rowInL l
 | .agg l => rowInL l
 | .tup l => rowInL l
 | .fn _ l c => match rowInL l with
  | some i => some i
  | none => rowInL c
 | _ => none
def rowInL {T : Nat → Type} : List (AV T) → Option Nat
 | [] => none
 | a :: l => match rowIn a with
  | some i => some i
  | none => rowInL l
end
def frzA (tb : Tab) : Nat → List (AV tb.T) → S tb.T → Option (List (AV tb.T) × S tb.T)
 | 0, _, _ => none
 | f + 1, a, s => match rowInL a with
  | none => some (a, s)
  | some id => match lk s.σ id with
   | some (_, .lit _ _ c) => match rowInL c with
    | none => match frz tb s id with
     | some (b, s') => frzA tb f (subL id b a) s'
     | none => none
    | some _ => match frzA tb f (c ++ a) s with
     | some (x, s') => frzA tb f (x.drop c.length) s'
     | none => none
   | _ => match frz tb s id with
    | some (b, s') => frzA tb f (subL id b a) s'
    | none => none
section
variable {tb : Tab} {bs : Bs} {w : World} {κc : Kn}
def FzPost (tb : Tab) (bs : Bs) (s s' : S tb.T) (η : List Value) (m : Mem) (κc : Kn) (w : World) (a' : List (AV tb.T)) (vs : List Value) : Prop :=
 Ext s s' ∧ ∃ m', Sub m m' ∧ KR tb η m' s'.κ κc ∧ Wd tb bs η m' s' w ∧ RL tb η m' a' vs
theorem FzPost.step {s s1 s' : S tb.T} {η : List Value} {m m1 : Mem} {a' : List (AV tb.T)} {vs : List Value} (h : Ext s s1) (hm : Sub m m1) (h' : FzPost tb bs s1 s' η m1 κc w a' vs) : FzPost tb bs s s' η m κc w a' vs :=
 let ⟨k1, m2, k2, k3⟩ := h'
 ⟨h.trans k1, m2, hm.trans k2, k3⟩
theorem frzA_ok (T : TabOk tb) : ∀ (f : Nat) {a a' : List (AV tb.T)} {s s' : S tb.T} {η : List Value} {m : Mem}, frzA tb f a s = some (a', s') → Wd tb bs η m s w → KR tb η m s.κ κc → ∀ {vs : List Value}, RL tb η m a vs → FzPost tb bs s s' η m κc w a' vs
 | 0, a, a', s, s', η, m, h, hw, hk, vs, hr => by cases h
 | f + 1, a, a', s, s', η, m, h, hw, hk, vs, hr => by
  have one : ∀ {id : Nat}, (match frz tb s id with
    | some (b, s') => frzA tb f (subL id b a) s'
    | none => none) = some (a', s') → FzPost tb bs s s' η m κc w a' vs := by
   intro id h
   split at h
   ·rename_i b s1 hf
    obtain ⟨h1, m1, h2, h3, h4, h5⟩ := frz_ok T hf hw hk
    exact FzPost.step h1 h2 (frzA_ok T f h h4 h3 (subL_ok (Le.refl _) h2 h5 a hr))
   ·cases h
  simp only [frzA] at h
  split at h
  ·cases h; exact ⟨Ext.refl _, m, Sub.refl _, hk, hw, hr⟩
  ·split at h
   ·rename_i st t k c hl
    split at h
    ·exact one h
    ·split at h
     ·rename_i x s1 hx
      obtain ⟨g, cs, h3, h4, h5⟩ := hw.lit hl
      obtain ⟨k1, m2, k2, k3, k4, k5⟩ := frzA_ok T f hx hw hk (h4.app hr)
      refine FzPost.step k1 k2 (frzA_ok T f h k4 k3 ?_)
      have := k5.drop c.length
      rwa [List.drop_left' h4.len] at this
     ·cases h
   ·exact one h
end
end Go.Proofs.YtkleajhiihbefaaGreatDoor.K.E
set_option linter.unusedVariables false
set_option linter.unusedSimpArgs false
set_option linter.unusedSectionVars false
namespace Go.Proofs.YtkleajhiihbefaaGreatDoor.K.E
open Go Go.RowKit
section
variable (P : Program) (tb : Tab) {ρ : Type}
abbrev KO (T : Nat → Type) (ρ : Type) := AV T → S T → Option ρ
def undA {T : Nat → Type} : AV T := .lit undef
def zrepV (P : Program) (e len : Nat) : Option (List Value) := match P.info? e with
 | some i => cond (Nat.ble (len * i.size) 16777216) (cond (Nat.beq (len * i.size) 0) (some []) (match i.zero with
  | some z => some ((List.range (len * i.size)).map fun j => z.cells[j % z.cells.size]!)
  | none => none)) none
 | none => none
def newM (o : Go.Op) (s : S tb.T) (k : KO tb.T ρ) : Option ρ := match o with
 | .alloc t => match zerosA P t with
  | some c => k (.ptr s.c 0) (addI s (.blk t c))
  | none => none
 | .box t x => match evA s.κ x with
  | some a => match cellsA a with
   | some c => k (.ptr s.c 0) (addI s (.blk t c))
   | none => none
  | none => none
 | .buildSlice t len ps => match slcE P t, partsA (evA s.κ) ps.toList with
  | some e, some l => match zrepV P e len, fillA (fun i => some (i * sizeA P e, sizeA P e)) ((match zrepV P e len with | some z => z | none => []).map cst1) l with
   | some _, some c => k (.row s.c) (addI s (.lit e len c))
   | _, _ => none
  | _, _ => none
 | _ => none
def storeM (t : TypeId) (p a : AV tb.T) (s : S tb.T) (k : KO tb.T ρ) : Option ρ := match p with
 | .ptr id off => match lk s.σ id with
  | some (_, .blk e cs) => match a with
   | .agg l => cond (aggB P t l.length && (l.all oneA && Nat.ble (off + l.length) cs.length)) (k undA { s with σ := sto s.σ id s.d (.blk e (cs.take off ++ l ++ cs.drop (off + l.length))), d := s.d + 1 }) none
   | a => cond (oneB P t && (oneA a && Nat.blt off cs.length)) (k undA { s with σ := sto s.σ id s.d (.blk e (cs.set off a)), d := s.d + 1 }) none
  | _ => none
 | .elt id i n off => match frzA tb 20 [a] s with
  | some ([a], s) => match lk s.σ id with
   | some (_, .row n' e l) => match castL n n' l with
    | some l => cond (oneB P t && (oneA a && Nat.blt off (tb.rep n).sz)) ((idx l i).bind fun x => match tb.im n ((tb.ex n x).set off a) with
     | some y => k undA { s with σ := sto s.σ id s.d (.row n e (l.set i.toNat y)), d := s.d + 1 }
     | none => none) none
    | none => none
   | _ => none
  | _ => none
 | _ => none
def getC (t : TypeId) (l : List (AV tb.T)) (off : Nat) : Option (AV tb.T) := match P.underlying t with
 | some d => match isAggD d with
  | true => cond (Nat.ble (off + sizeA P t) l.length && aggB P t (sizeA P t)) (some (.agg ((l.drop off).take (sizeA P t)))) none
  | false => cond (oneB P t) l[off]? none
 | none => none
def loadM (t : TypeId) (p : AV tb.T) (s : S tb.T) (k : KO tb.T ρ) : Option ρ := match p with
 | .ptr id off => match lk s.σ id with
  | some (_, .blk _ cs) => match getC P tb t cs off with
   | some v => k v s
   | none => none
  | some (_, .kep _ cs _) => match getC P tb t cs off with
   | some v => k v s
   | none => none
  | _ => none
 | .elt id i n off => match lk s.σ id with
  | some (_, .row n' _ l) => match castL n n' l with
   | some l => cond (Nat.blt 0 (tb.rep n).sz) ((idx l i).bind fun x => match getC P tb t (tb.ex n x) off with
    | some v => k v s
    | none => none) none
   | none => none
  | _ => none
 | _ => none
end
section
variable {P : Program} {tb : Tab} {bs : Bs} {η : List Value} {m : Mem} {s : S tb.T} {w : World} {κc : Kn} {B : Code} {n : Cx} {p : List Nat} {i : Nat} {o : Oper} {ρ' : Type} {k : KO tb.T ρ'} {ans : ρ'} {a b v : AV tb.T} {x y : Value}
theorem getC_all {t : TypeId} {l : List (AV tb.T)} {cs : List Value} {off : Nat} {ad : Addr} (h : getC P tb t l off = some v) (hl : RL tb η m l cs) : ∃ u, (∀ w : World, (∀ j u, cs[j]? = some u → w.cell? (ad.add j) = some u) → (vS (Instr.loadAt t (.pointer (some (ad.add off))))).run P w = .ok (.value u) w) ∧ R tb η m v u := by
 unfold getC at h
 split at h
 ·rename_i d hu
  split at h
  ·cases hb : (Nat.ble (off + sizeA P t) l.length && aggB P t (sizeA P t)) with
   | false => rw [hb] at h; cases h
   | true =>
    rw [hb] at h
    cases h
    rw [Bool.and_eq_true] at hb
    have h1 := Nat.le_of_ble_eq_true hb.1
    have hlen : ((cs.drop off).take (sizeA P t)).length = sizeA P t := by
     rw [List.length_take, List.length_drop, hl.len]; omega
    refine ⟨.agg ((cs.drop off).take (sizeA P t)).toArray, fun w hc => aggRun t _ _ (by rw [hlen]; exact hb.2) ?_, (cs.drop off).take (sizeA P t), rfl, (hl.drop _).take _⟩
    intro j u hj
    rw [List.getElem?_take] at hj
    split at hj
    ·rw [List.getElem?_drop] at hj
     rw [add_add]; exact hc _ _ hj
    ·cases hj
  ·cases hb : oneB P t with
   | false => rw [hb] at h; cases h
   | true =>
    rw [hb] at h
    obtain ⟨u, h1, h2⟩ := hl.get h
    exact ⟨u, fun w hc => ld_run t _ u hb (hc _ _ h1), h2⟩
 ·cases h
theorem getC_ok {t : TypeId} {l : List (AV tb.T)} {cs : List Value} {off : Nat} {ad : Addr} (h : getC P tb t l off = some v) (hl : RL tb η m l cs) (hc : ∀ j u, cs[j]? = some u → w.cell? (ad.add j) = some u) : ∃ u, (vS (Instr.loadAt t (.pointer (some (ad.add off))))).run P w = .ok (.value u) w ∧ R tb η m v u :=
 let ⟨u, h1, h2⟩ := getC_all h hl
 ⟨u, h1 w hc, h2⟩
variable (hw : Wd tb bs η m s w) (hk : KR tb η m s.κ κc) (fo : fetch B n p i κc = some (o.dst, execOp (evT κc) o))
include hw hk fo
theorem stay {u : Value} (hr : (execOp (evT κc) o).run P w = .ok (.value u) w) (hv : R tb η m v u) (h : k v s = some ans) : Step P B n p i κc w (YX tb bs η m o.dst s k ans κc) :=
 runR fo hr ⟨v, s, u, η, m, h, Ext.refl _, rfl, Le.refl _, Sub.refl _, hv, hk, hw⟩
theorem opB_step (T : TabOk tb) (h : opB P tb (evA s.κ) o (fun v => k v s) = some ans) : Step P B n p i κc w (YX tb bs η m o.dst s k ans κc) := by
 obtain ⟨v, h1, u, h2, h3⟩ := opB_ok T hw.gl hk.ev h
 exact stay hw hk fo (h2 w hw.st.has) h3 h1
theorem newM_step (h : newM P tb o.op s k = some ans) : Step P B n p i κc w (YX tb bs η m o.dst s k ans κc) := by
 unfold newM at h
 split at h
 ·rename_i t ho
  split at h
  ·rename_i c hc
   obtain ⟨z, hz, hr⟩ := zerosA_ok (tb := tb) (η := η) (m := m) hc
   have hwn := blk_new hw t hr
   refine runR fo (v := .pointer (some ⟨w.heap.size, 0, none⟩)) (w' := w.alloc (.cells z.cells.toList.toArray t (0, 0))) ?_ ⟨_, _, _, _, m, h, Ext.add _ _, rfl, Le.app _ _, Sub.refl _, ⟨w.heap.size, at_new hw _, rfl⟩, hk.mono (Le.app _ _) (Sub.refl _), hwn⟩
   unfold execOp
   rw [ho]
   simp only [Instr.alloc, Sem.run_bind, hz, Result.andThen_ok, Array.toArray_toList]
   rfl
  ·cases h
 ·rename_i t q ho
  split at h
  ·rename_i a ha
   split at h
   ·rename_i c hc
    have hr := cellsA_ok hc (hk.ev _ _ ha)
    have hwn := blk_new hw t hr
    refine runR fo (v := .pointer (some ⟨w.heap.size, 0, none⟩)) (w' := w.alloc (.cells (evT κc q).cells.toList.toArray t (0, 0))) ?_ ⟨_, _, _, _, m, h, Ext.add _ _, rfl, Le.app _ _, Sub.refl _, ⟨w.heap.size, at_new hw _, rfl⟩, hk.mono (Le.app _ _) (Sub.refl _), hwn⟩
    unfold execOp
    rw [ho, Array.toArray_toList]
    rfl
   ·cases h
  ·cases h
 ·rename_i t len ps ho
  split at h
  ·rename_i e l h1 h2
   split at h
   ·rename_i z c hz hc
    simp only [hz] at hc
    obtain ⟨vs, hf, hv⟩ := fillA_ok hc (partsA_ok hk.ev h2) (cst1L_ok (tb := tb) (η := η) (m := m) z)
    have hwn : Wd tb bs (η ++ [.slice (some ⟨w.heap.size, 0, none⟩) len len]) m (addI s (.lit e len c)) (w.alloc (.cells vs.toArray e (0, 0))) :=
     hw.add hw.gl (hw.st.add (G := fun k => k = w.heap.size) (Ex.alloc w _) ⟨w.heap.size, vs, at_new hw _, RL.mono (Le.app _ _) (Sub.refl _) c hv, heap_alloc_new w _, fun _ => Iff.rfl⟩ (fun k e => by subst e; exact Nat.le_refl _))
    refine runR fo (v := .slice (some ⟨w.heap.size, 0, none⟩) len len) (w' := w.alloc (.cells vs.toArray e (0, 0))) ?_ ⟨_, _, _, _, m, h, Ext.add _ _, rfl, Le.app _ _, Sub.refl _, ⟨at_new hw _, rfl⟩, hk.mono (Le.app _ _) (Sub.refl _), hwn⟩
    have hu : P.underlying t = some (.slice e) := by
     unfold slcE at h1
     split at h1
     ·cases h1; assumption
     ·cases h1
    unfold zrepV at hz
    split at hz
    ·rename_i inf hi
     cases hb : Nat.ble (len * inf.size) 16777216 with
     | false => rw [hb] at hz; cases hz
     | true =>
      rw [hb] at hz
      simp only [cond_true] at hz
      have hle := Nat.le_of_ble_eq_true hb
      have hsz : sizeA P e = inf.size := by simp [sizeA, hi]
      rw [hsz] at hf
      have hps : (ps.map fun (i, x) => (i, evT κc x)).toList = ps.toList.map fun (i, x) => (i, evT κc x) := by simp
      have hgt : ¬ (len * inf.size > 2 ^ 24) := by omega
      unfold execOp
      rw [ho]
      simp only [Instr.buildSlice, Sem.run_bind, run_und hu, Result.andThen_ok, run_size hi, hgt, if_false, Sem.run_pure, hps]
      cases hb0 : Nat.beq (len * inf.size) 0 with
      | true =>
       rw [hb0] at hz
       cases hz
       have h0 := beq_t hb0
       simp only [h0, if_true, Sem.run_bind, Sem.run_pure, Result.andThen_ok]
       have e0 : (Array.range 0).map (fun i => (#[] : Array Value)[i % (#[] : Array Value).size]!) = ([] : List Value).toArray := by simp
       rw [e0, hf]
       rfl
      | false =>
       rw [hb0] at hz
       have h0 : len * inf.size ≠ 0 := beq_ne hb0
       simp only [cond_false] at hz
       split at hz
       ·rename_i zz hzz
        cases hz
        simp only [h0, if_false, Sem.run_bind]
        have hz1 : (zeroValue e).run P w = .ok zz w := by simp [zeroValue, typeInfo, hi, hzz]
        simp only [hz1, Result.andThen_ok, Sem.run_pure]
        have e0 : (Array.range (len * inf.size)).map (fun i => zz.cells[i % zz.cells.size]!) = ((List.range (len * inf.size)).map fun j => zz.cells[j % zz.cells.size]!).toArray := by
         apply Array.ext'
         simp
        rw [e0, hf]
        rfl
       ·cases hz
    ·cases hz
   ·cases h
  ·cases h
 ·cases h
omit hw hk fo in
theorem exec_store {q r : Operand} {t : Nat} (h : o.op = .store t q r) (ρ : Operand → Value) : execOp ρ o = uS (Instr.storeAt t (ρ q) (ρ r)) := by unfold execOp; rw [h]; rfl
theorem storeM_step (T : TabOk tb) {t : TypeId} (fo' : fetch B n p i κc = some (o.dst, uS (Instr.storeAt t x y))) (ha : R tb η m a x) (hb : R tb η m b y) (h : storeM P tb t a b s k = some ans) : Step P B n p i κc w (YX tb bs η m o.dst s k ans κc) := by
 unfold storeM at h
 split at h
 ·rename_i id off
  obtain ⟨g, hg, rfl⟩ := ha
  split at h
  ·rename_i st e cs hl
   obtain ⟨g', vs, hg', hr, H⟩ := hw.blk hl
   rw [hg] at hg'
   cases hg'
   split at h
   ·rename_i l
    cases hc : (aggB P t l.length && (l.all oneA && Nat.ble (off + l.length) cs.length)) with
    | false => rw [hc] at h; cases h
    | true =>
     rw [hc] at h
     simp only [Bool.and_eq_true] at hc
     obtain ⟨us, rfl, hul⟩ := hb
     have hle := Nat.le_of_ble_eq_true hc.2.2
     refine stAggS (H := H) o.dst t 0 g off us vs _ e rfl fo' (by rw [hul.len]; exact hc.1) (oneL hul hc.2.1) (by rw [hul.len, hr.len]; exact hle) rfl ?_
     intro w1 H1
     have hn : RL tb η m (cs.take off ++ l ++ cs.drop (off + l.length)) (vs.take off ++ us ++ vs.drop (off + us.length)) := by
      rw [hul.len]; exact ((hr.take off).app hul).app (hr.drop _)
     obtain ⟨h1, h2⟩ := hw.sto hl (x := .blk e (cs.take off ++ l ++ cs.drop (off + l.length))) (St_conv H1 (fun F hF => ⟨g, _, hg, hn, hF⟩) (fun _ e => e))
     exact ⟨_, _, undef, η, m, h, h1, rfl, Le.refl _, Sub.refl _, rfl, hk, h2⟩
   ·cases hc : (oneB P t && (oneA b && Nat.blt off cs.length)) with
    | false => rw [hc] at h; cases h
    | true =>
     rw [hc] at h
     simp only [Bool.and_eq_true] at hc
     have hlt : off < cs.length := by simpa [Nat.blt_eq] using hc.2.2
     refine stS (H := H) o.dst t 0 g off y vs e rfl fo' hc.1 (oneA_ok hb hc.2.1) (by rw [hr.len]; exact hlt) ?_
     intro w1 H1
     obtain ⟨h1, h2⟩ := hw.sto hl (x := .blk e (cs.set off b)) (St_conv H1 (fun F hF => ⟨g, _, hg, hr.set hb, hF⟩) (fun _ e => e))
     exact ⟨_, _, undef, η, m, h, h1, rfl, Le.refl _, Sub.refl _, rfl, hk, h2⟩
  ·cases h
 ·rename_i id j n1 off
  split at h
  ·rename_i b' s1 hf
   obtain ⟨h1, m1, h2, h3, h4, h5⟩ := frzA_ok T 20 hf hw hk (RL.mk1 hb)
   obtain ⟨y', hy', hb'⟩ := h5.one
   cases hy'
   obtain ⟨ad, len, c0, e1, e2, e3, rfl⟩ := ha
   split at h
   ·rename_i st n' e l hl
    obtain ⟨A, c, g1, H⟩ := h4.row hl
    split at h
    ·rename_i l' hcl
     obtain ⟨en, rfl⟩ := castL_some hcl
     subst en
     cases hc : (oneB P t && (oneA b' && Nat.blt off (tb.rep n').sz)) with
     | false => rw [hc] at h; cases h
     | true =>
      rw [hc] at h
      simp only [Bool.and_eq_true] at hc
      have hlt : off < (tb.rep n').sz := by simpa [Nat.blt_eq] using hc.2.2
      obtain ⟨z, hz, h⟩ := bindE h
      obtain ⟨i0, i1, i2⟩ := idx_some hz
      split at h
      ·rename_i z' hz'
       rw [e1] at g1
       cases g1
       refine stElS (H := H) o.dst t 0 j.toNat off (j.toNat * (tb.rep n').sz + off) (some ad) _ l e z z' y ad rfl i2 rfl (by rw [← add_add]; exact fo') rfl hc.1 (oneA_ok hb' hc.2.1) hlt (fun cs hcs => T.im hz' ((T.ex (η := η) hcs).set hb')) ?_
       intro w1 H1
       obtain ⟨k1, k2⟩ := h4.sto hl (x := .row n' e (l.set j.toNat z')) (St_conv H1 (fun F hF => ⟨some ad, _, by rw [List.length_set]; exact e1, hF⟩) (fun _ e => e))
       exact ⟨_, _, undef, η, m1, h, h1.trans k1, rfl, Le.refl _, h2, rfl, h3, k2⟩
      ·cases h
    ·cases h
   ·cases h
  ·cases h
 ·cases h
theorem loadM_step (T : TabOk tb) {t : TypeId} (fo' : fetch B n p i κc = some (o.dst, vS (Instr.loadAt t x))) (ha : R tb η m a x) (h : loadM P tb t a s k = some ans) : Step P B n p i κc w (YX tb bs η m o.dst s k ans κc) := by
 unfold loadM at h
 split at h
 ·rename_i id off
  obtain ⟨g, hg, rfl⟩ := ha
  split at h
  ·rename_i st e cs hl
   obtain ⟨g', vs, hg', hr, H⟩ := hw.blk hl
   rw [hg] at hg'
   cases hg'
   split at h
   ·rename_i v hv
    obtain ⟨u, h1, h2⟩ := getC_ok (P := P) (ad := ⟨g, 0, none⟩) (w := w) hv hr (fun j u hj => by rw [Addr.add_lit, Nat.zero_add]; exact H.cellB 0 rfl hj)
    rw [Addr.add_lit, Nat.zero_add] at h1
    exact runR fo' h1 ⟨v, s, u, η, m, h, Ext.refl _, rfl, Le.refl _, Sub.refl _, h2, hk, hw⟩
   ·cases h
  ·rename_i st e cs j hl
   obtain ⟨g', vs, ⟨hg', _⟩, hr, H⟩ := hw.kep hl
   rw [hg] at hg'
   cases hg'
   split at h
   ·rename_i v hv
    obtain ⟨u, h1, h2⟩ := getC_ok (P := P) (ad := ⟨g, 0, none⟩) (w := w) hv hr (fun j u hj => by rw [Addr.add_lit, Nat.zero_add]; exact H.cellB 0 rfl hj)
    rw [Addr.add_lit, Nat.zero_add] at h1
    exact runR fo' h1 ⟨v, s, u, η, m, h, Ext.refl _, rfl, Le.refl _, Sub.refl _, h2, hk, hw⟩
   ·cases h
  ·cases h
 ·rename_i id j n1 off
  obtain ⟨ad, len, c0, e1, e2, e3, rfl⟩ := ha
  split at h
  ·rename_i st n' e l hl
   obtain ⟨A, c, g1, H⟩ := hw.row hl
   split at h
   ·rename_i l' hcl
    obtain ⟨en, rfl⟩ := castL_some hcl
    subst en
    cases hc : Nat.blt 0 (tb.rep n').sz with
    | false => rw [hc] at h; cases h
    | true =>
     rw [hc] at h
     obtain ⟨z, hz, h⟩ := bindE h
     obtain ⟨i0, i1, i2⟩ := idx_some hz
     split at h
     ·rename_i v hv
      obtain ⟨ad', cs, hA, h3, h4⟩ := H.rowAt 0 rfl i2 (by simpa [Nat.blt_eq] using hc)
      rw [e1] at g1
      cases g1
      cases hA
      obtain ⟨u, h1, h2⟩ := getC_ok (P := P) (ad := ad.add (j.toNat * (tb.rep n').sz)) (w := w) hv (T.ex (η := η) h3) h4
      exact runR fo' h1 ⟨v, s, u, η, m, h, Ext.refl _, rfl, Le.refl _, Sub.refl _, h2, hk, hw⟩
     ·cases h
   ·cases h
  ·cases h
 ·cases h
end
end Go.Proofs.YtkleajhiihbefaaGreatDoor.K.E
set_option linter.unusedVariables false
set_option linter.unusedSimpArgs false
set_option linter.unusedSectionVars false
namespace Go.Proofs.YtkleajhiihbefaaGreatDoor.K
open Go Go.RowKit
section
variable {P : Program}
def zs (n : Nat) : ByteArray := ⟨(List.replicate n (0 : UInt8)).toArray⟩
theorem zs_size (n : Nat) : (zs n).size = n := by show (List.replicate n (0 : UInt8)).toArray.size = n; simp
theorem zcells (n : Nat) : Builtin.zeroCells (Value.int .u8 0).cells n = (List.replicate n (Value.int .u8 0)).toArray := by
 apply Array.ext
 ·simp [Builtin.zeroCells, Value.cells]
 ·intro i h1 h2
  simp [Builtin.zeroCells, Value.cells, Nat.mod_one]
theorem zstr (n : Nat) : Lib.strCells (zs n) = List.replicate n (Value.int .u8 0) := by
 unfold Lib.strCells zs
 simp
theorem run_append_zeros (w : World) (base : Nat) (t u us ty e : TypeId) (i : TypeInfo) {ik ik' : IntKind} (ht : P.underlying t = some (.slice e)) (hu : P.underlying u = some (.int ik)) (hus : P.underlying us = some .string) (hi : P.info? e = some i) (hz : i.zero = some (.int .u8 0))
  (hsize : i.size = 1) (hby : i.bytes = 1) (v : Value) (n k : Nat) (xs : List Value) (hown : w.ownsRow base e 1 v n xs) (hb : n + k ≤ 140737488355328) (hbase : base ≤ w.heap.size) :
  (Builtin.append_ #[t, u] ty #[v, .int ik' (k : Int)]).run P w = (Builtin.append_ #[t, us] ty #[v, .string (zs k)]).run P w := by
 have hk := zs_size k
 have hxl : xs.length = n := by simpa using hown.1
 have hw : IntKind.i64.wrap (k : Int) = (k : Int) := w64 (by omega)
 have hw0 : IntKind.i64.wrap 0 = 0 := w64 (by omega)
 have h48i : ¬ (281474976710656 < (k : Int)) := by omega
 have hneg : ¬ ((k : Int) < 0) := by omega
 rcases hown.2 with ⟨rfl, rfl⟩ | ⟨g, cap, cur, rfl, hbg, hg, hnc, hcm, hcs, htake⟩
 ·by_cases h0 : k = 0
  ·subst h0
   simp [Builtin.append_, run_underlying ht, run_underlying hu, run_underlying hus, sizeOf, typeInfo, zeroValue, hi, hz, asInt, asIntOf, hw, hw0, Builtin.lenOf, hk, Builtin.firstCells]
  ·rw [Lib.run_append_nil_zeros w t u ty e i (.int .u8 0) ik' ik ht hu hi hz k (by omega) (by omega) (by omega) (by rw [hby]; omega), run_append_nil_string (P := P) w t us ty e i (.int .u8 0) ht hus hi hz (zs k) (by omega) (by omega) (by rw [hby]; omega), hk, zcells, zcells]
   congr 4
   simp [zs]
 ·by_cases hroom : n + k ≤ cap
  ·rw [Lib.run_append_room_string (P := P) (w := w) t us ty e i ht hus hi hsize g n cap cur hg (zs k) (by omega) (by simp at hcs; omega), hk, zstr]
   have hst := run_storeCells_at P g n e (List.replicate k (Value.int .u8 0)) 0 cur w hg (by simp at hcs ⊢; omega) (by intro u hu; rw [List.eq_of_mem_replicate hu]; rfl)
   simp only [Nat.add_zero, List.length_replicate] at hst
   by_cases h0 : k = 0
   ·subst h0
    simp only [List.replicate_zero] at hst
    simp [Builtin.append_, run_underlying ht, run_underlying hu, sizeOf, typeInfo, zeroValue, hi, hz, hsize, hby, asInt, asIntOf, hw, hw0, hneg, h48i, hnc, zcells, Addr.add_lit, hst]
   ·simp [Builtin.append_, run_underlying ht, run_underlying hu, sizeOf, typeInfo, zeroValue, hi, hz, hsize, hby, asInt, asIntOf, hw, hw0, hneg, h48i, h0, hroom, zcells, Addr.add_lit, hst]
  ·have holds : ∀ j x, xs[j]? = some x → w.cell? ((⟨g, 0, none⟩ : Addr).add j) = some x := by
    intro j x hj
    rw [Addr.add_lit, Nat.zero_add]
    refine blk_cell hg ?_
    rw [← htake, List.getElem?_take] at hj
    split at hj
    ·simpa using hj
    ·cases hj
   have hfit : Builtin.nextslicecap (n + k) cap * i.bytes ≤ 281474976710656 := by
    rw [hby, Nat.mul_one]
    exact Nat.le_trans (nextslicecap_le (by omega)) (by omega)
   rw [Lib.run_append_grow_string (P := P) (w := w) t us ty e i (.int .u8 0) ht hus hi hz ⟨g, 0, none⟩ n cap xs (by rw [hxl, hsize, Nat.mul_one]) holds (zs k) (by omega) (by omega) (by rw [hk]; exact hfit), hk, zstr]
   rw [Lib.run_append_grow_zeros w t u ty e i (.int .u8 0) ik' ik ht hu hi hz (some ⟨g, 0, none⟩) n cap xs (by
    rw [hsize]
    exact run_firstCells_some (P := P) w.drew 1 n ⟨g, 0, none⟩ n cap xs (by rw [hxl, Nat.mul_one]) (by simpa using holds)) k (by omega) (by omega) (by omega) (by omega) (by rw [hby]; omega) hfit, zcells]
end
section
variable {P : Program} {B : Code} {n : Cx} {p : List Nat} {i : Nat} {κ : Kn} {w : World} {Z : Kn → World → Prop} {w0 : World} {F0 : Nat → Prop} {m0 m : Mem} {σ : List Item}
theorem appzS (d : Option Nat) (t u e : TypeId) (ty : TypeId) (n' : Nat) (A : Option Addr) (c : Nat) (l y : List UInt8) (k0 : Nat) {us : TypeId} {ik ik' : IntKind} (H : St w0 F0 m0 m σ w) (hn : σ[n']? = some (rowI rU8 e A c l)) (he : elB P t e 1 1 (.int .u8 0)) (hu : P.underlying u = some (.int ik)) (hus : P.underlying us = some .string)
  (ho : fetch B n p i κ = some (d, vS (Builtin.append_ #[t, u] ty #[.slice A l.length c, .int ik' (k0 : Int)]))) (hy : app l (List.replicate k0 0) = some y)
  (hk : ∀ A' c1 w1, St w0 F0 m0 m (σ.set n' (rowI rU8 e A' c1 y)) w1 → Z (putk d (.slice A' y.length c1) κ) w1) : Step P B n p i κ w Z := by
 obtain ⟨F, ⟨⟨xs, h1, ho1⟩, hF⟩, h2, h3⟩ := H.upd n' hn
 obtain ⟨hb, rfl⟩ := app_some hy
 obtain ⟨ht, hinf⟩ := he
 obtain ⟨i0, hi, hzz⟩ := Option.map_eq_some_iff.1 hinf
 simp only [Prod.mk.injEq] at hzz
 obtain ⟨hz0, hz1, hz2⟩ := hzz
 rw [List.length_replicate] at hb
 obtain ⟨v', w', hr0, h4, h5, h6⟩ := run_appstr (P := P) w 0 t us ty e i0 ht hus hi hz0 hz1 hz2 _ l.length xs ho1 (zs k0) (by rw [zs_size]; simp only [maxLen]; omega) (by rw [zs_size]; omega) (Nat.zero_le _)
 have hr := (run_append_zeros (P := P) w 0 t u us ty e i0 (ik := ik) (ik' := ik') ht hu hus hi hz0 hz1 hz2 _ l.length k0 xs ho1 (by omega) (Nat.zero_le _)).trans hr0
 obtain ⟨A', c1, rfl, h7, _⟩ := own_shape h4
 have hs : (zs k0).size = (List.replicate k0 (0 : UInt8)).length := by rw [zs_size, List.length_replicate]
 rw [hs, ← List.length_append] at h4 h6 hr
 refine runR ho (vS_run hr) (hk A' c1 w' (h3 w' (rowI rU8 e A' c1 (l ++ List.replicate k0 0)) (fun k => (Value.slice A' (l ++ List.replicate k0 0).length c1).ownBlock = some k) ((Kp.of_gb h5 (run_drawn _ _ hr)).mono (fun k _ e => (hF k).2 e.symm)) ⟨⟨xs ++ Lib.strCells (zs k0), h1.app (Rows.u8.2 (by rw [zstr]; simp [bs])), h4⟩, fun _ => Iff.rfl⟩ ?_))
 intro k hk
 rcases h6 with e | e
 ·exact .inl ((hF k).2 (e ▸ hk))
 ·rw [e] at hk
  cases hk
  exact .inr (Nat.le_refl _)
end
end Go.Proofs.YtkleajhiihbefaaGreatDoor.K
set_option linter.unusedVariables false
set_option linter.unusedSimpArgs false
set_option linter.unusedSectionVars false
namespace Go.Proofs.YtkleajhiihbefaaGreatDoor.K.E
open Go Go.RowKit
def mkz {α : Type} (b : Nat) (z : α) (n : Int) : Option (List α) := cond (decide (0 ≤ n) && decide ((b : Int) * n ≤ 281474976710656)) (some (List.replicate n.toNat z)) none
theorem mkz_some {α : Type} {b : Nat} {z : α} {n : Int} {l : List α} (h : mkz b z n = some l) : 0 ≤ n ∧ (b : Int) * n ≤ 281474976710656 ∧ l = List.replicate n.toNat z := by
 unfold mkz at h
 cases hc : (decide (0 ≤ n) && decide ((b : Int) * n ≤ 281474976710656)) with
 | false => rw [hc] at h; cases h
 | true =>
  rw [hc] at h
  rw [Bool.and_eq_true] at hc
  cases h
  exact ⟨of_decide_eq_true hc.1, of_decide_eq_true hc.2, rfl⟩
section
variable (P : Program) (tb : Tab) {ρ : Type}
def whichE {ρ : Type} (i : Int) (k : Nat → Option ρ) : Nat → Nat → Option ρ
 | _, 0 => none
 | j, n + 1 => cond (decide (i = (j : Int))) (k j) (whichE i k (j + 1) n)
theorem whichE_some {ρ : Type} {i : Int} {k : Nat → Option ρ} {a : ρ} : ∀ {j n : Nat}, whichE i k j n = some a → ∃ q : Nat, i = (q : Int) ∧ q < j + n ∧ k q = some a
 | _, 0, h => by cases h
 | j, n + 1, h => by
  simp only [whichE] at h
  rcases condT h with ⟨h1, h2⟩ | ⟨_, h2⟩
  ·exact ⟨j, of_decide_eq_true h1, by omega, h2⟩
  ·obtain ⟨q, e1, e2, e3⟩ := whichE_some h2
   exact ⟨q, e1, by omega, e3⟩
def idxM (t : TypeId) (a b : AV tb.T) (s : S tb.T) (k : KO tb.T ρ) : Option ρ := match a, iv b with
 | .row id, some i => match lk s.σ id with
  | some (_, .row n _ l) => cond (slB' P tb t n && Nat.blt 0 (tb.rep n).sz) ((idx l i).bind fun _ => k (.elt id i n 0) s) none
  | some (_, .lit _ _ _) => match frz tb s id with
   | some (.sl n l, s) => idxB P tb t (.sl n l) b (fun v => k v s)
   | _ => none
  | _ => none
 | .ptr id off, some i => match P.underlying t with
  | some (.array N e) => cond (arB P t N e (sizeA P e) && Nat.ble N 16) (whichE i (fun j => k (.ptr id (off + j * sizeA P e)) s) 0 N) none
  | _ => none
 | .cells off l, some i => match P.underlying t with
  | some (.array N e) => cond (arB P t N e (sizeA P e) && Nat.ble N 16) (whichE i (fun j => k (.cells (off + j * sizeA P e) l) s) 0 N) none
  | _ => none
 | _, _ => none
def lenM (t : TypeId) (a : AV tb.T) (s : S tb.T) (k : KO tb.T ρ) : Option ρ := match a with
 | .row id => match slcE P t, lk s.σ id with
  | some _, some (_, .row _ _ l) => k (.i64 (l.length : Int)) s
  | some _, some (_, .lit _ j _) => k (.i64 (j : Int)) s
  | _, _ => none
 | _ => none
def sliceM (t : TypeId) (a : AV tb.T) (lo hi : Option Operand) (s : S tb.T) (k : KO tb.T ρ) : Option ρ := match frzA tb 20 [a] s with
 | some ([a], s) => sliceB P tb (evA s.κ) t a lo hi (fun v => k v s)
 | _ => none
def u8L {T : Nat → Type} : List (AV T) → Option (List UInt8)
 | [] => some []
 | .u8 x :: r => match u8L r with
  | some l => some (x :: l)
  | none => none
 | _ => none
def convM (sT d : TypeId) (a : AV tb.T) (s : S tb.T) (k : KO tb.T ρ) : Option ρ := match a with
 | .str l => match (P.underlying sT).isSome, P.underlying d with
  | true, some (.slice e) => match P.underlying e with
   | some (.int .u8) => k (.sl tb.u8c (tb.ofu8 l)) s
   | _ => none
  | _, _ => none
 | .row id => match lk s.σ id, P.underlying sT, P.underlying d with
  | some (_, .row n _ l), some (.slice e), some .string => match P.underlying e, tb.tou8 n l with
   | some (.int .u8), some x => k (.str x) s
   | _, _ => none
  | some (_, .lit t kk c), some (.slice e), some (.slice _) => cond (Nat.beq sT d && (Nat.beq e t && Nat.ble kk 137438953472)) (match P.underlying e, u8L c with
   | some (.int .u8), some l => cond (Nat.beq l.length kk) (k (.sl tb.u8c (tb.ofu8 l)) (chg s id (.sl tb.u8c (tb.ofu8 l)))) none
   | _, _ => none) none
  | some (_, .lit _ _ _), _, _ => match frz tb s id with
   | some (b, s) => match convB P tb sT d b with
    | some v => k v s
    | none => none
   | none => none
  | _, _, _ => none
 | _ => none
def elC (t e sz : Nat) : Bool := match P.underlying t, P.info? e with
 | some (.slice e'), some i => Nat.beq e' e && (Nat.beq i.size sz && (Nat.blt 0 sz && (Nat.blt 0 i.bytes && (Nat.ble i.bytes 1024 && (match i.zero with
  | some z => Nat.beq z.cells.size sz
  | none => false)))))
 | _, _ => false
def elU8 (t e : Nat) : Bool := match P.underlying t, P.info? e with
 | some (.slice e'), some i => Nat.beq e' e && (Nat.beq i.size 1 && (Nat.beq i.bytes 1 && (match i.zero with
  | some (.int .u8 z) => decide (z = 0)
  | _ => false)))
 | _, _ => false
def newsA (n : Nat) (b : AV tb.T) (s : S tb.T) : Option (List (tb.T n) × S tb.T) := match b with
 | .sl n' l => match castL n n' l with
  | some x => some (x, s)
  | none => none
 | .nils => some ([], s)
 | .row id => match lk s.σ id with
  | some (_, .row n' _ l) => match castL n n' l with
   | some x => some (x, s)
   | none => none
  | some (_, .lit _ _ c) => match frzA tb 20 c s with
   | some (_, s) => match lk s.σ id with
    | some (_, .lit _ j c) => match imL tb n (tb.rep n).sz j c with
     | some x => some (x, delI s id)
     | none => none
    | _ => none
   | none => none
  | _ => none
 | _ => none
def baseA (n e : Nat) (a : AV tb.T) (s : S tb.T) : Option (List (tb.T n) × S tb.T) := match a with
 | .nils => some ([], s)
 | .row id => match lk s.σ id with
  | some (_, .row n' e' l) => cond (Nat.beq e' e) (match castL n n' l with
   | some x => some (x, delI s id)
   | none => none) none
  | some (_, .lit _ _ c) => match frzA tb 20 c s with
   | some (_, s) => match lk s.σ id with
    | some (_, .lit e' j c) => cond (Nat.beq e' e && Nat.ble j 137438953472) (match imL tb n (tb.rep n).sz j c with
     | some x => some (x, delI s id)
     | none => none) none
    | _ => none
   | none => none
  | _ => none
 | _ => none
def appU (e : TypeId) (x : List UInt8) (a : AV tb.T) (s : S tb.T) (k : KO tb.T ρ) : Option ρ := match a with
 | .nils => (app [] x).bind fun y => k (.row s.c) (addI s (.row tb.u8c e (tb.ofu8 y)))
 | .row id => match lk s.σ id with
  | some (_, .row n' e' l) => cond (Nat.beq e' e) (match tb.tou8 n' l with
   | some l => (app l x).bind fun y => k (.row s.c) (addI (delI s id) (.row tb.u8c e (tb.ofu8 y)))
   | none => none) none
  | _ => none
 | _ => none
def strT : Option TypeId := (List.range P.types.size).find? (isStrT P ·)
def isIntT (t : TypeId) : Bool := match P.underlying t with
 | some (.int _) => true
 | _ => false
def appM (t t2 : TypeId) (a b : AV tb.T) (s : S tb.T) (k : KO tb.T ρ) : Option ρ := match slcE P t with
 | none => none
 | some e => match b with
  | .str x => cond (isStrT P t2 && elU8 P t e) (appU tb e x a s k) none
  | .i64 x => cond (isIntT P t2 && (elU8 P t e && (strT P).isSome)) ((mkz 1 (0 : UInt8) x).bind fun z => appU tb e z a s k) none
  | b => match tb.code e with
   | none => none
   | some n => cond (Nat.beq t2 t && elC P t e (tb.rep n).sz) (match newsA tb n b s with
    | some (x, s) => match baseA tb n e a s with
     | some (l, s) => (app l x).bind fun y => k (.row s.c) (addI s (.row n e y))
     | none => none
    | none => none) none
end
section
variable {P : Program} {tb : Tab} {bs : Bs} {η : List Value} {m : Mem} {s : S tb.T} {w : World} {κc : Kn} {B : Code} {n : Cx} {p : List Nat} {i : Nat} {o : Oper} {ρ' : Type} {k : KO tb.T ρ'} {ans : ρ'} {a b v : AV tb.T} {x y : Value}
theorem slcE_ok {t e : Nat} (h : slcE P t = some e) : P.underlying t = some (.slice e) := by
 unfold slcE at h
 split at h
 ·cases h; assumption
 ·cases h
theorem elU8_ok {t e : Nat} (h : elU8 P t e = true) : elB P t e 1 1 (.int .u8 0) := by
 unfold elU8 at h
 split at h
 ·rename_i e' inf hu hi
  simp only [Bool.and_eq_true] at h
  obtain ⟨h1, h2, h3, h4⟩ := h
  have := beq_t h1
  subst this
  split at h4
  ·rename_i z hz
   have := of_decide_eq_true h4
   subst this
   exact ⟨hu, by simp [hi, hz, beq_t h2, beq_t h3]⟩
  ·cases h4
 ·cases h
theorem elC_ok {t e sz : Nat} (h : elC P t e sz = true) : ∃ by_ z, elB P t e sz by_ z ∧ z.cells.size = sz ∧ 0 < sz ∧ 0 < by_ ∧ by_ ≤ 1024 := by
 unfold elC at h
 split at h
 ·rename_i e' inf hu hi
  simp only [Bool.and_eq_true, Nat.blt_eq] at h
  obtain ⟨h1, h2, h3, h4, h5, h6⟩ := h
  have := beq_t h1
  subst this
  have := beq_t h2
  subst this
  cases hz : inf.zero with
  | none => rw [hz] at h6; cases h6
  | some z =>
   rw [hz] at h6
   exact ⟨inf.bytes, z, ⟨hu, by simp [hi, hz]⟩, beq_t h6, h3, h4, Nat.le_of_ble_eq_true h5⟩
 ·cases h
variable (hw : Wd tb bs η m s w) (hk : KR tb η m s.κ κc)
include hw hk
theorem idxM_step (T : TabOk tb) {t : TypeId} (fo' : fetch B n p i κc = some (o.dst, vS (Instr.indexAt t x y))) (ha : R tb η m a x) (hb : R tb η m b y) (h : idxM P tb t a b s k = some ans) : Step P B n p i κc w (YX tb bs η m o.dst s k ans κc) := by
 unfold idxM at h
 split at h
 ·rename_i id j hj
  obtain ⟨ik, rfl⟩ := iv_ok hj hb
  obtain ⟨hη, _⟩ := ha
  split at h
  ·rename_i st n' e l hl
   cases hc : (slB' P tb t n' && Nat.blt 0 (tb.rep n').sz) with
   | false => rw [hc] at h; cases h
   | true =>
    rw [hc] at h
    rw [Bool.and_eq_true] at hc
    obtain ⟨z, hz, h⟩ := bindE h
    obtain ⟨i0, i1, i2⟩ := idx_some hz
    obtain ⟨A, c, g1, H⟩ := hw.row hl
    rw [hη] at g1
    cases g1
    obtain ⟨ad, cs, hA, _⟩ := H.rowAt 0 rfl i2 (by simpa [Nat.blt_eq] using hc.2)
    cases hA
    obtain ⟨e2, he2⟩ := slB'_ok hc.1
    refine runR fo' (idx_run t e2 (tb.rep n').sz (some ad) ad l.length c ik j _ rfl he2 i0 i1 rfl) ⟨_, s, _, η, m, h, Ext.refl _, rfl, Le.refl _, Sub.refl _, ⟨ad, l.length, c, hη, i0, i1, ?_⟩, hk, hw⟩
    simp [Addr.add]
  ·split at h
   ·rename_i n' l s1 hf
    obtain ⟨h1, m1, h2, h3, h4, h5⟩ := frz_ok T hf hw hk
    obtain ⟨v, hv, u, hu, hr⟩ := idxB_ok T h4.gl h (h5.1 x ⟨hη, by assumption⟩) (R.mono (Le.refl _) h2 b hb)
    exact Step.imp (runR fo' (hu w h4.st.has) ⟨v, s1, u, η, m1, hv, h1, rfl, Le.refl _, h2, hr, h3, h4⟩) fun _ _ e => e
   ·cases h
  ·cases h
 ·rename_i id off j hj
  obtain ⟨ik, rfl⟩ := iv_ok hj hb
  obtain ⟨g, hg, rfl⟩ := ha
  split at h
  ·rename_i N e hu
   cases hc : (arB P t N e (sizeA P e) && Nat.ble N 16) with
   | false => rw [hc] at h; cases h
   | true =>
    rw [hc] at h
    simp only [Bool.and_eq_true] at hc
    obtain ⟨q, rfl, h1, h⟩ := whichE_some h
    refine runR fo' (idxA_run t N e (sizeA P e) ⟨g, off, none⟩ ik (q : Int) hc.1 (by omega) (by omega)) ⟨_, s, _, η, m, h, Ext.refl _, rfl, Le.refl _, Sub.refl _, ⟨g, hg, by rw [Addr.add_lit, Int.toNat_natCast]⟩, hk, hw⟩
  ·cases h
 ·rename_i off l j hj
  obtain ⟨ik, rfl⟩ := iv_ok hj hb
  obtain ⟨A, cs, rfl, h1, h2⟩ := ha
  split at h
  ·rename_i N e hu
   cases hc : (arB P t N e (sizeA P e) && Nat.ble N 16) with
   | false => rw [hc] at h; cases h
   | true =>
    rw [hc] at h
    simp only [Bool.and_eq_true] at hc
    obtain ⟨q, rfl, h3, h⟩ := whichE_some h
    refine runR fo' (idxA_run t N e (sizeA P e) (A.add off) ik (q : Int) hc.1 (by omega) (by omega)) ⟨_, s, _, η, m, h, Ext.refl _, rfl, Le.refl _, Sub.refl _, ⟨A, cs, by rw [add_add, Int.toNat_natCast], h1, h2⟩, hk, hw⟩
  ·cases h
 ·cases h
theorem lenM_step {t ty : TypeId} (fo' : fetch B n p i κc = some (o.dst, vS (Builtin.len_ #[t] ty #[x]))) (ha : R tb η m a x) (h : lenM P tb t a s k = some ans) : Step P B n p i κc w (YX tb bs η m o.dst s k ans κc) := by
 have run : ∀ (A : Option Addr) (l c e : Nat), P.underlying t = some (.slice e) → (vS (Builtin.len_ #[t] ty #[.slice A l c])).run P w = .ok (.value (.int .i64 (l : Int))) w := by
  intro A l c e hu
  refine vS_run ?_
  simp only [Builtin.len_, List.getElem?_toArray, List.getElem?_cons_zero, Sem.run_bind, run_und hu, Result.andThen_ok]
  rfl
 unfold lenM at h
 split at h
 ·rename_i id
  obtain ⟨hη, _⟩ := ha
  split at h
  ·rename_i e st n' e' l he hl
   obtain ⟨A, c, g1, H⟩ := hw.row hl
   rw [hη] at g1
   cases g1
   exact runR fo' (run _ _ _ e (slcE_ok he)) ⟨_, s, _, η, m, h, Ext.refl _, rfl, Le.refl _, Sub.refl _, rfl, hk, hw⟩
  ·rename_i e st t' j c he hl
   obtain ⟨g, cs, g1, _⟩ := hw.lit hl
   rw [hη] at g1
   cases g1
   exact runR fo' (run _ _ _ e (slcE_ok he)) ⟨_, s, _, η, m, h, Ext.refl _, rfl, Le.refl _, Sub.refl _, rfl, hk, hw⟩
  ·cases h
 ·cases h
theorem sliceM_step (T : TabOk tb) {t : TypeId} {lo hi : Option Operand} (fo' : fetch B n p i κc = some (o.dst, vS (Instr.sliceAt t x (lo.map (evT κc)) (hi.map (evT κc)) none))) (ha : R tb η m a x) (h : sliceM P tb t a lo hi s k = some ans) : Step P B n p i κc w (YX tb bs η m o.dst s k ans κc) := by
 unfold sliceM at h
 split at h
 ·rename_i a' s1 hf
  obtain ⟨h1, m1, h2, h3, h4, h5⟩ := frzA_ok T 20 hf hw hk (RL.mk1 ha)
  obtain ⟨x', hx', ha'⟩ := h5.one
  cases hx'
  obtain ⟨v, hv, u, hu, hr⟩ := sliceB_ok h3.ev h ha'
  exact runR fo' (hu w h4.st.has) ⟨v, s1, u, η, m1, hv, h1, rfl, Le.refl _, h2, hr, h3, h4⟩
 ·cases h
omit hw hk in
theorem u8L_ok : ∀ {c : List (AV tb.T)} {l : List UInt8} {cs : List Value}, u8L c = some l → RL tb η m c cs → cs = K.bs l
 | [], l, cs, h, hr => by
  simp only [u8L, Option.some.injEq] at h
  subst h
  exact hr
 | a :: r, l, cs, h, ⟨v, vs, h1, h2, h3⟩ => by
  subst h1
  unfold u8L at h
  split at h
  ·rename_i e; cases e
  ·rename_i x r' e
   cases e
   split at h
   ·rename_i l' hl
    cases h
    have h2 : v = .int .u8 (x.toNat : Int) := h2
    rw [u8L_ok hl h3, h2]
    rfl
   ·cases h
  ·cases h
theorem convM_step (T : TabOk tb) {sT d : TypeId} (fo' : fetch B n p i κc = some (o.dst, vS (convert sT d x))) (ha : R tb η m a x) (h : convM P tb sT d a s k = some ans) : Step P B n p i κc w (YX tb bs η m o.dst s k ans κc) := by
 unfold convM at h
 split at h
 ·rename_i l
  obtain ⟨rfl, hl⟩ := ha
  split at h
  ·rename_i e hs hu
   split at h
   ·rename_i he
    obtain ⟨ds, hds⟩ := Option.isSome_iff_exists.1 hs
    refine s2bS (H := hw.st) o.dst sT d e l hds hu he fo' ?_ hl
    intro A' c' m1 w1 h1 h2 H1
    have h3 : (.slice A' l.length c' : Value) = .slice A' (tb.ofu8 l).length c' ∧ SlI (tb.rep tb.u8c) m1 A' c' (tb.ofu8 l) := T.ofu8 (x := l) (fun α r y => (Value.slice A' l.length c' = .slice A' y.length c') ∧ SlI r m1 A' c' y) ⟨rfl, h2⟩
    exact ⟨_, s, _, η, m1, h, Ext.refl _, rfl, Le.refl _, h1, ⟨A', c', h3.1, h3.2⟩, hk.mono (Le.refl _) h1, hw.len, hw.le, St_imp H1 (fun _ e => e), Glob.mono hw.gl h1⟩
   ·cases h
  ·cases h
 ·rename_i id
  obtain ⟨hη, _⟩ := ha
  split at h
  ·rename_i st n' e' l e hl hus hud
   split at h
   ·rename_i z hue hz
    obtain ⟨A, c, g1, H⟩ := hw.row hl
    rw [hη] at g1
    cases g1
    have h3 : ∃ F0, l.length = z.length ∧ (rowI rU8 e' A c z).P m w F0 := by
     obtain ⟨F, ⟨F1, F2, h1, _⟩, _⟩ := H.sep
     exact ⟨F1, T.tou8 hz (fun α r y => l.length = y.length ∧ (rowI r e' A c y).P m w F1) ⟨rfl, h1⟩⟩
    obtain ⟨F0, h4, ⟨xs, h5, h6⟩, h7⟩ := h3
    rw [Rows.u8.1 h5] at h6
    have hcap := own_cap h6
    rw [h4] at fo'
    exact runR fo' (b2s_run sT d e A z.length c z hus hue hud (Cs.of_own h6) rfl) ⟨_, s, _, η, m, h, Ext.refl _, rfl, Le.refl _, Sub.refl _, ⟨rfl, Nat.le_trans hcap.1 hcap.2⟩, hk, hw⟩
   ·cases h
  ·rename_i st t kk c e e' hl hus hud
   cases hb : (Nat.beq sT d && (Nat.beq e t && Nat.ble kk 137438953472)) with
   | false => rw [hb] at h; cases h
   | true =>
    rw [hb] at h
    rw [Bool.and_eq_true, Bool.and_eq_true] at hb
    have e1 := beq_t hb.1
    have e2 := beq_t hb.2.1
    subst e1 e2
    simp only [cond_true] at h
    split at h
    ·rename_i l hue hul
     cases hkl : Nat.beq l.length kk with
     | false => rw [hkl] at h; cases h
     | true =>
      have e3 := beq_t hkl
      subst e3
      rw [hkl] at h
      simp only [cond_true] at h
      obtain ⟨g, cs, g1, g2, H⟩ := hw.lit hl
      rw [hη] at g1
      cases g1
      have hcs := u8L_ok hul g2
      subst hcs
      refine litcS (H := H) o.dst sT e 0 g l rfl fo' hus hue (Nat.le_trans (Nat.le_of_ble_eq_true hb.2.2) (by decide)) ?_
      intro m1 w1 hs1 hsl H1
      have h3 : (.slice (some ⟨g, 0, none⟩) l.length l.length : Value) = .slice (some ⟨g, 0, none⟩) (tb.ofu8 l).length l.length ∧ SlI (tb.rep tb.u8c) m1 (some ⟨g, 0, none⟩) l.length (tb.ofu8 l) := T.ofu8 (x := l) (fun α r y => (Value.slice (some ⟨g, 0, none⟩) l.length l.length = .slice (some ⟨g, 0, none⟩) y.length l.length) ∧ SlI r m1 (some ⟨g, 0, none⟩) l.length y) ⟨rfl, hsl⟩
      have hR : R tb η m1 (.sl tb.u8c (tb.ofu8 l)) (.slice (some ⟨g, 0, none⟩) l.length l.length) := ⟨some ⟨g, 0, none⟩, l.length, h3.1, h3.2⟩
      obtain ⟨k1, k2⟩ := chg_ok (w' := w1) (b := .sl tb.u8c (tb.ofu8 l)) hw hk hs1 H1 ⟨by
       rintro v ⟨h8, _⟩
       rw [hη] at h8
       cases h8
       exact hR, fun o v e => e⟩
      exact ⟨_, _, _, η, m1, h, chg_ext, rfl, Le.refl _, hs1, hR, k1, k2⟩
    ·cases h
  ·split at h
   ·rename_i b s1 hf
    obtain ⟨h1, m1, h2, h3, h4, h5⟩ := frz_ok T hf hw hk
    split at h
    ·rename_i v hv
     obtain ⟨u, hu, hr⟩ := convB_ok T hv (h5.1 x ⟨hη, by assumption⟩)
     exact runR fo' (hu w h4.st.has) ⟨v, s1, u, η, m1, h, h1, rfl, Le.refl _, h2, hr, h3, h4⟩
    ·cases h
   ·cases h
  ·cases h
 ·cases h
omit hk in
theorem newsA_ok (T : TabOk tb) {n1 : Nat} {z : List (tb.T n1)} {s1 : S tb.T} (hk : KR tb η m s.κ κc) (h : newsA tb n1 b s = some (z, s1)) (hb : R tb η m b y) :
  ∃ m1, Ext s s1 ∧ Sub m m1 ∧ KR tb η m1 s1.κ κc ∧ Wd tb bs η m1 s1 w ∧ ∃ X c' news, y = .slice X z.length c' ∧ Rows (tb.rep n1) m1 news z ∧ Cs 0 w.heap.size w X news := by
 unfold newsA at h
 split at h
 ·rename_i n' l
  cases hc : castL n1 n' l with
  | none => rw [hc] at h; cases h
  | some z' =>
   rw [hc] at h
   cases h
   obtain ⟨en, rfl⟩ := castL_some hc
   subst en
   obtain ⟨A, c, rfl, hs⟩ := hb
   obtain ⟨xs, h1, h2⟩ := hs.cs
   exact ⟨m, Ext.refl _, Sub.refl _, hk, hw, A, c, xs, rfl, h1, h2.cs hw.st.has⟩
 ·cases h
  have hb : y = .slice none 0 0 := hb
  subst hb
  exact ⟨m, Ext.refl _, Sub.refl _, hk, hw, none, 0, [], rfl, rfl, Cs.nil _ _ _ _⟩
 ·rename_i id
  obtain ⟨hη, _⟩ := hb
  split at h
  ·rename_i st n' e' l hl
   cases hc : castL n1 n' l with
   | none => rw [hc] at h; cases h
   | some z' =>
    rw [hc] at h
    cases h
    obtain ⟨en, rfl⟩ := castL_some hc
    subst en
    obtain ⟨A, c, g1, H⟩ := hw.row hl
    rw [hη] at g1
    cases g1
    obtain ⟨xs, h1, h2⟩ := H.rowCs' 0 rfl
    exact ⟨m, Ext.refl _, Sub.refl _, hk, hw, A, c, xs, rfl, h1, h2⟩
  ·rename_i st t' j0 c hl
   split at h
   ·rename_i c2 s2 hf
    obtain ⟨g0, cs0, _, hr0, _⟩ := hw.lit hl
    obtain ⟨h1, m1, h2, h3, h4, _⟩ := frzA_ok T 20 hf hw hk hr0
    split at h
    ·rename_i st2 t2 j c3 hl2
     split at h
     ·rename_i z' hz
      cases h
      obtain ⟨g, cs, g1, hr, H⟩ := h4.lit hl2
      obtain ⟨h6, h7⟩ := imL_ok T hz hr
      rw [hη] at g1
      cases g1
      have hg := H.blk 0 rfl
      exact ⟨m1, h1.trans (Ext.del h4 id), h2, h3, h4.drop hl2, some ⟨g, 0, none⟩, j, cs, by rw [h7], h6, (Cs.of_blk hg).old⟩
     ·cases h
    ·cases h
   ·cases h
  ·cases h
 ·cases h
omit hk in
theorem baseA_ok (T : TabOk tb) {n1 e : Nat} {z : List (tb.T n1)} {s1 : S tb.T} (hk : KR tb η m s.κ κc) (h : baseA tb n1 e a s = some (z, s1)) (ha : R tb η m a x) :
  ∃ m1, Ext s s1 ∧ Sub m m1 ∧ KR tb η m1 s1.κ κc ∧ Wd tb bs η m1 s1 w ∧ ∃ A c, x = .slice A z.length c ∧ St bs.w0 bs.F0 bs.m0 m1 (rowI (tb.rep n1) e A c z :: its tb η s1.σ) w := by
 unfold baseA at h
 split at h
 ·cases h
  have ha : x = .slice none 0 0 := ha
  subst ha
  exact ⟨m, Ext.refl _, Sub.refl _, hk, hw, none, 0, rfl, hw.st.nilR _ _⟩
 ·rename_i id
  obtain ⟨hη, _⟩ := ha
  split at h
  ·rename_i st n' e' l hl
   cases hc : Nat.beq e' e with
   | false => rw [hc] at h; cases h
   | true =>
    rw [hc] at h
    have := beq_t hc
    subst this
    simp only [cond_true] at h
    split at h
    ·rename_i z' hz
     cases h
     obtain ⟨en, rfl⟩ := castL_some hz
     subst en
     obtain ⟨A, c, g1, H⟩ := hw.row hl
     rw [hη] at g1
     cases g1
     exact ⟨m, Ext.del hw id, Sub.refl _, hk, hw.drop hl, A, c, rfl, H⟩
    ·cases h
  ·rename_i st t' j0 c hl
   split at h
   ·rename_i c2 s2 hf
    obtain ⟨g0, cs0, _, hr0, _⟩ := hw.lit hl
    obtain ⟨h1, m1, h2, h3, h4, _⟩ := frzA_ok T 20 hf hw hk hr0
    split at h
    ·rename_i st2 t2 j c3 hl2
     cases hc : (Nat.beq t2 e && Nat.ble j 137438953472) with
     | false => rw [hc] at h; cases h
     | true =>
      rw [hc] at h
      rw [Bool.and_eq_true] at hc
      have := beq_t hc.1
      subst this
      simp only [cond_true] at h
      split at h
      ·rename_i z' hz
       cases h
       obtain ⟨g, cs, g1, hr, H⟩ := h4.lit hl2
       obtain ⟨h6, h7⟩ := lit_row T hz (Nat.le_of_ble_eq_true hc.2) hr H
       rw [hη] at g1
       cases g1
       exact ⟨m1, h1.trans (Ext.del h4 id), h2, h3, h4.drop hl2, some ⟨g, 0, none⟩, z.length, by rw [h6], h7⟩
      ·cases h
    ·cases h
   ·cases h
  ·cases h
 ·cases h
theorem appU_step (T : TabOk tb) {e : TypeId} {z : List UInt8} (ha : R tb η m a x) (h : appU tb e z a s k = some ans)
  (hS : ∀ {σ : List Item} {Z : Kn → World → Prop} {l yy : List UInt8} {A : Option Addr} {c : Nat}, x = .slice A l.length c → St bs.w0 bs.F0 bs.m0 m (rowI rU8 e A c l :: σ) w → app l z = some yy → (∀ A' c1 w1, St bs.w0 bs.F0 bs.m0 m (rowI rU8 e A' c1 yy :: σ) w1 → Z (putk o.dst (.slice A' yy.length c1) κc) w1) → Step P B n p i κc w Z) : Step P B n p i κc w (YX tb bs η m o.dst s k ans κc) := by
 unfold appU at h
 have fin : ∀ {s1 : S tb.T} {l yy : List UInt8} {A : Option Addr} {c : Nat}, Ext s s1 → KR tb η m s1.κ κc → Wd tb bs η m s1 w → x = .slice A l.length c → St bs.w0 bs.F0 bs.m0 m (rowI rU8 e A c l :: its tb η s1.σ) w → app l z = some yy →
   k (.row s1.c) (addI s1 (.row tb.u8c e (tb.ofu8 yy))) = some ans → Step P B n p i κc w (YX tb bs η m o.dst s k ans κc) := by
  intro s1 l yy A c k1 k3 q4 hx H hy h
  refine hS hx H hy ?_
  intro A' c1 w1 H1
  have e1 : yy.length = (tb.ofu8 yy).length := T.ofu8 (x := yy) (fun α r y => yy.length = y.length) rfl
  have hadd := q4.add q4.gl (x := .row tb.u8c e (tb.ofu8 yy)) (u := .slice A' yy.length c1) (w' := w1) (St_conv H1 (fun F hF => ⟨A', c1, by rw [← e1]; exact at_new q4 _, T.ofu8 (x := yy) (fun α r y => (rowI r e A' c1 y).P m w1 F) hF⟩) (fun _ hF => hF))
  exact ⟨_, _, _, _, m, h, k1.trans (Ext.add _ _), rfl, Le.app _ _, Sub.refl _, ⟨at_new q4 _, rfl⟩, k3.mono (Le.app _ _) (Sub.refl _), hadd⟩
 split at h
 ·obtain ⟨yy, hy, h⟩ := bindE h
  have ha : x = .slice none 0 0 := ha
  exact fin (Ext.refl _) hk hw ha (hw.st.nilR _ _) hy h
 ·rename_i id
  obtain ⟨hη, _⟩ := ha
  split at h
  ·rename_i st n' e' l hl
   cases hbe : Nat.beq e' e with
   | false => rw [hbe] at h; cases h
   | true =>
    rw [hbe] at h
    have := beq_t hbe
    subst this
    simp only [cond_true] at h
    split at h
    ·rename_i l' hl'
     obtain ⟨yy, hy, h⟩ := bindE h
     obtain ⟨A, c, g1, H⟩ := hw.row hl
     rw [hη] at g1
     cases g1
     have hlen : l.length = l'.length := T.tou8 hl' (fun α r y => l.length = y.length) rfl
     refine fin (Ext.del hw id) hk (hw.drop hl) (by rw [hlen]) (St_conv H (fun F hF => ?_) (fun _ e => e)) hy h
     exact T.tou8 hl' (fun α r y => (rowI r e' A c y).P m w F) hF
    ·cases h
  ·cases h
 ·cases h
theorem appM_step (T : TabOk tb) {t t2 ty : TypeId} (fo' : fetch B n p i κc = some (o.dst, vS (Builtin.append_ #[t, t2] ty #[x, y]))) (ha : R tb η m a x) (hb : R tb η m b y) (h : appM P tb t t2 a b s k = some ans) : Step P B n p i κc w (YX tb bs η m o.dst s k ans κc) := by
 unfold appM at h
 split at h
 ·cases h
 ·rename_i e he
  split at h
  ·rename_i z
   obtain ⟨rfl, hzl⟩ := hb
   cases hc : (isStrT P t2 && elU8 P t e) with
   | false => rw [hc] at h; cases h
   | true =>
    rw [hc] at h
    rw [Bool.and_eq_true] at hc
    simp only [cond_true] at h
    exact appU_step hw hk T ha h (fun hx H hy hk1 => by
     subst hx
     exact appstrS (H := H) o.dst t t2 e ty 0 _ _ _ z _ rfl (elU8_ok hc.2) (isStrT_ok hc.1) fo' hy hk1)
  ·rename_i z
   obtain rfl : y = .int .i64 z := hb
   cases hc : (isIntT P t2 && (elU8 P t e && (strT P).isSome)) with
   | false => rw [hc] at h; cases h
   | true =>
    rw [hc] at h
    rw [Bool.and_eq_true, Bool.and_eq_true] at hc
    simp only [cond_true] at h
    obtain ⟨zz, hz, h⟩ := bindE h
    obtain ⟨g0, g1, rfl⟩ := mkz_some hz
    obtain ⟨ik1, hu⟩ : ∃ ik1, P.underlying t2 = some (.int ik1) := by
     have := hc.1
     unfold isIntT at this
     split at this
     ·exact ⟨_, by assumption⟩
     ·cases this
    obtain ⟨us, hus⟩ := Option.isSome_iff_exists.1 hc.2.2
    have hus' := isStrT_ok (List.find?_some hus)
    exact appU_step hw hk T ha h (fun hx H hy hk1 => by
     subst hx
     refine appzS (ik' := .i64) (H := H) o.dst t t2 e ty 0 _ _ _ _ z.toNat rfl (elU8_ok hc.2.1) hu hus' ?_ hy hk1
     rw [show ((z.toNat : Nat) : Int) = z by omega]
     exact fo')
  ·split at h
   ·cases h
   ·rename_i n1 hn1
    cases hc : (Nat.beq t2 t && elC P t e (tb.rep n1).sz) with
    | false => rw [hc] at h; cases h
    | true =>
     rw [hc] at h
     rw [Bool.and_eq_true] at hc
     have := beq_t hc.1
     subst this
     simp only [cond_true] at h
     split at h
     ·rename_i z s1 hz
      obtain ⟨m1, k1, k2, k3, k4, X, c', news, rfl, k5, k6⟩ := newsA_ok hw T hk hz hb
      split at h
      ·rename_i l s2 hl
       obtain ⟨m2, q1, q2, q3, q4, A, c, rfl, H⟩ := baseA_ok k4 T k3 hl (R.mono (Le.refl _) k2 a ha)
       obtain ⟨yy, hy, h⟩ := bindE h
       obtain ⟨by_, z0, e1, e2, e3, e4, e5⟩ := elC_ok hc.2
       refine appS (H := H) o.dst t2 e by_ z0 ty 0 A X c z.length c' l z yy news rfl e1 e2 e3 fo' k6 (k5.mono q2) rfl hy e4 e5 ?_
       intro A' c1 w1 H1
       have hadd := q4.add q4.gl (x := .row n1 e yy) (u := .slice A' yy.length c1) (w' := w1) (St_conv H1 (fun F hF => ⟨A', c1, at_new q4 _, hF⟩) (fun _ hF => hF))
       exact ⟨_, _, _, _, m2, h, (k1.trans q1).trans (Ext.add _ _), rfl, Le.app _ _, k2.trans q2, ⟨at_new q4 _, rfl⟩, q3.mono (Le.app _ _) (Sub.refl _), hadd⟩
      ·cases h
     ·cases h
end
theorem made1 (u : Value) (n : Nat) : madeCells #[u] n = (List.replicate n u).toArray := by
 apply Array.ext'
 unfold madeCells
 simp only [Array.toList_map, Array.toList_range]
 rw [List.eq_replicate_iff]
 refine ⟨by simp, fun b hb => ?_⟩
 obtain ⟨i, _, rfl⟩ := List.mem_map.1 hb
 simp [Nat.mod_one]
theorem rows_rep {α : Type} {r : Rep α} {m : Mem} {u : Value} {z : α} (h : r.im m [u] z) : ∀ k : Nat, Rows r m (List.replicate k u) (List.replicate k z)
 | 0 => rfl
 | k + 1 => ⟨[u], List.replicate k u, rfl, h, rows_rep h k⟩
def opEq : Operand → Operand → Bool
 | .tmp a, .tmp b => Nat.beq a b
 | .const (.int .i64 a), .const (.int .i64 b) => decide (a = b)
 | _, _ => false
section
variable (P : Program) (tb : Tab) {ρ : Type}
def makM (t : TypeId) (l c : Operand) (s : S tb.T) (k : KO tb.T ρ) : Option ρ := cond (opEq l c) (match slcE P t, evA s.κ l with
 | some e, some (.i64 x) => match P.info? e, tb.code e with
  | some i, some n => match i.zero with
   | some z => cond (Nat.beq i.size 1 && Nat.ble 1 i.bytes) (match z.cells.toList with
    | [u] => match tb.im n [cst u] with
     | some zz => (mkz i.bytes zz x).bind fun y => k (.row s.c) (addI s (.row n e y))
     | none => none
    | _ => none) none
   | none => none
  | _, _ => none
 | _, _ => none) none
end
section
variable {P : Program} {tb : Tab} {bs : Bs} {η : List Value} {m : Mem} {s : S tb.T} {w : World} {κc : Kn} {B : Code} {n : Cx} {p : List Nat} {i : Nat} {o : Oper} {ρ' : Type} {k : KO tb.T ρ'} {ans : ρ'}
theorem makM_step (T : TabOk tb) (hw : Wd tb bs η m s w) (hk : KR tb η m s.κ κc) (fo : fetch B n p i κc = some (o.dst, execOp (evT κc) o)) {t : TypeId} {l c : Operand} (ho : o.op = .makeSlice t l c) (h : makM P tb t l c s k = some ans) : Step P B n p i κc w (YX tb bs η m o.dst s k ans κc) := by
 unfold makM at h
 cases hq : opEq l c with
 | false => rw [hq] at h; cases h
 | true =>
  rw [hq] at h
  simp only [cond_true] at h
  have hlc : evT κc c = evT κc l := by
   unfold opEq at hq
   split at hq
   ·have := beq_t hq; subst this; rfl
   ·have := of_decide_eq_true hq; subst this; rfl
   ·cases hq
  split at h
  ·rename_i e x he hx
   split at h
   ·rename_i inf nn hi hn
    split at h
    ·rename_i z hz
     cases hb : (Nat.beq inf.size 1 && Nat.ble 1 inf.bytes) with
     | false => rw [hb] at h; cases h
     | true =>
      rw [hb] at h
      rw [Bool.and_eq_true] at hb
      have hs1 := beq_t hb.1
      have hb1 := Nat.le_of_ble_eq_true hb.2
      simp only [cond_true] at h
      split at h
      ·rename_i u hu
       split at h
       ·rename_i zz hzz
        obtain ⟨y, hy, h⟩ := bindE h
        obtain ⟨g0, g1, rfl⟩ := mkz_some hy
        have hzc : z.cells = #[u] := by apply Array.ext'; rw [hu]
        have hut : P.underlying t = some (.slice e) := by
         unfold slcE at he
         split at he
         ·cases he; assumption
         ·cases he
        have hxe : evT κc l = .int .i64 x := hk.ev _ _ hx
        have him : (tb.rep nn).im m [u] zz := T.im (η := η) hzz ⟨u, [], rfl, cst_ok u, rfl⟩
        have hsz : (tb.rep nn).sz = 1 := ((tb.rep nn).len him).symm
        have hle : x ≤ 281474976710656 := by
         have : (1 : Int) * x ≤ (inf.bytes : Int) * x := Int.mul_le_mul_of_nonneg_right (by omega) g0
         omega
        have hrun := run_make (P := P) w t e inf z hut hi hz .i64 .i64 x x g0 (Int.le_refl _) g1 (by omega)
        rw [hs1, Nat.mul_one, hzc, made1] at hrun
        have hown : (w.alloc (.cells (List.replicate x.toNat u).toArray e)).ownsRow 0 e (tb.rep nn).sz (.slice (some ⟨w.heap.size, 0, none⟩) x.toNat x.toNat) x.toNat (List.replicate x.toNat u) := by
         have := own_of_blk (w := w.alloc (.cells (List.replicate x.toNat u).toArray e)) (g := w.heap.size) (base := 0) (n := x.toNat) (sz := (tb.rep nn).sz) (e := e) (c := (List.replicate x.toNat u).toArray) (heap_alloc_new w _) (Nat.zero_le _) (by simp only [maxLen]; omega) (by rw [hsz]; simp)
         simpa using this
        have hl : (List.replicate x.toNat zz).length = x.toNat := List.length_replicate ..
        have hadd := hw.add hw.gl (x := .row nn e (List.replicate x.toNat zz)) (u := .slice (some ⟨w.heap.size, 0, none⟩) x.toNat x.toNat) (w' := w.alloc (.cells (List.replicate x.toNat u).toArray e))
         (St_conv (hw.st.add (j := rowI (tb.rep nn) e (some ⟨w.heap.size, 0, none⟩) x.toNat (List.replicate x.toNat zz)) (G := fun k => k = w.heap.size) (Ex.alloc w _)
          ⟨⟨_, rows_rep him x.toNat, by rw [hl]; exact hown⟩, fun k => ⟨fun e => by subst e; rfl, fun e => by cases e; rfl⟩⟩ (fun k e => by subst e; exact Nat.le_refl _))
          (fun F hF => ⟨_, _, by rw [hl]; exact at_new hw _, hF⟩) (fun _ hF => hF))
        refine runR fo (v := .slice (some ⟨w.heap.size, 0, none⟩) x.toNat x.toNat) (w' := w.alloc (.cells (List.replicate x.toNat u).toArray e)) ?_ ⟨_, _, _, _, m, h, Ext.add _ _, rfl, Le.app _ _, Sub.refl _, ⟨at_new hw _, rfl⟩, hk.mono (Le.app _ _) (Sub.refl _), hadd⟩
        unfold execOp
        rw [ho]
        simp only [hlc, hxe]
        show (vS (Instr.makeSlice t (.int .i64 x) (.int .i64 x))).run P w = _
        unfold vS
        simp only [Sem.run_bind, hrun, Result.andThen_ok]
        rfl
       ·cases h
      ·cases h
    ·cases h
   ·cases h
  ·cases h
end
end Go.Proofs.YtkleajhiihbefaaGreatDoor.K.E
set_option linter.unusedVariables false
set_option linter.unusedSimpArgs false
set_option linter.unusedSectionVars false
namespace Go.Proofs.YtkleajhiihbefaaGreatDoor.K.E
open Go Go.RowKit
open Classical in
noncomputable def fork {ρ : Type} (x y : Option ρ) : Option ρ := if x = y then x else none
theorem fork_some {ρ : Type} {x y : Option ρ} {a : ρ} (h : fork x y = some a) : x = some a ∧ y = some a := by
 unfold fork at h
 split at h
 ·rename_i e; subst e; exact ⟨h, h⟩
 ·cases h
theorem fork_same {ρ : Type} (x : Option ρ) : fork x x = x := if_pos rfl
section
variable (P : Program) (tb : Tab) {ρ : Type}
def zmA {T : Nat → Type} (P : Program) (vt : TypeId) : Option (Bool × List (AV T)) := match P.info? vt with
 | some i => match i.zero with
  | some (.agg cs) => some (true, cs.toList.map cst1)
  | some v => cond v.oneCell' (some (false, [cst1 v])) none
  | none => none
 | none => none
def mapT {k : Nat} (d : MP tb.T tb.rep k) (t : TypeId) : Option TypeId := match P.underlying t with
 | some (.map kt vt) => match P.underlying kt with
  | some td => cond (d.ktd td) (some vt) none
  | none => none
 | _ => none
def withMap {C : Type} (s : S tb.T) (a : AV tb.T) (f : (id k : Nat) → MP tb.T tb.rep k → tb.T k → Option C) : Option C := match a with
 | .row id => match lk s.σ id with
  | some (_, .gen k x j) => cond (Nat.beq j id) (match tb.mp k with
   | some d => f id k d x
   | none => none) none
  | _ => none
 | _ => none
theorem withMap_some {C : Type} {s : S tb.T} {a : AV tb.T} {f : (id k : Nat) → MP tb.T tb.rep k → tb.T k → Option C} {c : C} (h : withMap tb s a f = some c) : ∃ id st k d x, a = .row id ∧ lk s.σ id = some (st, .gen k x id) ∧ tb.mp k = some d ∧ f id k d x = some c := by
 unfold withMap at h
 split at h
 ·rename_i id
  split at h
  ·rename_i st k x j hl
   cases hb : Nat.beq j id with
   | false => rw [hb] at h; cases h
   | true =>
    have := beq_t hb
    subst this
    rw [hb] at h
    simp only [cond_true] at h
    split at h
    ·rename_i d hd
     exact ⟨j, st, k, d, x, rfl, hl, hd, h⟩
    ·cases h
  ·cases h
 ·cases h
def mkM (t : TypeId) (s : S tb.T) (k : KO tb.T ρ) : Option ρ := match tb.gcode t with
 | some kk => match tb.mp kk with
  | some d => k (.row s.c) (addI s (.gen kk (d.of []) s.c))
  | none => none
 | none => none
def valA {T : Nat → Type} (g : Bool) (l : List (AV T)) : Option (AV T) := match g with
 | true => some (.agg l)
 | false => match l with
  | [a] => some a
  | _ => none
def valC {T : Nat → Type} (g : Bool) (a : AV T) : Option (List (AV T)) := match g with
 | true => match a with
  | .agg l => some l
  | _ => none
 | false => cond (oneA a) (some [a]) none
def beqB : Bool → Bool → Bool
 | true, b => b
 | false, b => !b
theorem beqB_ok {a b : Bool} (h : beqB a b = true) : a = b := by
 cases a <;> cases b <;> first | rfl | cases h
def lookV (t : TypeId) (b : AV tb.T) (ok : Bool) (s : S tb.T) (k : KO tb.T ρ) {kk : Nat} (d : MP tb.T tb.rep kk) (x : tb.T kk) : Option ρ := match mapT P tb d t with
 | some vt => match zmA P vt, d.va b with
  | some (g, zc), some key => cond (beqB g d.g) (match tb.im d.n zc with
   | some z => match valA d.g (tb.ex d.n ((mget (d.to x) key).getD z)) with
    | some v => k (cond ok (.tup [v, .bool (mget (d.to x) key).isSome]) v) s
    | none => none
   | none => none) none
  | _, _ => none
 | none => none
def lookM (t : TypeId) (a b : AV tb.T) (ok : Bool) (s : S tb.T) (k : KO tb.T ρ) : Option ρ := match a with
 | .one kk x => match tb.mp kk with
  | some d => lookV P tb t b ok s k d x
  | none => none
 | _ => withMap tb s a fun _ _ d x => lookV P tb t b ok s k d x
def mputM (t : TypeId) (a b c : AV tb.T) (s : S tb.T) (k : KO tb.T ρ) : Option ρ := match frzA tb 20 [c] s with
 | some ([c], s) => withMap tb s a fun id kk d x => match mapT P tb d t, d.va b, valC d.g c with
  | some _, some key, some l => match tb.im d.n l with
   | some y => k undA { s with σ := sto s.σ id s.d (.gen kk (d.of (mput (d.to x) key y)) id), d := s.d + 1 }
   | none => none
  | _, _, _ => none
 | _ => none
def emptyA (s : S tb.T) (a : AV tb.T) : Option Bool := match a with
 | .sl n l => cond (Nat.blt 0 (tb.rep n).sz) (some l.isEmpty) none
 | .row id => match lk s.σ id with
  | some (_, .row n _ l) => cond (Nat.blt 0 (tb.rep n).sz) (some l.isEmpty) none
  | some (_, .lit _ _ _) => some false
  | _ => none
 | _ => none
noncomputable def nilM (op : BinOp) (e : Bool) (s : S tb.T) (k : KO tb.T ρ) : Option ρ := match op with
 | .eql => cond e (fork (k (.bool true) s) (k (.bool false) s)) (k (.bool false) s)
 | .neq => cond e (fork (k (.bool false) s) (k (.bool true) s)) (k (.bool true) s)
 | _ => none
def eqA1 {T : Nat → Type} (d : Option TypeDesc) (a b : AV T) : Option Bool := match d, a, b with
 | some (.int _), .i64 x, .i64 y => some (x == y)
 | some .bool, .bool x, .bool y => some (x == y)
 | some .string, .str x, .str y => some (x == y)
 | _, _, _ => none
def eqAs {T : Nat → Type} (xs ys : List (AV T)) : List Field → Option Bool
 | [] => some true
 | f :: fs => cond (f.name == "_") none (match P.plainKey f.type, xs[f.offset]?, ys[f.offset]? with
  | true, some x, some y => match eqA1 (P.underlying f.type) x y with
   | some c => match eqAs xs ys fs with
    | some r => some (c && r)
    | none => none
   | none => none
  | _, _, _ => none)
def eqM {T : Nat → Type} (op : BinOp) (t : TypeId) (xs ys : List (AV T)) (k : AV T → Option ρ) : Option ρ := cond (!P.eqGuardType P.depth t && (!P.stoodInHeld t && (match P.underlying t with
 | some (.struct _) => true
 | _ => false))) (match eqAs P xs ys (P.fieldsOf t).toList with
 | some b => match op with
  | .eql => k (.bool b)
  | .neq => k (.bool (!b))
  | _ => none
 | none => none) none
def storeE (t : TypeId) (id : Nat) (i : Int) (n : Nat) (off : Nat) (a : AV tb.T) (s : S tb.T) (k : KO tb.T ρ) : Option ρ := match frzA tb 20 [a] s with
 | some ([.agg c], s) => match lk s.σ id with
  | some (_, .row n' e l) => match castL n n' l with
   | some l => cond (aggB P t (tb.rep n).sz && (c.all oneA && (Nat.beq off 0 && (Nat.beq c.length (tb.rep n).sz && Nat.blt 0 (tb.rep n).sz)))) ((idx l i).bind fun _ => match tb.im n c with
    | some y => k undA { s with σ := sto s.σ id s.d (.row n e (l.set i.toNat y)), d := s.d + 1 }
    | none => none) none
   | none => none
  | _ => none
 | _ => none
end
section
variable {P : Program} {tb : Tab} {bs : Bs} {η : List Value} {m : Mem} {s : S tb.T} {w : World} {κc : Kn} {B : Code} {n : Cx} {p : List Nat} {i : Nat} {o : Oper} {ρ' : Type} {k : KO tb.T ρ'} {ans : ρ'} {a b c v : AV tb.T} {x y z : Value}
theorem Wd.map (T : TabOk tb) (h : Wd tb bs η m s w) {id st kk : Nat} {d : MP tb.T tb.rep kk} {g : tb.T kk} (hl : lk s.σ id = some (st, .gen kk g id)) (hd : tb.mp kk = some d) :
  ∃ b lv, η[id]? = some (.map (some b)) ∧ MVal (tb.rep d.n) d.g d.wf m lv (d.to g) ∧ St bs.w0 bs.F0 bs.m0 m (mapI d.K (_root_.id : Value → Value) b lv :: its tb η (E.del s.σ id)) w := by
 obtain ⟨v, u, h1, h2, h3, h4⟩ := h.gen hl
 rw [(T.kd.mgi hd).1] at h4
 obtain ⟨⟨b, lv⟩, ⟨q1, q2⟩, q3⟩ := St_ex (j := fun y : Nat × List (d.α × Value) => mapI d.K (_root_.id : Value → Value) y.1 y.2) (Q := fun y => v = .map (some y.1) ∧ MVal (tb.rep d.n) d.g d.wf m y.2 (d.to g)) h4 (fun F ⟨b, lv, e1, e2, e3⟩ => ⟨(b, lv), ⟨e1, e2⟩, e3⟩)
 simp only at q1
 subst q1
 exact ⟨b, lv, h1, q2, q3⟩
theorem map_item (T : TabOk tb) {kk id : Nat} {d : MP tb.T tb.rep kk} (hd : tb.mp kk = some d) {b : Nat} {lv : List (d.α × Value)} {l : List (d.α × tb.T d.n)} (h1 : η[id]? = some (.map (some b))) (h2 : MVal (tb.rep d.n) d.g d.wf m lv l) {F : Nat → Prop}
  (h3 : (mapI d.K (_root_.id : Value → Value) b lv).P m w F) : ((DI.gen kk (d.of l) id).item tb η id).P m w F := by
 refine ⟨.map (some b), .map (some b), ⟨h1, h1⟩, rfl, ?_⟩
 rw [(T.kd.mgi hd).1, (T.kd.mgi hd).2.1]
 exact ⟨b, lv, rfl, h2, h3⟩
theorem zmA_ok (T : TabOk tb) {vt : TypeId} {g : Bool} {zc : List (AV tb.T)} (h : zmA P vt = some (g, zc)) : ∃ z0, (∀ w, (zeroValue vt).run P w = .ok z0 w) ∧ ∀ {nn : Nat} {x : tb.T nn} {m : Mem}, tb.im nn zc = some x → VRep (tb.rep nn) g m z0 x := by
 unfold zmA at h
 split at h
 ·rename_i inf hi
  split at h
  ·rename_i cs hz
   cases h
   exact ⟨.agg cs, fun w => by simp [zeroValue, typeInfo, hi, hz], fun hx => ⟨cs.toList, T.im (η := []) hx (cst1L_ok _), by simp⟩⟩
  ·rename_i v _ hz
   cases ho : v.oneCell' with
   | false => rw [ho] at h; cases h
   | true =>
    rw [ho] at h
    cases h
    exact ⟨v, fun w => by simp [zeroValue, typeInfo, hi, hz], fun hx => T.im (η := []) hx (RL.mk1 (cst1_ok v))⟩
  ·cases h
 ·cases h
theorem mapT_ok (T : TabOk tb) {kk : Nat} {d : MP tb.T tb.rep kk} (hd : tb.mp kk = some d) {t vt : TypeId} (h : mapT P tb d t = some vt) : ∃ kt, P.underlying t = some (.map kt vt) ∧ P.underlying kt = some d.K.td := by
 unfold mapT at h
 split at h
 ·rename_i kt vt' hu
  split at h
  ·rename_i td htd
   cases hk : d.ktd td with
   | false => rw [hk] at h; cases h
   | true =>
    rw [hk] at h
    cases h
    exact ⟨kt, hu, by rw [htd, (T.kd.mgi hd).2.2.2.2 td hk]⟩
  ·cases h
 ·cases h
theorem valA_ok (T : TabOk tb) {g : Bool} {nn : Nat} {y : tb.T nn} {u : Value} (h : valA g (tb.ex nn y) = some v) (hv : VRep (tb.rep nn) g m u y) : R tb η m v u := by
 cases g with
 | true =>
  simp only [valA, Option.some.injEq] at h
  subst h
  obtain ⟨cs, h1, rfl⟩ := hv
  exact ⟨cs, rfl, T.ex h1⟩
 | false =>
  simp only [valA] at h
  split at h
  ·rename_i a ha
   cases h
   have := T.ex (η := η) (show (tb.rep nn).im m [u] y from hv)
   rw [ha] at this
   obtain ⟨v, e, hr⟩ := this.one
   cases e
   exact hr
  ·cases h
theorem valC_ok (T : TabOk tb) {g : Bool} {nn : Nat} {y : tb.T nn} {u : Value} {l : List (AV tb.T)} (h : valC g a = some l) (hy : tb.im nn l = some y) (hr : R tb η m a u) : VRep (tb.rep nn) g m u y := by
 cases g with
 | true =>
  simp only [valC] at h
  split at h
  ·cases h
   obtain ⟨cs, rfl, hl⟩ := hr
   exact ⟨cs, T.im hy hl, rfl⟩
  ·cases h
 | false =>
  simp only [valC] at h
  cases ho : oneA a with
  | false => rw [ho] at h; cases h
  | true =>
   rw [ho] at h
   cases h
   exact T.im hy (RL.mk1 hr)
theorem exec_makeMap {t : TypeId} {r : Option Operand} (h : o.op = .makeMap t r) (ρ : Operand → Value) : execOp ρ o = vS (Instr.makeMap t (r.map ρ)) := by unfold execOp; rw [h]; rfl
theorem exec_lookup {t : TypeId} {q r : Operand} {ok : Bool} (h : o.op = .lookup t q r ok) (ρ : Operand → Value) : execOp ρ o = vS (Instr.lookup t (ρ q) (ρ r) ok) := by unfold execOp; rw [h]; rfl
theorem exec_mapUpdate {t : TypeId} {q r e : Operand} (h : o.op = .mapUpdate t q r e) (ρ : Operand → Value) : execOp ρ o = uS (Instr.mapUpdate t (ρ q) (ρ r) (ρ e)) := by unfold execOp; rw [h]; rfl
theorem exec_insert {t : TypeId} {q r e : Operand} (h : o.op = .insert t q r e) (ρ : Operand → Value) : execOp ρ o = uS (Instr.mapUpdate t (ρ q) (ρ r) (ρ e)) := by unfold execOp; rw [h]; rfl
variable (hw : Wd tb bs η m s w) (hk : KR tb η m s.κ κc)
include hw hk
theorem mkM_step (T : TabOk tb) {t : TypeId} (fo' : fetch B n p i κc = some (o.dst, vS (Instr.makeMap t none))) (h : mkM tb t s k = some ans) : Step P B n p i κc w (YX tb bs η m o.dst s k ans κc) := by
 unfold mkM at h
 split at h
 ·rename_i kk hkk
  split at h
  ·rename_i d hd
   refine mkmS d.K (_root_.id : Value → Value) o.dst t hw.st fo' ?_
   intro g w1 H1
   have hwn := hw.add hw.gl (x := .gen kk (d.of []) s.c) (u := .map (some g)) (w' := w1) (St_conv H1 (fun F hF => map_item T hd (l := []) (lv := []) (at_new hw _) (show MVal _ _ _ _ [] [] from rfl) hF) (fun _ hF => hF))
   exact ⟨_, _, .map (some g), _, m, h, Ext.add _ _, rfl, Le.app _ _, Sub.refl _, ⟨at_new hw _, rfl⟩, hk.mono (Le.app _ _) (Sub.refl _), hwn⟩
  ·cases h
 ·cases h
theorem lookV_step (T : TabOk tb) {t : TypeId} {ok : Bool} {bb kk : Nat} {d : MP tb.T tb.rep kk} {g : tb.T kk} {lv : List (d.α × Value)} {es : Array MapEntry} {clock : Nat} (hd : tb.mp kk = some d) (q2 : MVal (tb.rep d.n) d.g d.wf m lv (d.to g)) (g1 : w.heap[bb]? = some (.map es clock)) (g2 : es.toList.map (fun e => (e.key, e.val)) = lv.map (fun x => (d.K.fk x.1, (_root_.id : Value → Value) x.2)))
  (fo' : fetch B n p i κc = some (o.dst, vS (Instr.lookup t (.map (some bb)) y ok))) (hb : R tb η m b y) (h : lookV P tb t b ok s k d g = some ans) : Step P B n p i κc w (YX tb bs η m o.dst s k ans κc) := by
 unfold lookV at h
 split at h
 ·rename_i vt hvt
  split at h
  ·rename_i g0 zc key hz hkey
   cases hg : beqB g0 d.g with
   | false => rw [hg] at h; cases h
   | true =>
    have := beqB_ok hg
    subst this
    rw [hg] at h
    simp only [cond_true] at h
    split at h
    ·rename_i z0 hz0
     split at h
     ·rename_i v hv
      obtain ⟨kt, e1, e2⟩ := mapT_ok T hd hvt
      obtain ⟨zv, f1, f2⟩ := zmA_ok T hz
      obtain ⟨rfl, hwf⟩ := (T.kd.mgi hd).2.2.1 _ _ _ _ _ hkey hb
      have hval : VRep (tb.rep d.n) d.g m ((mget lv key).getD zv) ((mget (d.to g) key).getD z0) ∧ (mget lv key).isSome = (mget (d.to g) key).isSome := by
       rcases q2.get key with ⟨r1, r2⟩ | ⟨u, x, r1, r2, r3⟩
       ·rw [r1, r2]; exact ⟨f2 hz0, rfl⟩
       ·rw [r1, r2]; exact ⟨r3, rfl⟩
      have hr : R tb η m v ((mget lv key).getD zv) := valA_ok T hv hval.1
      refine runR fo' (vS_run (look_run (K := d.K) (fv := (_root_.id : Value → Value)) t kt vt bb ok key zv (f1 w) e1 e2 g1 g2)) ?_
      refine ⟨_, _, _, η, m, h, Ext.refl _, rfl, Le.refl _, Sub.refl _, ?_, hk, hw⟩
      rw [hval.2]
      cases ok with
      | false => exact hr
      | true => exact ⟨[(mget lv key).getD zv, .bool (mget (d.to g) key).isSome], rfl, _, _, rfl, hr, _, _, rfl, rfl, rfl⟩
     ·cases h
    ·cases h
  ·cases h
 ·cases h
theorem lookM_step (T : TabOk tb) {t : TypeId} {ok : Bool} (fo' : fetch B n p i κc = some (o.dst, vS (Instr.lookup t x y ok))) (ha : R tb η m a x) (hb : R tb η m b y) (h : lookM P tb t a b ok s k = some ans) : Step P B n p i κc w (YX tb bs η m o.dst s k ans κc) := by
 unfold lookM at h
 split at h
 ·rename_i kk g
  split at h
  ·rename_i d hd
   obtain ⟨bb, es, clock, lv, rfl, q1, q2, q3⟩ := (T.kd.mre hd m x g).1 ha
   exact lookV_step hw hk T hd q3 (hw.st.has _ _ q1) q2.1 fo' hb h
  ·cases h
 ·obtain ⟨id, st, kk, d, g, rfl, hl, hd, h⟩ := withMap_some tb h
  obtain ⟨bb, lv, q1, q2, q3⟩ := hw.map T hl hd
  have := ha.1
  rw [this] at q1
  cases q1
  obtain ⟨es, clock, h1, h2⟩ := q3.mapAt 0 rfl
  exact lookV_step hw hk T hd q2 h1 h2 fo' hb h
theorem mputM_step (T : TabOk tb) {t : TypeId} (fo' : fetch B n p i κc = some (o.dst, uS (Instr.mapUpdate t x y z))) (ha : R tb η m a x) (hb : R tb η m b y) (hc : R tb η m c z) (h : mputM P tb t a b c s k = some ans) : Step P B n p i κc w (YX tb bs η m o.dst s k ans κc) := by
 unfold mputM at h
 split at h
 ·rename_i c' s1 hf
  obtain ⟨h1, m1, h2, h3, h4, h5⟩ := frzA_ok T 20 hf hw hk (RL.mk1 hc)
  obtain ⟨z', hz', hc'⟩ := h5.one
  cases hz'
  obtain ⟨id, st, kk, d, g, rfl, hl, hd, h⟩ := withMap_some tb h
  split at h
  ·rename_i vt key l hvt hkey hval
   split at h
   ·rename_i y' hy'
    obtain ⟨bb, lv, q1, q2, q3⟩ := h4.map T hl hd
    have := ha.1
    rw [this] at q1
    cases q1
    obtain ⟨kt, e1, e2⟩ := mapT_ok T hd hvt
    obtain ⟨rfl, hwf⟩ := (T.kd.mgi hd).2.2.1 _ _ _ _ _ hkey hb
    refine mputS (K := d.K) (fv := (_root_.id : Value → Value)) o.dst t kt vt 0 bb key z lv q3 rfl fo' e1 e2 ?_
    intro w1 H1
    obtain ⟨k1, k2⟩ := h4.sto hl (x := .gen kk (d.of (mput (d.to g) key y')) id) (St_conv H1 (fun F hF => map_item T hd this (q2.put hwf (valC_ok T hval hy' hc')) hF) (fun _ e => e))
    exact ⟨_, _, undef, η, m1, h, h1.trans k1, rfl, Le.refl _, h2, rfl, h3, k2⟩
   ·cases h
  ·cases h
 ·cases h
omit hw hk in
theorem run_eqSl {t e : TypeId} (hu : P.underlying t = some (.slice e)) (A : Option Addr) (l c : Nat) (w : World) : (Op.equal t (.slice A l c) (.slice none 0 0)).run P w = .ok A.isNone w ∧ (Op.equal t (.slice none 0 0) (.slice A l c)).run P w = .ok A.isNone w := by
 unfold Op.equal
 rw [show Op.maxDepth = 9999 + 1 from rfl]
 unfold Op.equalIn
 simp only [Sem.run_bind, run_und hu, Result.andThen_ok]
 cases A <;> exact ⟨rfl, rfl⟩
omit hk in
theorem emptyA_ok {e : Bool} (h : emptyA tb s a = some e) (ha : R tb η m a x) : ∃ A l c, x = .slice A l c ∧ (e = false → A.isNone = false) := by
 unfold emptyA at h
 split at h
 ·rename_i nn l
  cases hb : Nat.blt 0 (tb.rep nn).sz with
  | false => rw [hb] at h; cases h
  | true =>
   rw [hb] at h
   cases h
   obtain ⟨A, c, rfl, hs⟩ := ha
   refine ⟨A, _, c, rfl, fun he => ?_⟩
   cases l with
   | nil => cases he
   | cons y l => obtain ⟨ad, cs, rfl, _⟩ := hs.at_ (i := 0) (x := y) rfl (by simpa [Nat.blt_eq] using hb); rfl
 ·rename_i id
  obtain ⟨hη, _⟩ := ha
  split at h
  ·rename_i st nn t l hl
   cases hb : Nat.blt 0 (tb.rep nn).sz with
   | false => rw [hb] at h; cases h
   | true =>
    rw [hb] at h
    cases h
    obtain ⟨A, c, g1, H⟩ := hw.row hl
    rw [hη] at g1
    cases g1
    refine ⟨A, _, c, rfl, fun he => ?_⟩
    cases l with
    | nil => cases he
    | cons y l => obtain ⟨ad, cs, rfl, _⟩ := H.rowAt 0 rfl (i := 0) (x := y) rfl (by simpa [Nat.blt_eq] using hb); rfl
  ·rename_i st t j c hl
   cases h
   obtain ⟨g, cs, g1, _⟩ := hw.lit hl
   rw [hη] at g1
   cases g1
   exact ⟨_, _, _, rfl, fun _ => rfl⟩
  ·cases h
 ·cases h
theorem nilM_step {op : BinOp} {t : TypeId} {q r : Operand} {e : Bool} (hu : (slcE P t).isSome = true) (fo' : fetch B n p i κc = some (o.dst, vS (do eqGuard op t q r x y; binOp op t x y)))
  (hxy : ∃ A l c, ((x = .slice A l c ∧ y = .slice none 0 0) ∨ (x = .slice none 0 0 ∧ y = .slice A l c)) ∧ (e = false → A.isNone = false)) (h : nilM tb op e s k = some ans) : Step P B n p i κc w (YX tb bs η m o.dst s k ans κc) := by
 obtain ⟨A, l, c, hxy, hA⟩ := hxy
 obtain ⟨et, het⟩ := Option.isSome_iff_exists.1 hu
 have hut := slcE_ok het
 have heq : ∀ w, (Op.equal t x y).run P w = .ok A.isNone w := fun w => by
  rcases hxy with ⟨rfl, rfl⟩ | ⟨rfl, rfl⟩
  ·exact (run_eqSl hut A l c w).1
  ·exact (run_eqSl hut A l c w).2
 have hg : ∀ w, (eqGuard op t q r x y).run P w = .ok () w := fun w => by
  rcases hxy with ⟨rfl, rfl⟩ | ⟨rfl, rfl⟩ <;> cases op <;> rfl
 have hs : ∃ A1 l1 c1 A2 l2 c2, x = .slice A1 l1 c1 ∧ y = .slice A2 l2 c2 := by
  rcases hxy with ⟨rfl, rfl⟩ | ⟨rfl, rfl⟩ <;> exact ⟨_, _, _, _, _, _, rfl, rfl⟩
 obtain ⟨A1, l1, c1, A2, l2, c2, e1, e2⟩ := hs
 have fin : ∀ {bb : Bool}, (binOp op t x y).run P w = .ok (.bool bb) w → k (.bool bb) s = some ans → Step P B n p i κc w (YX tb bs η m o.dst s k ans κc) := fun hb hk' =>
  runR fo' (bin_run (hg w) hb) ⟨_, s, _, η, m, hk', Ext.refl _, rfl, Le.refl _, Sub.refl _, rfl, hk, hw⟩
 have pick : ∀ {x1 x2 : Option ρ'} {e : Bool}, cond e (fork x1 x2) x2 = some ans → (e = false → A.isNone = false) → cond A.isNone x1 x2 = some ans := by
  intro x1 x2 e h he
  cases e with
  | true => obtain ⟨g1, g2⟩ := fork_some h; cases A.isNone <;> assumption
  | false => rw [he rfl]; exact h
 unfold nilM at h
 split at h
 ·have h2 := pick h hA
  have hb : (binOp .eql t x y).run P w = .ok (.bool A.isNone) w := by
   subst e1 e2
   show (do pure (.bool (← Op.equal t (.slice A1 l1 c1) (.slice A2 l2 c2))) : Sem Value).run P w = _
   rw [Sem.run_bind, heq]; rfl
  refine fin hb ?_
  cases hAn : A.isNone <;> rw [hAn] at h2 <;> exact h2
 ·have h2 := pick h hA
  have hb : (binOp .neq t x y).run P w = .ok (.bool (!A.isNone)) w := by
   subst e1 e2
   show (do pure (.bool (!(← Op.equal t (.slice A1 l1 c1) (.slice A2 l2 c2)))) : Sem Value).run P w = _
   rw [Sem.run_bind, heq]; rfl
  refine fin hb ?_
  cases hAn : A.isNone <;> rw [hAn] at h2 <;> exact h2
 ·cases h
omit hw hk in
theorem eqA1_ok {d : Option TypeDesc} {r : Bool} (h : eqA1 d a b = some r) (ha : R tb η m a x) (hb : R tb η m b y) : eqSc d x y = some r := by
 unfold eqA1 at h
 split at h <;> cases h
 ·have ha : x = _ := ha; have hb : y = _ := hb; subst ha hb; rfl
 ·have ha : x = _ := ha; have hb : y = _ := hb; subst ha hb; rfl
 ·obtain ⟨rfl, _⟩ := ha; obtain ⟨rfl, _⟩ := hb
  exact congrArg some (seq_raw _ _)
omit hw hk in
theorem eqAs_ok {xs ys : List (AV tb.T)} {us vs : List Value} (hx : RL tb η m xs us) (hy : RL tb η m ys vs) : ∀ {fs : List Field} {r : Bool}, eqAs P xs ys fs = some r → eqFs P us.toArray vs.toArray fs = some r
 | [], r, h => h
 | f :: fs, r, h => by
  unfold eqAs at h
  unfold eqFs
  cases hn : (f.name == "_") with
  | true => rw [hn] at h; cases h
  | false =>
   rw [hn] at h
   simp only [cond_false] at h
   have hne : ¬ f.name = "_" := fun e => by rw [e] at hn; cases hn
   rw [if_neg hne]
   split at h
   ·rename_i a b hp ha hb
    obtain ⟨u, hu, hru⟩ := hx.get ha
    obtain ⟨v, hv, hrv⟩ := hy.get hb
    split at h
    ·rename_i c hc
     split at h
     ·rename_i r' hr'
      cases h
      rw [hp, show us.toArray[f.offset]? = some u by simpa using hu, show vs.toArray[f.offset]? = some v by simpa using hv]
      simp only [eqA1_ok hc hru hrv, eqAs_ok hx hy hr']
     ·cases h
    ·cases h
   ·cases h
omit hw hk in
theorem eqM_ok {op : BinOp} {t : TypeId} {q r : Operand} {xs ys : List (AV tb.T)} {kk : AV tb.T → Option ρ'} (h : eqM P op t xs ys kk = some ans) (ha : R tb η m (.agg xs) x) (hb : R tb η m (.agg ys) y) : ∃ v, kk v = some ans ∧ Run0 P tb η m (vS (do eqGuard op t q r x y; binOp op t x y)) v := by
 unfold eqM at h
 obtain ⟨us, rfl, hx⟩ := ha
 obtain ⟨vs, rfl, hy⟩ := hb
 generalize hc : (!P.eqGuardType P.depth t && (!P.stoodInHeld t && (match P.underlying t with | some (.struct _) => true | _ => false))) = cc at h
 cases cc with
 | false => cases h
 | true =>
  simp only [Bool.and_eq_true, Bool.not_eq_true'] at hc
  obtain ⟨h1, h2, h3⟩ := hc
  have hu : P.underlying t = some (.struct (P.fieldsOf t)) := by
   unfold Program.fieldsOf
   split at h3
   ·rename_i fs hfs; simp [hfs]
   ·cases h3
  simp only [cond_true] at h
  split at h
  ·rename_i bb hbb
   have h4 := eqAs_ok hx hy hbb
   split at h
   ·exact ⟨_, h, Run0.fix (fun w => eqAgg_run t q r us.toArray vs.toArray bb bb h4 rfl h1 hu h2) rfl⟩
   ·exact ⟨_, h, Run0.fix (fun w => neAgg_run t q r us.toArray vs.toArray bb bb h4 rfl h1 hu h2) rfl⟩
   ·cases h
  ·cases h
end
theorem St_sub {w0 : World} {F0 : Nat → Prop} {m0 m : Mem} {σ σ' : List Item} {w : World} (H : St w0 F0 m0 m σ w) (h : ∀ F, Sep m w σ F → ∃ F', (∀ k, F' k → F k) ∧ Sep m w σ' F') : St w0 F0 m0 m σ' w := by
 obtain ⟨F, h1, h2, h3⟩ := H.sep
 obtain ⟨F', k1, k2⟩ := h F h1
 exact ⟨H.kp, H.sub, H.has, H.new, F', k2, fun k e => h2 k (k1 k e), fun k e => h3 k (k1 k e)⟩
theorem lk_del_ne {α : Type} : ∀ {l : List (Nat × Nat × α)} {t u : Nat} {p : Nat × α}, u ≠ t → lk l u = some p → lk (del l t) u = some p
 | [], _, _, _, _, h => by cases h
 | (i, st, v) :: r, t, u, p, hn, h => by
  simp only [lk] at h
  simp only [del]
  cases hb : Nat.beq i u with
  | true =>
   rw [hb] at h
   have := beq_t hb
   subst this
   have hb2 : Nat.beq i t = false := by
    cases hb2 : Nat.beq i t with
    | true => exact absurd (beq_t hb2) hn
    | false => rfl
   rw [hb2]
   simp only [cond_false, lk, Nat.beq_refl]
   exact h
  | false =>
   rw [hb] at h
   have ih := lk_del_ne hn (l := r) h
   cases Nat.beq i t with
   | true => exact ih
   | false => simp only [cond_false, lk, hb]; exact ih
theorem take_mid {cur vs xs : List Value} {m n : Nat} (h : cur.take n = xs) (hm : m + vs.length ≤ xs.length) : (cur.take m ++ vs ++ cur.drop (m + vs.length)).take n = xs.take m ++ vs ++ xs.drop (m + vs.length) := by
 have hl : xs.length ≤ n ∧ xs.length ≤ cur.length := by rw [← h, List.length_take]; omega
 rw [← h, List.take_append, List.take_of_length_le (by rw [List.length_append, List.length_take]; omega), List.take_take, List.length_append, List.length_take, List.drop_take, Nat.min_eq_left (by omega), Nat.min_eq_left (by omega)]
section
variable {P : Program} {B : Code} {n : Cx} {p : List Nat} {i : Nat} {κ : Kn} {w : World} {Z : Kn → World → Prop}
theorem stOwnAggR (d : Option Nat) (t : TypeId) (base e sz : Nat) (A : Option Addr) (len cap : Nat) (xs vs : List Value) (ad : Addr) (m : Nat) (ho : fetch B n p i κ = some (d, uS (Instr.storeAt t (.pointer (some (ad.add m))) (.agg vs.toArray)))) (ht : aggB P t vs.length = true) (hv : vs.all (·.oneCell') = true)
  (hown : w.ownsRow base e sz (.slice A len cap) len xs) (hA : A = some ad) (hm : m + vs.length ≤ xs.length) (hv0 : 0 < vs.length)
  (hk : ∀ w1, w1.ownsRow base e sz (.slice A len cap) len (xs.take m ++ vs ++ xs.drop (m + vs.length)) → Kp (fun k => some k = (Value.slice A len cap).ownBlock) w w1 → w1.heap.size = w.heap.size → Z (putk d undef κ) w1) : Step P B n p i κ w Z := by
 have h0 : 0 < len := by
  rcases Nat.eq_zero_or_pos len with h | h
  ·have := hown.1
   rw [h, Nat.zero_mul] at this
   omega
  ·exact h
 obtain ⟨g, cur, hAg, hb, hg, hcs, htk, hnc, hcm⟩ := own_blk hown h0
 rw [hAg] at hA
 cases hA
 subst hAg
 have hlen : xs.length ≤ cur.size := by
  rw [hown.1, hcs]
  exact Nat.mul_le_mul_right _ hnc
 rw [Addr.add_lit, Nat.zero_add] at ho
 refine stAggR d t g m vs cur (cur.toList.take m ++ vs ++ cur.toList.drop (m + vs.length)).toArray e ho ht hv hg (by omega) rfl ?_
 intro w1 hx hg1 hz
 have hl2 : (xs.take m ++ vs ++ xs.drop (m + vs.length)).length = xs.length := by
  rw [List.length_append, List.length_append, List.length_take, List.length_drop]; omega
 refine hk w1 ⟨by rw [hl2]; exact hown.1, .inr ⟨g, cap, _, rfl, hb, hg1, hnc, hcm, ?_, ?_⟩⟩ ?_ hz
 ·rw [← hcs, List.size_toArray, List.length_append, List.length_append, List.length_take, List.length_drop, Array.length_toList]; omega
 ·exact take_mid htk hm
 ·exact hx.mono (fun k _ hk => by simp [Value.ownBlock, hk])
end
section
variable {P : Program} {tb : Tab} {bs : Bs} {η : List Value} {m : Mem} {s : S tb.T} {w : World} {κc : Kn} {B : Code} {n : Cx} {p : List Nat} {i : Nat} {o : Oper} {ρ' : Type} {k : KO tb.T ρ'} {ans : ρ'} {a b c v : AV tb.T} {x y z : Value}
theorem storeE_step (T : TabOk tb) (hw : Wd tb bs η m s w) (hk : KR tb η m s.κ κc) {t : TypeId} {id n1 off : Nat} {j : Int} (fo' : fetch B n p i κc = some (o.dst, uS (Instr.storeAt t x y))) (ha : R tb η m (.elt id j n1 off) x) (hb : R tb η m b y) (h : storeE P tb t id j n1 off b s k = some ans) : Step P B n p i κc w (YX tb bs η m o.dst s k ans κc) := by
 unfold storeE at h
 split at h
 ·rename_i c s1 hf
  obtain ⟨h1, m1, h2, h3, h4, h5⟩ := frzA_ok T 20 hf hw hk (RL.mk1 hb)
  obtain ⟨y', hy', us, rfl, hul⟩ := h5.one
  cases hy'
  obtain ⟨ad, len, c0, e1, e2, e3, rfl⟩ := ha
  split at h
  ·rename_i st n' e l hl
   split at h
   ·rename_i l' hcl
    obtain ⟨en, rfl⟩ := castL_some hcl
    subst en
    cases hc : (aggB P t (tb.rep n').sz && (c.all oneA && (Nat.beq off 0 && (Nat.beq c.length (tb.rep n').sz && Nat.blt 0 (tb.rep n').sz)))) with
    | false => rw [hc] at h; cases h
    | true =>
     rw [hc] at h
     simp only [Bool.and_eq_true, cond_true] at hc h
     obtain ⟨c1, c2, c3, c4, c5⟩ := hc
     have c3 := beq_t c3
     have c4 := beq_t c4
     have c5 : 0 < (tb.rep n').sz := by simpa [Nat.blt_eq] using c5
     subst c3
     obtain ⟨zz, hz, h⟩ := bindE h
     obtain ⟨i0, i1, i2⟩ := idx_some hz
     split at h
     ·rename_i yy hyy
      obtain ⟨A, cap, g1, H⟩ := h4.row hl
      rw [e1] at g1
      obtain ⟨rfl, rfl, rfl⟩ : some ad = A ∧ len = l.length ∧ c0 = cap := by cases g1; exact ⟨rfl, rfl, rfl⟩
      obtain ⟨F, ⟨⟨xs, q1, q2⟩, hF⟩, q3, q4⟩ := H.upd 0 rfl
      have hus : us.length = (tb.rep n').sz := by rw [hul.len, c4]
      have hxl : xs.length = l.length * (tb.rep n').sz := q1.len
      have hjl : j.toNat < l.length := (List.getElem?_eq_some_iff.1 i2).1
      have hle : j.toNat * (tb.rep n').sz + (tb.rep n').sz ≤ xs.length := by
       rw [hxl, ← Nat.succ_mul]; exact Nat.mul_le_mul_right _ hjl
      have ea : (ad.add (j.toNat * (tb.rep n').sz)).add 0 = ad.add (j.toNat * (tb.rep n').sz) := by simp [Addr.add]
      rw [ea] at fo'
      refine stOwnAggR o.dst t 0 e (tb.rep n').sz (some ad) l.length c0 xs us ad (j.toNat * (tb.rep n').sz) fo' (by rw [hus]; exact c1) (oneL hul c2) q2 rfl (by rw [hus]; exact hle) (by omega) ?_
      intro w1 r1 r2 r3
      rw [hus] at r1
      have hset : Rows (tb.rep n') m1 (xs.take (j.toNat * (tb.rep n').sz) ++ us ++ xs.drop (j.toNat * (tb.rep n').sz + (tb.rep n').sz)) (l.set j.toNat yy) := q1.set hjl (T.im hyy hul)
      have H3 := q4 w1 (rowI (tb.rep n') e (some ad) c0 (l.set j.toNat yy)) F (r2.mono (fun k _ e => (hF k).2 e.symm)) ⟨⟨_, hset, by rw [List.length_set]; exact r1⟩, fun k => by rw [List.length_set]; exact hF k⟩ (fun k hk => .inl hk)
      obtain ⟨k1, k2⟩ := h4.sto hl (x := .row n' e (l.set j.toNat yy)) (St_conv H3 (fun F hF => ⟨some ad, c0, by rw [List.length_set]; exact e1, hF⟩) (fun _ e => e))
      exact ⟨_, _, undef, η, m1, h, h1.trans k1, rfl, Le.refl _, h2, rfl, h3, k2⟩
     ·cases h
   ·cases h
  ·cases h
 ·cases h
end
end Go.Proofs.YtkleajhiihbefaaGreatDoor.K.E
set_option linter.unusedVariables false
set_option linter.unusedSimpArgs false
set_option linter.unusedSectionVars false
namespace Go.Proofs.YtkleajhiihbefaaGreatDoor.K.E
open Go Go.RowKit
section
variable (P : Program) (tb : Tab) {ρ : Type}
def withDeep {C : Type} (s : S tb.T) (id : Nat) (f : (k : Nat) → (d : DP tb.T tb.rep k) → List (tb.T d.n) → Option C) : Option C := match lk s.σ id with
 | some (_, .gen k x j) => cond (Nat.beq j id) (match tb.dp k with
  | some d => f k d (d.to x)
  | none => none) none
 | _ => none
theorem withDeep_some {C : Type} {s : S tb.T} {id : Nat} {f : (k : Nat) → (d : DP tb.T tb.rep k) → List (tb.T d.n) → Option C} {c : C} (h : withDeep tb s id f = some c) : ∃ st k d x, lk s.σ id = some (st, .gen k x id) ∧ tb.dp k = some d ∧ f k d (d.to x) = some c := by
 unfold withDeep at h
 split at h
 ·rename_i st k x j hl
  cases hb : Nat.beq j id with
  | false => rw [hb] at h; cases h
  | true =>
   have := beq_t hb
   subst this
   rw [hb] at h
   simp only [cond_true] at h
   split at h
   ·rename_i d hd
    exact ⟨st, k, d, x, hl, hd, h⟩
   ·cases h
 ·cases h
def withHole {C : Type} (s : S tb.T) (id : Nat) (f : (k : Nat) → (d : DP tb.T tb.rep k) → List (tb.T d.n) × Int × tb.T d.n → Nat → Option C) : Option C := match lk s.σ id with
 | some (_, .gen h x j) => match tb.hd h with
  | some k => match tb.dp k with
   | some d => match castE d.hk h x with
    | some q => f k d (d.toh q) j
    | none => none
   | none => none
  | none => none
 | _ => none
theorem withHole_some {C : Type} {s : S tb.T} {id : Nat} {f : (k : Nat) → (d : DP tb.T tb.rep k) → List (tb.T d.n) × Int × tb.T d.n → Nat → Option C} {c : C} (h : withHole tb s id f = some c) : ∃ st k d x j, lk s.σ id = some (st, .gen d.hk x j) ∧ tb.dp k = some d ∧ f k d (d.toh x) j = some c := by
 unfold withHole at h
 split at h
 ·rename_i st hh x j hl
  split at h
  ·rename_i k _
   split at h
   ·rename_i d hd
    split at h
    ·rename_i q hq
     obtain ⟨e, rfl⟩ := castE_some hq
     subst e
     exact ⟨st, k, d, x, j, hl, hd, h⟩
    ·cases h
   ·cases h
  ·cases h
 ·cases h
def closeD (s : S tb.T) (id : Nat) : Option (S tb.T) := withHole tb s id fun k d q j => match lk s.σ j with
 | some (_, .row nk tk l2) => cond (Nat.beq tk d.tk) (match castL d.nk nk l2 with
  | some l2 => some { s with σ := (id, s.d, .gen k (d.of (q.1.set q.2.1.toNat (d.D.setk q.2.2 l2))) id) :: del (del s.σ id) j, d := s.d + 1 }
  | none => none) none
 | _ => none
def holesL : Sg tb.T → List Nat
 | [] => []
 | (id, _, .gen h _ _) :: r => cond (tb.hd h).isSome (id :: holesL r) (holesL r)
 | _ :: r => holesL r
def closeL : List Nat → S tb.T → S tb.T
 | [], s => s
 | id :: r, s => match closeD tb s id with
  | some s' => closeL r s'
  | none => closeL r s
def closeAll (s : S tb.T) : S tb.T := closeL tb (holesL tb s.σ) s
def shutD (s : S tb.T) (id : Nat) : S tb.T := match closeD tb s id with
 | some s' => s'
 | none => s
def elD {k : Nat} (d : DP tb.T tb.rep k) (x : tb.T d.n) : List (AV tb.T) := (tb.ex d.n (d.D.setk x [])).set d.off .any
def seenD (s : S tb.T) (id : Nat) {C : Type} (f : (k : Nat) → (d : DP tb.T tb.rep k) → List (tb.T d.n) → Option C) : Option C := match withDeep tb s id (fun k d l => some (f k d l)) with
 | some r => r
 | none => match withHole tb s id (fun k d q _ => some (f k d q.1)) with
  | some r => r
  | none => none
def idxD (t : TypeId) (id : Nat) (b : AV tb.T) (s : S tb.T) (k : KO tb.T ρ) : Option ρ := match iv b with
 | some i => seenD tb s id fun _ d l => cond (slB' P tb t d.n && Nat.blt 0 (tb.rep d.n).sz) ((idx l i).bind fun _ => k (.elt id i d.n 0) s) none
 | none => none
def lenD (t : TypeId) (id : Nat) (s : S tb.T) (k : KO tb.T ρ) : Option ρ := seenD tb s id fun _ d l => cond (slcE P t).isSome (k (.i64 (l.length : Int)) s) none
def openD (t : TypeId) (id : Nat) (i : Int) (n off : Nat) (s : S tb.T) (k : KO tb.T ρ) : Option ρ := withDeep tb s id fun _ d l => cond (Nat.beq n d.n && (Nat.beq off d.off && oneB P t)) ((idx l i).bind fun x =>
 k (.row s.c) { κ := s.κ, σ := (s.c, s.d, .row d.nk d.tk (d.D.getk x)) :: (id, s.d, .gen d.hk (d.ofh (l, i, x)) s.c) :: del s.σ id, c := s.c + 1, d := s.d + 1 }) none
def loadD1 (t : TypeId) (id : Nat) (i : Int) (n off : Nat) (s : S tb.T) (k : KO tb.T ρ) : Option ρ := withDeep tb s id fun _ d l => cond (Nat.beq n d.n) (cond (Nat.beq off d.off) (openD P tb t id i n off s k)
 ((idx l i).bind fun x => match getC P tb t (elD tb d x) off with
  | some v => k v s
  | none => none)) none
def loadD (t : TypeId) (id : Nat) (i : Int) (n off : Nat) (s : S tb.T) (k : KO tb.T ρ) : Option ρ := loadD1 P tb t id i n off (shutD tb s id) k
def storeD1 (t : TypeId) (id : Nat) (i : Int) (n off : Nat) (a : AV tb.T) (s : S tb.T) (k : KO tb.T ρ) : Option ρ := withDeep tb s id fun kk d l => cond (Nat.beq n d.n && (oneB P t && (oneA a && (Nat.blt off (tb.rep d.n).sz && !Nat.beq off d.off)))) ((idx l i).bind fun x =>
 match tb.im d.n ((tb.ex d.n (d.D.setk x [])).set off a) with
 | some y => k undA { s with σ := sto s.σ id s.d (.gen kk (d.of (l.set i.toNat (d.D.setk y (d.D.getk x)))) id), d := s.d + 1 }
 | none => none) none
def storeD2 (t : TypeId) (id : Nat) (i : Int) (n off : Nat) (a : AV tb.T) (s : S tb.T) (k : KO tb.T ρ) : Option ρ := withHole tb s id fun kk d q j => match a with
 | .row id3 => match lk s.σ id3 with
  | some (_, .row nk tk l3) => cond (Nat.beq n d.n && (Nat.beq off d.off && (oneB P t && Nat.beq tk d.tk))) (match castL d.nk nk l3 with
   | some l3 => (chk (decide (i = q.2.1))).bind fun _ => k undA { s with σ := (id, s.d, .gen kk (d.of (q.1.set q.2.1.toNat (d.D.setk q.2.2 l3))) id) :: del (del s.σ id) id3, d := s.d + 1 }
   | none => none) none
  | _ => none
 | _ => none
def storeD (t : TypeId) (id : Nat) (i : Int) (n off : Nat) (a : AV tb.T) (s : S tb.T) (k : KO tb.T ρ) : Option ρ := seenD tb s id fun _ d _ => cond (Nat.beq off d.off) (storeD2 P tb t id i n off a s k) (match frzA tb 20 [a] s with
 | some ([a], s) => storeD1 P tb t id i n off a (shutD tb s id) k
 | _ => none)
def kidsA {k : Nat} (d : DP tb.T tb.rep k) (c : List (AV tb.T)) (σ : Sg tb.T) : Option (List (tb.T d.nk) × Sg tb.T) := match c[d.off]? with
 | some .nils => some ([], σ)
 | some (.row id) => match lk σ id with
  | some (_, .row nk tk l) => cond (Nat.beq tk d.tk) (match castL d.nk nk l with
   | some l => some (l, del σ id)
   | none => none) none
  | _ => none
 | _ => none
def litD (s : S tb.T) (id : Nat) : Option (S tb.T) := match lk s.σ id with
 | some (_, .lit e 1 c) => match tb.gcode e with
  | some kk => match tb.dp kk with
   | some d => cond (Nat.beq d.t e) (match kidsA tb d c (del s.σ id), tb.im d.n (c.set d.off .nils) with
    | some (l, σ), some x => some { s with σ := (id, s.d, .gen kk (d.of [d.D.setk x l]) id) :: σ, d := s.d + 1 }
    | _, _ => none) none
   | none => none
  | none => none
 | _ => none
def baseD {k : Nat} (d : DP tb.T tb.rep k) (kk : Nat) (a : AV tb.T) (s : S tb.T) : Option (List (tb.T d.n) × S tb.T) := match a with
 | .nils => some ([], s)
 | .row id => match lk s.σ id with
  | some (_, .gen k' x j) => cond (Nat.beq j id && Nat.beq k' kk) (match tb.dp k' with
   | some d' => match castL d.n d'.n (d'.to x) with
    | some l => some (l, delI s id)
    | none => none
   | none => none) none
  | _ => none
 | _ => none
def shutA (s : S tb.T) (a : AV tb.T) : S tb.T := match a with
 | .row id => match litD tb (shutD tb s id) id with
  | some s' => s'
  | none => shutD tb s id
 | _ => s
def appD (t t2 : TypeId) (a b : AV tb.T) (s : S tb.T) (k : KO tb.T ρ) : Option ρ := match slcE P t, b with
 | some e, .row idb => match tb.gcode e with
  | some kk => match tb.dp kk with
   | some d => cond (Nat.beq t2 t && (Nat.beq d.t e && elC P t e (tb.rep d.n).sz)) (match baseD tb d kk a (shutA tb s a) with
    | some (l, s) => match lk s.σ idb with
     | some (_, .lit _ 1 c) => match kidsA tb d c (del s.σ idb), tb.im d.n (c.set d.off .nils) with
      | some (lk', σ), some x => (app l [d.D.setk x lk']).bind fun y => k (.row s.c) (addI { s with σ := σ } (.gen kk (d.of y) s.c))
      | _, _ => none
     | _ => none
    | none => none) none
   | none => none
  | none => none
 | _, _ => none
end
section
variable {P : Program} {tb : Tab} {bs : Bs} {η : List Value} {m : Mem} {s s' : S tb.T} {w : World} {κc : Kn}
theorem Wd.hole (T : TabOk tb) (h : Wd tb bs η m s w) {id st kk j : Nat} {d : DP tb.T tb.rep kk} {x : tb.T d.hk} (hl : lk s.σ id = some (st, .gen d.hk x j)) (hd : tb.dp kk = some d) :
  ∃ A c cs u, η[id]? = some (.slice A (d.toh x).1.length c) ∧ η[j]? = some u ∧ (d.toh x).1[(d.toh x).2.1.toNat]? = some (d.toh x).2.2 ∧ cs[d.off]? = some u ∧ u.oneCell' = true ∧ But d.D m cs (d.toh x).2.2 ∧ St bs.w0 bs.F0 bs.m0 m (holeO (oD d.D d.tk) d.t A c (d.toh x).1 (d.toh x).2.1.toNat cs :: its tb η (E.del s.σ id)) w := by
 obtain ⟨v, u, h1, h2, h3, h4⟩ := h.gen hl
 rw [(T.kd.dgi hd).2.1] at h4
 obtain ⟨⟨A, c, cs⟩, q1, q2⟩ := St_ex (j := fun q : Option Addr × Nat × List Value => holeO (oD d.D d.tk) d.t q.1 q.2.1 (d.toh x).1 (d.toh x).2.1.toNat q.2.2)
  (Q := fun q => (v = .slice q.1 (d.toh x).1.length q.2.1 ∧ (d.toh x).1[(d.toh x).2.1.toNat]? = some (d.toh x).2.2 ∧ q.2.2[d.off]? = some u ∧ u.oneCell' = true) ∧ But d.D m q.2.2 (d.toh x).2.2) h4 (fun F ⟨A, c, cs, e1, e2, e3⟩ => ⟨(A, c, cs), ⟨e1, e2⟩, e3⟩)
 obtain ⟨⟨e1, e2, e3, e4⟩, e5⟩ := q1
 simp only at e1 e2 e3 e4 e5 q2
 subst e1
 exact ⟨A, c, cs, u, h1, h2, e2, e3, e4, e5, q2⟩
theorem deep_item (T : TabOk tb) {kk id : Nat} {d : DP tb.T tb.rep kk} (hd : tb.dp kk = some d) {A : Option Addr} {c : Nat} {l : List (tb.T d.n)} (h1 : η[id]? = some (.slice A l.length c)) {F : Nat → Prop}
  (h3 : (rowO (oD d.D d.tk) d.t A c l).P m w F) : ((DI.gen kk (d.of l) id).item tb η id).P m w F := by
 refine ⟨_, _, ⟨h1, h1⟩, rfl, ?_⟩
 rw [(T.kd.dgi hd).1, (T.kd.dgi hd).2.2.1]
 exact ⟨A, c, rfl, h3⟩
theorem hole_item (T : TabOk tb) {kk id j : Nat} {d : DP tb.T tb.rep kk} (hd : tb.dp kk = some d) {A : Option Addr} {c : Nat} {i : Int} {l : List (tb.T d.n)} {y : tb.T d.n} {cs : List Value} {u : Value} (h1 : η[id]? = some (.slice A l.length c)) (h2 : η[j]? = some u)
  (e2 : l[i.toNat]? = some y) (e3 : cs[d.off]? = some u) (e4 : u.oneCell' = true) (e5 : But d.D m cs y) {F : Nat → Prop}
  (h3 : (holeO (oD d.D d.tk) d.t A c l i.toNat cs).P m w F) : ((DI.gen d.hk (d.ofh (l, i, y)) j).item tb η id).P m w F := by
 refine ⟨_, _, ⟨h1, h2⟩, rfl, ?_⟩
 rw [(T.kd.dgi hd).2.1, (T.kd.dgi hd).2.2.2]
 exact ⟨A, c, cs, ⟨rfl, e2, e3, e4⟩, e5, h3⟩
theorem St_swap {w0 : World} {F0 : Nat → Prop} {m0 : Mem} {i j : Item} {σ : List Item} (H : St w0 F0 m0 m (i :: j :: σ) w) : St w0 F0 m0 m (j :: i :: σ) w := H.perm (List.Perm.swap _ _ _)
theorem St_pull2 {w0 : World} {F0 : Nat → Prop} {m0 : Mem} {i : Item} {σ : Sg tb.T} {id : Nat} {p : Nat × DI tb.T} (hl : lk σ id = some p) (H : St w0 F0 m0 m (i :: its tb η σ) w) : St w0 F0 m0 m (p.2.item tb η id :: i :: its tb η (E.del σ id)) w := by
 refine St_sub H ?_
 rintro F ⟨F1, F2, h1, h2, h3, h4⟩
 obtain ⟨G1, G2, k1, k2, k3, k4⟩ := Sep_lk hl h2
 refine ⟨fun k => G1 k ∨ (F1 k ∨ G2 k), fun k e => (h4 k).2 (e.elim (fun e => .inr (k4 k (.inl e))) (fun e => e.elim .inl (fun e => .inr (k4 k (.inr e))))), G1, fun k => F1 k ∨ G2 k, k1, ⟨F1, G2, h1, k2, fun k a b => h3 k a (k4 k (.inr b)), fun k => Iff.rfl⟩, ?_, fun k => Iff.rfl⟩
 intro k a b
 exact b.elim (fun b => h3 k b (k4 k (.inl a))) (k3 k a)
theorem row_ex {w0 : World} {F0 : Nat → Prop} {m0 : Mem} {σ : List Item} {id n t : Nat} {l : List (tb.T n)} (H : St w0 F0 m0 m ((DI.row n t l).item tb η id :: σ) w) : ∃ A c, η[id]? = some (.slice A l.length c) ∧ St w0 F0 m0 m (rowI (tb.rep n) t A c l :: σ) w := by
 obtain ⟨⟨A, c⟩, h1, h2⟩ := St_ex (j := fun y : Option Addr × Nat => rowI (tb.rep n) t y.1 y.2 l) (Q := fun y => η[id]? = some (.slice y.1 l.length y.2)) H (fun F ⟨A, c, h1, h2⟩ => ⟨(A, c), h1, h2⟩)
 exact ⟨A, c, h1, h2⟩
theorem St.oIt {w0 : World} {F0 : Nat → Prop} {m0 : Mem} {σ : List Item} {α β : Type} {r : Rep α} {rk : Rep β} {off : Nat} (D : Deep α β r rk off) {tk : TypeId} {A : Option Addr} {c : Nat} {l : List β} {cs : List Value} {x : α}
  (e : D.getk x = l) (h1 : cs[off]? = some (.slice A l.length c)) (h2 : But D m cs x) (H : St w0 F0 m0 m (rowI rk tk A c l :: σ) w) : St w0 F0 m0 m ((oD D tk).it cs x :: σ) w := by
 subst e
 exact St_conv H (fun F hF => ⟨A, c, h1, h2, hF⟩) (fun _ e => e)
theorem St.unIt {w0 : World} {F0 : Nat → Prop} {m0 : Mem} {σ : List Item} {α β : Type} {r : Rep α} {rk : Rep β} {off : Nat} {D : Deep α β r rk off} {tk : TypeId} {cs : List Value} {x : α}
  (H : St w0 F0 m0 m ((oD D tk).it cs x :: σ) w) : ∃ A c, cs[off]? = some (.slice A (D.getk x).length c) ∧ But D m cs x ∧ St w0 F0 m0 m (rowI rk tk A c (D.getk x) :: σ) w := by
 obtain ⟨⟨A, c⟩, ⟨h1, h2⟩, h3⟩ := St_ex (j := fun y : Option Addr × Nat => rowI rk tk y.1 y.2 (D.getk x)) (Q := fun y => cs[off]? = some (.slice y.1 (D.getk x).length y.2) ∧ But D m cs x) H (fun F ⟨A, c, h1, h2, h3⟩ => ⟨(A, c), ⟨h1, h2⟩, h3⟩)
 exact ⟨A, c, h1, h2, h3⟩
theorem But.setk {α β : Type} {r : Rep α} {rk : Rep β} {off : Nat} {D : Deep α β r rk off} {cs : List Value} {x : α} (h : But D m cs x) (l : List β) : But D m cs (D.setk x l) := by
 unfold But at h ⊢
 rw [D.ss]
 exact h
theorem Ext_new {s : S tb.T} {σ' : Sg tb.T} {c' : Nat} (hc : s.c ≤ c') (h : ∀ t st v, lk σ' t = some (st, v) → st < s.d → lk s.σ t = some (st, v)) : Ext s { κ := s.κ, σ := σ', c := c', d := s.d + 1 } := ⟨hc, Nat.le_succ _, fun _ _ _ e _ => e, h⟩
theorem lk_new {σ τ : Sg tb.T} {id d : Nat} {x : DI tb.T} (h : ∀ t p, lk τ t = some p → lk σ t = some p) : ∀ t st v, lk ((id, d, x) :: τ) t = some (st, v) → st < d → lk σ t = some (st, v) := by
 intro t st v e l
 simp only [lk] at e
 cases hb : Nat.beq id t with
 | true => rw [hb] at e; simp only [cond_true, Option.some.injEq, Prod.mk.injEq] at e; rw [← e.1] at l; exact absurd l (Nat.lt_irrefl _)
 | false => rw [hb] at e; exact h t _ e
theorem closeD_ok (T : TabOk tb) {id : Nat} (h : closeD tb s id = some s') (hw : Wd tb bs η m s w) : s'.κ = s.κ ∧ Ext s s' ∧ Wd tb bs η m s' w := by
 unfold closeD at h
 obtain ⟨st, kk, d, x, j, hl, hd, h⟩ := withHole_some tb h
 split at h
 ·rename_i st2 nk tk l2 hl2
  cases hb : Nat.beq tk d.tk with
  | false => rw [hb] at h; cases h
  | true =>
   have := beq_t hb
   subst this
   rw [hb] at h
   simp only [cond_true] at h
   split at h
   ·rename_i l2' hc
    obtain ⟨en, rfl⟩ := castL_some hc
    subst en
    cases h
    obtain ⟨A, c, cs, u, h1, h2, h3, h4, h5, h6, H⟩ := hw.hole T hl hd
    have hne : j ≠ id := fun e => by subst e; rw [hl] at hl2; cases hl2
    have H2 := St_pull2 (lk_del_ne hne hl2) H
    obtain ⟨A2, c2, g1, H3⟩ := row_ex H2
    rw [h2] at g1
    cases g1
    have H4 := St.closeO (St.oIt d.D (d.D.gs _ l2) h4 (h6.setk l2) H3)
    refine ⟨rfl, Ext_new (Nat.le_refl _) (lk_new fun t p e => (lk_del (lk_del e).2).2), hw.len, hw.le, ?_, hw.gl⟩
    exact St_conv H4 (fun F hF => deep_item T hd (by rw [List.length_set]; exact h1) hF) (fun _ e => e)
   ·cases h
 ·cases h
theorem closeL_ok (T : TabOk tb) : ∀ (l : List Nat) {s : S tb.T}, Wd tb bs η m s w → (closeL tb l s).κ = s.κ ∧ Ext s (closeL tb l s) ∧ Wd tb bs η m (closeL tb l s) w
 | [], s, hw => ⟨rfl, Ext.refl _, hw⟩
 | id :: r, s, hw => by
  simp only [closeL]
  split
  ·rename_i s1 h1
   obtain ⟨e1, e2, e3⟩ := closeD_ok T h1 hw
   obtain ⟨k1, k2, k3⟩ := closeL_ok T r e3
   exact ⟨k1.trans e1, e2.trans k2, k3⟩
  ·exact closeL_ok T r hw
theorem shutD_ok (T : TabOk tb) (id : Nat) (hw : Wd tb bs η m s w) : (shutD tb s id).κ = s.κ ∧ Ext s (shutD tb s id) ∧ Wd tb bs η m (shutD tb s id) w := by
 unfold shutD
 split
 ·rename_i s1 h1; exact closeD_ok T h1 hw
 ·exact ⟨rfl, Ext.refl _, hw⟩
theorem kidsA_ok {kk : Nat} {d : DP tb.T tb.rep kk} {c : List (AV tb.T)} {σ σ' : Sg tb.T} {l : List (tb.T d.nk)} (h : kidsA tb d c σ = some (l, σ')) {cs : List Value} (hr : RL tb η m c cs) {w0 : World} {F0 : Nat → Prop} {m0 : Mem} {i : Item} (H : St w0 F0 m0 m (i :: its tb η σ) w) :
  (∀ t p, lk σ' t = some p → lk σ t = some p) ∧ ∃ A cc, cs[d.off]? = some (.slice A l.length cc) ∧ RL tb η m (c.set d.off .nils) (cs.set d.off (.slice none 0 0)) ∧ St w0 F0 m0 m (rowI (tb.rep d.nk) d.tk A cc l :: i :: its tb η σ') w := by
 have hset : RL tb η m (c.set d.off .nils) (cs.set d.off (.slice none 0 0)) := hr.set (a := .nils) rfl
 unfold kidsA at h
 split at h
 ·rename_i hc
  cases h
  obtain ⟨v, h1, h2⟩ := hr.get hc
  have h2 : v = .slice none 0 0 := h2
  subst h2
  exact ⟨fun _ _ e => e, none, 0, h1, hset, H.nilR _ _⟩
 ·rename_i id hc
  obtain ⟨v, h1, h2, _⟩ := hr.get hc
  split at h
  ·rename_i st nk tk l' hl
   cases hb : Nat.beq tk d.tk with
   | false => rw [hb] at h; cases h
   | true =>
    have := beq_t hb
    subst this
    rw [hb] at h
    simp only [cond_true] at h
    split at h
    ·rename_i l2 hl2
     cases h
     obtain ⟨en, rfl⟩ := castL_some hl2
     subst en
     obtain ⟨A2, c2, g1, H3⟩ := row_ex (St_pull2 hl H)
     rw [h2] at g1
     cases g1
     exact ⟨fun _ _ e => (lk_del e).2, A2, c2, h1, hset, H3⟩
    ·cases h
  ·cases h
 ·cases h
theorem But_of (T : TabOk tb) {kk : Nat} {d : DP tb.T tb.rep kk} {c : List (AV tb.T)} {cs : List Value} {x : tb.T d.n} (h : tb.im d.n c = some x) (hr : RL tb η m c (cs.set d.off (.slice none 0 0))) (l : List (tb.T d.nk)) : But d.D m cs (d.D.setk x l) := by
 have := d.D.empt (T.im h hr)
 rw [List.set_set] at this
 unfold But
 rw [d.D.ss]
 exact this
theorem lit_ex {w0 : World} {F0 : Nat → Prop} {m0 : Mem} {σ : List Item} {id t k : Nat} {c : List (AV tb.T)} (H : St w0 F0 m0 m ((DI.lit t k c).item tb η id :: σ) w) : ∃ g cs, η[id]? = some (.slice (some ⟨g, 0, none⟩) k k) ∧ RL tb η m c cs ∧ St w0 F0 m0 m (blkI g cs t :: σ) w := by
 obtain ⟨⟨g, cs⟩, ⟨h1, h2⟩, h3⟩ := St_ex (j := fun y : Nat × List Value => blkI y.1 y.2 t) (Q := fun y => η[id]? = some (.slice (some ⟨y.1, 0, none⟩) k k) ∧ RL tb η m c y.2) H (fun F ⟨g, cs, h1, h2, h3⟩ => ⟨(g, cs), ⟨h1, h2⟩, h3⟩)
 exact ⟨g, cs, h1, h2, h3⟩
theorem St.toO1 {w0 : World} {F0 : Nat → Prop} {m0 : Mem} {σ : List Item} {α : Type} {o : ORep α} {g : Nat} {cs : List Value} {t : TypeId} {x : α} (H : St w0 F0 m0 m (blkI g cs t :: o.it cs x :: σ) w) : St w0 F0 m0 m (rowO o t (some ⟨g, 0, none⟩) 1 [x] :: σ) w := by
 have hlen : cs.length = o.fr.sz := by
  obtain ⟨F, ⟨F1, F2, _, ⟨F3, F4, h, _⟩, _⟩, _⟩ := H.sep
  exact o.len h
 have hb := H.blk 0 rfl
 have hown := own_of_blk (base := 0) (n := 1) (sz := o.fr.sz) (e := t) hb (Nat.zero_le _) (by decide) (by simp [hlen])
 have H2 : St w0 F0 m0 m (rawI t o.fr.sz (some ⟨g, 0, none⟩) 1 1 cs :: o.it cs x :: σ) w := St_conv H (fun F hF => ⟨by simpa using hown, fun k => by rw [hF.2 k]; exact ⟨fun e => by subst e; rfl, fun e => by cases e; rfl⟩⟩) (fun _ e => e)
 refine St.exi [cs] (St.big _ (St.fac0 rfl ?_))
 have e1 : ([cs] : List (List Value)).flatten = cs := by simp
 rw [e1]
 exact H2
theorem litD_ok (T : TabOk tb) {id : Nat} (h : litD tb s id = some s') (hw : Wd tb bs η m s w) : s'.κ = s.κ ∧ Ext s s' ∧ Wd tb bs η m s' w := by
 unfold litD at h
 split at h
 ·rename_i st e c hl
  split at h
  ·rename_i kk hkk
   split at h
   ·rename_i d hd
    cases hb : Nat.beq d.t e with
    | false => rw [hb] at h; cases h
    | true =>
     have := beq_t hb
     subst this
     rw [hb] at h
     simp only [cond_true] at h
     split at h
     ·rename_i l σ x hk hx
      cases h
      obtain ⟨g, cs, h1, h2, H⟩ := lit_ex (hw.pull hl)
      obtain ⟨k1, A, cc, k2, k3, k4⟩ := kidsA_ok hk h2 H
      have H2 := St.toO1 (St_swap (St.oIt d.D (d.D.gs x l) k2 (But_of T hx k3 l) k4))
      refine ⟨rfl, Ext_new (Nat.le_refl _) (lk_new fun t p e => (lk_del (k1 t p e)).2), hw.len, hw.le, ?_, hw.gl⟩
      exact St_conv H2 (fun F hF => deep_item T hd h1 hF) (fun _ e => e)
     ·cases h
   ·cases h
  ·cases h
 ·cases h
theorem shutA_ok (T : TabOk tb) (a : AV tb.T) (hw : Wd tb bs η m s w) : (shutA tb s a).κ = s.κ ∧ Ext s (shutA tb s a) ∧ Wd tb bs η m (shutA tb s a) w := by
 unfold shutA
 split
 ·rename_i id
  obtain ⟨e1, e2, e3⟩ := shutD_ok T id hw
  split
  ·rename_i s1 h1
   obtain ⟨k1, k2, k3⟩ := litD_ok T h1 e3
   exact ⟨k1.trans e1, e2.trans k2, k3⟩
  ·exact ⟨e1, e2, e3⟩
 ·exact ⟨rfl, Ext.refl _, hw⟩
end
end Go.Proofs.YtkleajhiihbefaaGreatDoor.K.E
