/- E, part 8: operations that turn memory, part two. -/
import Derived.Test.YtbldeodchhfjfaaGreatDoorE7
set_option linter.unusedVariables false
set_option linter.unusedSimpArgs false
set_option linter.unusedSectionVars false
namespace Go.Proofs.YtbldeodchhfjfaaGreatDoor.K.E
open Go Go.RowKit

section
variable (P : Program) (tb : Tab) {ρ : Type}
abbrev KO (T : Nat → Type) (ρ : Type) := AV T → S T → Option ρ
def undA {T : Nat → Type} : AV T := .lit undef
def zrepV (P : Program) (e len : Nat) : Option (List Value) := match P.info? e with
  | some i => cond (Nat.ble (len * i.size) 16777216) (cond (Nat.beq (len * i.size) 0) (some []) (match i.zero with
    | some z => some ((List.range (len * i.size)).map fun j => z.cells[j % z.cells.size]!)
    | none => none)) none
  | none => none
def newM (o : Go.Op) (s : S tb.T) (k : KO tb.T ρ) : Option ρ := match o with
  | .alloc t => match zerosA P t with
    | some c => k (.ptr s.c 0) (addI s (.blk t c))
    | none => none
  | .box t x => match evA s.κ x with
    | some a => match cellsA a with
      | some c => k (.ptr s.c 0) (addI s (.blk t c))
      | none => none
    | none => none
  | .buildSlice t len ps => match slcE P t, partsA (evA s.κ) ps.toList with
    | some e, some l => match zrepV P e len, fillA (fun i => some (i * sizeA P e, sizeA P e)) ((match zrepV P e len with | some z => z | none => []).map cst1) l with
      | some _, some c => k (.row s.c) (addI s (.lit e len c))
      | _, _ => none
    | _, _ => none
  | _ => none
def storeM (t : TypeId) (p a : AV tb.T) (s : S tb.T) (k : KO tb.T ρ) : Option ρ := match p with
  | .ptr id off => match lk s.σ id with
    | some (_, .blk e cs) => match a with
      | .agg l => cond (aggB P t l.length && (l.all oneA && Nat.ble (off + l.length) cs.length)) (k undA { s with σ := sto s.σ id s.d (.blk e (cs.take off ++ l ++ cs.drop (off + l.length))), d := s.d + 1 }) none
      | a => cond (oneB P t && (oneA a && Nat.blt off cs.length)) (k undA { s with σ := sto s.σ id s.d (.blk e (cs.set off a)), d := s.d + 1 }) none
    | _ => none
  | .elt id i n off => match frzA tb 20 [a] s with
    | some ([a], s) => match lk s.σ id with
      | some (_, .row n' e l) => match castL n n' l with
        | some l => cond (oneB P t && (oneA a && Nat.blt off (tb.rep n).sz)) ((idx l i).bind fun x => match tb.im n ((tb.ex n x).set off a) with
          | some y => k undA { s with σ := sto s.σ id s.d (.row n e (l.set i.toNat y)), d := s.d + 1 }
          | none => none) none
        | none => none
      | _ => none
    | _ => none
  | _ => none
def getC (t : TypeId) (l : List (AV tb.T)) (off : Nat) : Option (AV tb.T) := match P.underlying t with
  | some d => match isAggD d with
    | true => cond (Nat.ble (off + sizeA P t) l.length && aggB P t (sizeA P t)) (some (.agg ((l.drop off).take (sizeA P t)))) none
    | false => cond (oneB P t) l[off]? none
  | none => none
def loadM (t : TypeId) (p : AV tb.T) (s : S tb.T) (k : KO tb.T ρ) : Option ρ := match p with
  | .ptr id off => match lk s.σ id with
    | some (_, .blk _ cs) => match getC P tb t cs off with
      | some v => k v s
      | none => none
    | some (_, .kep _ cs _) => match getC P tb t cs off with
      | some v => k v s
      | none => none
    | _ => none
  | .elt id i n off => match lk s.σ id with
    | some (_, .row n' _ l) => match castL n n' l with
      | some l => cond (Nat.blt 0 (tb.rep n).sz) ((idx l i).bind fun x => match getC P tb t (tb.ex n x) off with
        | some v => k v s
        | none => none) none
      | none => none
    | _ => none
  | _ => none
end
section
variable {P : Program} {tb : Tab} {bs : Bs} {η : List Value} {m : Mem} {s : S tb.T} {w : World} {κc : Kn} {B : Code} {n : Cx} {p : List Nat} {i : Nat} {o : Oper} {ρ' : Type} {k : KO tb.T ρ'} {ans : ρ'} {a b v : AV tb.T} {x y : Value}
theorem getC_all {t : TypeId} {l : List (AV tb.T)} {cs : List Value} {off : Nat} {ad : Addr} (h : getC P tb t l off = some v) (hl : RL tb η m l cs) : ∃ u, (∀ w : World, (∀ j u, cs[j]? = some u → w.cell? (ad.add j) = some u) → (vS (Instr.loadAt t (.pointer (some (ad.add off))))).run P w = .ok (.value u) w) ∧ R tb η m v u := by
  unfold getC at h
  split at h
  · rename_i d hu
    split at h
    · cases hb : (Nat.ble (off + sizeA P t) l.length && aggB P t (sizeA P t)) with
      | false => rw [hb] at h; cases h
      | true =>
        rw [hb] at h
        cases h
        rw [Bool.and_eq_true] at hb
        have h1 := Nat.le_of_ble_eq_true hb.1
        have hlen : ((cs.drop off).take (sizeA P t)).length = sizeA P t := by
          rw [List.length_take, List.length_drop, hl.len]; omega
        refine ⟨.agg ((cs.drop off).take (sizeA P t)).toArray, fun w hc => aggRun t _ _ (by rw [hlen]; exact hb.2) ?_, (cs.drop off).take (sizeA P t), rfl, (hl.drop _).take _⟩
        intro j u hj
        rw [List.getElem?_take] at hj
        split at hj
        · rw [List.getElem?_drop] at hj
          rw [add_add]; exact hc _ _ hj
        · cases hj
    · cases hb : oneB P t with
      | false => rw [hb] at h; cases h
      | true =>
        rw [hb] at h
        obtain ⟨u, h1, h2⟩ := hl.get h
        exact ⟨u, fun w hc => ld_run t _ u hb (hc _ _ h1), h2⟩
  · cases h
theorem getC_ok {t : TypeId} {l : List (AV tb.T)} {cs : List Value} {off : Nat} {ad : Addr} (h : getC P tb t l off = some v) (hl : RL tb η m l cs) (hc : ∀ j u, cs[j]? = some u → w.cell? (ad.add j) = some u) : ∃ u, (vS (Instr.loadAt t (.pointer (some (ad.add off))))).run P w = .ok (.value u) w ∧ R tb η m v u :=
  let ⟨u, h1, h2⟩ := getC_all h hl
  ⟨u, h1 w hc, h2⟩
variable (hw : Wd tb bs η m s w) (hk : KR tb η m s.κ κc) (fo : fetch B n p i κc = some (o.dst, execOp (evT κc) o))
include hw hk fo
/-- By its run, the world as it was. -/
theorem stay {u : Value} (hr : (execOp (evT κc) o).run P w = .ok (.value u) w) (hv : R tb η m v u) (h : k v s = some ans) : Step P B n p i κc w (YX tb bs η m o.dst s k ans κc) :=
  runR fo hr ⟨v, s, u, η, m, h, Ext.refl _, rfl, Le.refl _, Sub.refl _, hv, hk, hw⟩
theorem opB_step (T : TabOk tb) (h : opB P tb (evA s.κ) o (fun v => k v s) = some ans) : Step P B n p i κc w (YX tb bs η m o.dst s k ans κc) := by
  obtain ⟨v, h1, u, h2, h3⟩ := opB_ok T hw.gl hk.ev h
  exact stay hw hk fo (h2 w hw.st.has) h3 h1
theorem newM_step (h : newM P tb o.op s k = some ans) : Step P B n p i κc w (YX tb bs η m o.dst s k ans κc) := by
  unfold newM at h
  split at h
  · rename_i t ho
    split at h
    · rename_i c hc
      obtain ⟨z, hz, hr⟩ := zerosA_ok (tb := tb) (η := η) (m := m) hc
      have hwn := blk_new hw t hr
      refine runR fo (v := .pointer (some ⟨w.heap.size, 0, none⟩)) (w' := w.alloc (.cells z.cells.toList.toArray t (0, 0))) ?_ ⟨_, _, _, _, m, h, Ext.add _ _, rfl, Le.app _ _, Sub.refl _, ⟨w.heap.size, at_new hw _, rfl⟩, hk.mono (Le.app _ _) (Sub.refl _), hwn⟩
      unfold execOp
      rw [ho]
      simp only [Instr.alloc, Sem.run_bind, hz, Result.andThen_ok, Array.toArray_toList]
      rfl
    · cases h
  · rename_i t q ho
    split at h
    · rename_i a ha
      split at h
      · rename_i c hc
        have hr := cellsA_ok hc (hk.ev _ _ ha)
        have hwn := blk_new hw t hr
        refine runR fo (v := .pointer (some ⟨w.heap.size, 0, none⟩)) (w' := w.alloc (.cells (evT κc q).cells.toList.toArray t (0, 0))) ?_ ⟨_, _, _, _, m, h, Ext.add _ _, rfl, Le.app _ _, Sub.refl _, ⟨w.heap.size, at_new hw _, rfl⟩, hk.mono (Le.app _ _) (Sub.refl _), hwn⟩
        unfold execOp
        rw [ho, Array.toArray_toList]
        rfl
      · cases h
    · cases h
  · rename_i t len ps ho
    split at h
    · rename_i e l h1 h2
      split at h
      · rename_i z c hz hc
        simp only [hz] at hc
        obtain ⟨vs, hf, hv⟩ := fillA_ok hc (partsA_ok hk.ev h2) (cst1L_ok (tb := tb) (η := η) (m := m) z)
        have hwn : Wd tb bs (η ++ [.slice (some ⟨w.heap.size, 0, none⟩) len len]) m (addI s (.lit e len c)) (w.alloc (.cells vs.toArray e (0, 0))) :=
          hw.add hw.gl (hw.st.add (G := fun k => k = w.heap.size) (Ex.alloc w _) ⟨w.heap.size, vs, at_new hw _, RL.mono (Le.app _ _) (Sub.refl _) c hv, heap_alloc_new w _, fun _ => Iff.rfl⟩ (fun k e => by subst e; exact Nat.le_refl _))
        refine runR fo (v := .slice (some ⟨w.heap.size, 0, none⟩) len len) (w' := w.alloc (.cells vs.toArray e (0, 0))) ?_ ⟨_, _, _, _, m, h, Ext.add _ _, rfl, Le.app _ _, Sub.refl _, ⟨at_new hw _, rfl⟩, hk.mono (Le.app _ _) (Sub.refl _), hwn⟩
        have hu : P.underlying t = some (.slice e) := by
          unfold slcE at h1
          split at h1
          · cases h1; assumption
          · cases h1
        unfold zrepV at hz
        split at hz
        · rename_i inf hi
          cases hb : Nat.ble (len * inf.size) 16777216 with
          | false => rw [hb] at hz; cases hz
          | true =>
            rw [hb] at hz
            simp only [cond_true] at hz
            have hle := Nat.le_of_ble_eq_true hb
            have hsz : sizeA P e = inf.size := by simp [sizeA, hi]
            rw [hsz] at hf
            have hps : (ps.map fun (i, x) => (i, evT κc x)).toList = ps.toList.map fun (i, x) => (i, evT κc x) := by simp
            have hgt : ¬ (len * inf.size > 2 ^ 24) := by omega
            unfold execOp
            rw [ho]
            simp only [Instr.buildSlice, Sem.run_bind, run_und hu, Result.andThen_ok, run_size hi, hgt, if_false, Sem.run_pure, hps]
            cases hb0 : Nat.beq (len * inf.size) 0 with
            | true =>
              rw [hb0] at hz
              cases hz
              have h0 := beq_t hb0
              simp only [h0, if_true, Sem.run_bind, Sem.run_pure, Result.andThen_ok]
              have e0 : (Array.range 0).map (fun i => (#[] : Array Value)[i % (#[] : Array Value).size]!) = ([] : List Value).toArray := by simp
              rw [e0, hf]
              rfl
            | false =>
              rw [hb0] at hz
              have h0 : len * inf.size ≠ 0 := beq_ne hb0
              simp only [cond_false] at hz
              split at hz
              · rename_i zz hzz
                cases hz
                simp only [h0, if_false, Sem.run_bind]
                have hz1 : (zeroValue e).run P w = .ok zz w := by simp [zeroValue, typeInfo, hi, hzz]
                simp only [hz1, Result.andThen_ok, Sem.run_pure]
                have e0 : (Array.range (len * inf.size)).map (fun i => zz.cells[i % zz.cells.size]!) = ((List.range (len * inf.size)).map fun j => zz.cells[j % zz.cells.size]!).toArray := by
                  apply Array.ext'
                  simp
                rw [e0, hf]
                rfl
              · cases hz
        · cases hz
      · cases h
    · cases h
  · cases h
omit hw hk fo in
theorem exec_store {q r : Operand} {t : Nat} (h : o.op = .store t q r) (ρ : Operand → Value) : execOp ρ o = uS (Instr.storeAt t (ρ q) (ρ r)) := by unfold execOp; rw [h]; rfl
theorem storeM_step (T : TabOk tb) {t : TypeId} (fo' : fetch B n p i κc = some (o.dst, uS (Instr.storeAt t x y))) (ha : R tb η m a x) (hb : R tb η m b y) (h : storeM P tb t a b s k = some ans) : Step P B n p i κc w (YX tb bs η m o.dst s k ans κc) := by
  unfold storeM at h
  split at h
  · rename_i id off
    obtain ⟨g, hg, rfl⟩ := ha
    split at h
    · rename_i st e cs hl
      obtain ⟨g', vs, hg', hr, H⟩ := hw.blk hl
      rw [hg] at hg'
      cases hg'
      split at h
      · rename_i l
        cases hc : (aggB P t l.length && (l.all oneA && Nat.ble (off + l.length) cs.length)) with
        | false => rw [hc] at h; cases h
        | true =>
          rw [hc] at h
          simp only [Bool.and_eq_true] at hc
          obtain ⟨us, rfl, hul⟩ := hb
          have hle := Nat.le_of_ble_eq_true hc.2.2
          refine stAggS (H := H) o.dst t 0 g off us vs _ e rfl fo' (by rw [hul.len]; exact hc.1) (oneL hul hc.2.1) (by rw [hul.len, hr.len]; exact hle) rfl ?_
          intro w1 H1
          have hn : RL tb η m (cs.take off ++ l ++ cs.drop (off + l.length)) (vs.take off ++ us ++ vs.drop (off + us.length)) := by
            rw [hul.len]; exact ((hr.take off).app hul).app (hr.drop _)
          obtain ⟨h1, h2⟩ := hw.sto hl (x := .blk e (cs.take off ++ l ++ cs.drop (off + l.length))) (St_conv H1 (fun F hF => ⟨g, _, hg, hn, hF⟩) (fun _ e => e))
          exact ⟨_, _, undef, η, m, h, h1, rfl, Le.refl _, Sub.refl _, rfl, hk, h2⟩
      · cases hc : (oneB P t && (oneA b && Nat.blt off cs.length)) with
        | false => rw [hc] at h; cases h
        | true =>
          rw [hc] at h
          simp only [Bool.and_eq_true] at hc
          have hlt : off < cs.length := by simpa [Nat.blt_eq] using hc.2.2
          refine stS (H := H) o.dst t 0 g off y vs e rfl fo' hc.1 (oneA_ok hb hc.2.1) (by rw [hr.len]; exact hlt) ?_
          intro w1 H1
          obtain ⟨h1, h2⟩ := hw.sto hl (x := .blk e (cs.set off b)) (St_conv H1 (fun F hF => ⟨g, _, hg, hr.set hb, hF⟩) (fun _ e => e))
          exact ⟨_, _, undef, η, m, h, h1, rfl, Le.refl _, Sub.refl _, rfl, hk, h2⟩
    · cases h
  · rename_i id j n1 off
    split at h
    · rename_i b' s1 hf
      obtain ⟨h1, m1, h2, h3, h4, h5⟩ := frzA_ok T 20 hf hw hk (RL.mk1 hb)
      obtain ⟨y', hy', hb'⟩ := h5.one
      cases hy'
      obtain ⟨ad, len, c0, e1, e2, e3, rfl⟩ := ha
      split at h
      · rename_i st n' e l hl
        obtain ⟨A, c, g1, H⟩ := h4.row hl
        split at h
        · rename_i l' hcl
          obtain ⟨en, rfl⟩ := castL_some hcl
          subst en
          cases hc : (oneB P t && (oneA b' && Nat.blt off (tb.rep n').sz)) with
          | false => rw [hc] at h; cases h
          | true =>
            rw [hc] at h
            simp only [Bool.and_eq_true] at hc
            have hlt : off < (tb.rep n').sz := by simpa [Nat.blt_eq] using hc.2.2
            obtain ⟨z, hz, h⟩ := bindE h
            obtain ⟨i0, i1, i2⟩ := idx_some hz
            split at h
            · rename_i z' hz'
              rw [e1] at g1
              cases g1
              refine stElS (H := H) o.dst t 0 j.toNat off (j.toNat * (tb.rep n').sz + off) (some ad) _ l e z z' y ad rfl i2 rfl (by rw [← add_add]; exact fo') rfl hc.1 (oneA_ok hb' hc.2.1) hlt (fun cs hcs => T.im hz' ((T.ex (η := η) hcs).set hb')) ?_
              intro w1 H1
              obtain ⟨k1, k2⟩ := h4.sto hl (x := .row n' e (l.set j.toNat z')) (St_conv H1 (fun F hF => ⟨some ad, _, by rw [List.length_set]; exact e1, hF⟩) (fun _ e => e))
              exact ⟨_, _, undef, η, m1, h, h1.trans k1, rfl, Le.refl _, h2, rfl, h3, k2⟩
            · cases h
        · cases h
      · cases h
    · cases h
  · cases h
theorem loadM_step (T : TabOk tb) {t : TypeId} (fo' : fetch B n p i κc = some (o.dst, vS (Instr.loadAt t x))) (ha : R tb η m a x) (h : loadM P tb t a s k = some ans) : Step P B n p i κc w (YX tb bs η m o.dst s k ans κc) := by
  unfold loadM at h
  split at h
  · rename_i id off
    obtain ⟨g, hg, rfl⟩ := ha
    split at h
    · rename_i st e cs hl
      obtain ⟨g', vs, hg', hr, H⟩ := hw.blk hl
      rw [hg] at hg'
      cases hg'
      split at h
      · rename_i v hv
        obtain ⟨u, h1, h2⟩ := getC_ok (P := P) (ad := ⟨g, 0, none⟩) (w := w) hv hr (fun j u hj => by rw [Addr.add_lit, Nat.zero_add]; exact H.cellB 0 rfl hj)
        rw [Addr.add_lit, Nat.zero_add] at h1
        exact runR fo' h1 ⟨v, s, u, η, m, h, Ext.refl _, rfl, Le.refl _, Sub.refl _, h2, hk, hw⟩
      · cases h
    · rename_i st e cs j hl
      obtain ⟨g', vs, ⟨hg', _⟩, hr, H⟩ := hw.kep hl
      rw [hg] at hg'
      cases hg'
      split at h
      · rename_i v hv
        obtain ⟨u, h1, h2⟩ := getC_ok (P := P) (ad := ⟨g, 0, none⟩) (w := w) hv hr (fun j u hj => by rw [Addr.add_lit, Nat.zero_add]; exact H.cellB 0 rfl hj)
        rw [Addr.add_lit, Nat.zero_add] at h1
        exact runR fo' h1 ⟨v, s, u, η, m, h, Ext.refl _, rfl, Le.refl _, Sub.refl _, h2, hk, hw⟩
      · cases h
    · cases h
  · rename_i id j n1 off
    obtain ⟨ad, len, c0, e1, e2, e3, rfl⟩ := ha
    split at h
    · rename_i st n' e l hl
      obtain ⟨A, c, g1, H⟩ := hw.row hl
      split at h
      · rename_i l' hcl
        obtain ⟨en, rfl⟩ := castL_some hcl
        subst en
        cases hc : Nat.blt 0 (tb.rep n').sz with
        | false => rw [hc] at h; cases h
        | true =>
          rw [hc] at h
          obtain ⟨z, hz, h⟩ := bindE h
          obtain ⟨i0, i1, i2⟩ := idx_some hz
          split at h
          · rename_i v hv
            obtain ⟨ad', cs, hA, h3, h4⟩ := H.rowAt 0 rfl i2 (by simpa [Nat.blt_eq] using hc)
            rw [e1] at g1
            cases g1
            cases hA
            obtain ⟨u, h1, h2⟩ := getC_ok (P := P) (ad := ad.add (j.toNat * (tb.rep n').sz)) (w := w) hv (T.ex (η := η) h3) h4
            exact runR fo' h1 ⟨v, s, u, η, m, h, Ext.refl _, rfl, Le.refl _, Sub.refl _, h2, hk, hw⟩
          · cases h
      · cases h
    · cases h
  · cases h
end
end Go.Proofs.YtbldeodchhfjfaaGreatDoor.K.E
