/- E, part 9 g: operations over rows whose elements own a row; the operations of parts 9 m, 9 d, 9 g by their kind. -/
import Derived.Test.YtbldeodchhfjfaaGreatDoorE9D
set_option linter.unusedVariables false
set_option linter.unusedSimpArgs false
set_option linter.unusedSectionVars false
namespace Go.Proofs.YtbldeodchhfjfaaGreatDoor.K.E
open Go Go.RowKit

section
variable {P : Program} {tb : Tab} {bs : Bs} {η : List Value} {m : Mem} {s : S tb.T} {w : World} {κc : Kn} {B : Code} {n : Cx} {p : List Nat} {i : Nat} {o : Oper} {ρ' : Type} {k : KO tb.T ρ'} {ans : ρ'} {a b c v : AV tb.T} {x y z : Value}
/-- A row, closed or open: its place, its elements. -/
theorem seenD_ok (T : TabOk tb) {id : Nat} {C : Type} {f : (k : Nat) → (d : DP tb.T tb.rep k) → List (tb.T d.n) → Option C} {r : C} (h : seenD tb s id f = some r) (hw : Wd tb bs η m s w) : ∃ kk d l, tb.dp kk = some d ∧ f kk d l = some r ∧ ∃ A c, η[id]? = some (.slice A l.length c) ∧
    ∀ {i : Nat} {x : tb.T d.n}, l[i]? = some x → ∃ ad, A = some ad := by
  unfold seenD at h
  split at h
  · rename_i r' hr'
    obtain ⟨st, kk, d, g, hl, hd, h2⟩ := withDeep_some tb hr'
    cases h2
    obtain ⟨A, c, h1, H⟩ := hw.deep T hl hd
    exact ⟨kk, d, _, hd, h, A, c, h1, fun hx => H.rowOA 0 rfl hx⟩
  · split at h
    · rename_i r' hr'
      obtain ⟨st, kk, d, g, j, hl, hd, h2⟩ := withHole_some tb hr'
      cases h2
      obtain ⟨A, c, cs, u, h1, h2, h3, h4, h5, h6, H⟩ := hw.hole T hl hd
      refine ⟨kk, d, _, hd, h, A, c, h1, fun hx => ?_⟩
      obtain ⟨ad, e, _⟩ := H.holeAt 0 rfl (Nat.lt_of_le_of_lt (Nat.zero_le _) d.D.lt)
      exact ⟨ad, e⟩
    · cases h
theorem exec_len1 {t ty : TypeId} {A : Option Addr} {l c e : Nat} (hu : P.underlying t = some (.slice e)) : (vS (Builtin.len_ #[t] ty #[.slice A l c])).run P w = .ok (.value (.int .i64 (l : Int))) w := by
  refine vS_run ?_
  simp only [Builtin.len_, List.getElem?_toArray, List.getElem?_cons_zero, Sem.run_bind, run_und hu, Result.andThen_ok]
  rfl
variable (hw : Wd tb bs η m s w) (hk : KR tb η m s.κ κc)
include hw hk
theorem idxD_step (T : TabOk tb) {t id : Nat} (fo' : fetch B n p i κc = some (o.dst, vS (Instr.indexAt t x y))) (ha : R tb η m (.row id) x) (hb : R tb η m b y) (h : idxD P tb t id b s k = some ans) : Step P B n p i κc w (YX tb bs η m o.dst s k ans κc) := by
  unfold idxD at h
  split at h
  · rename_i j hj
    obtain ⟨ik, rfl⟩ := iv_ok hj hb
    obtain ⟨kk, d, l, hd, h, A, c, h1, hA⟩ := seenD_ok T h hw
    cases hc : (slB' P tb t d.n && Nat.blt 0 (tb.rep d.n).sz) with
    | false => rw [hc] at h; cases h
    | true =>
      rw [hc] at h
      rw [Bool.and_eq_true] at hc
      obtain ⟨q, hq, h⟩ := bindE h
      obtain ⟨i0, i1, i2⟩ := idx_some hq
      obtain ⟨ad, rfl⟩ := hA i2
      rw [ha.1] at h1
      cases h1
      obtain ⟨e2, he2⟩ := slB'_ok hc.1
      refine runR fo' (idx_run t e2 (tb.rep d.n).sz (some ad) ad l.length c ik j _ rfl he2 i0 i1 rfl) ⟨_, s, _, η, m, h, Ext.refl _, rfl, Le.refl _, Sub.refl _, ⟨ad, l.length, c, ha.1, i0, i1, ?_⟩, hk, hw⟩
      simp [Addr.add]
  · cases h
theorem lenD_step (T : TabOk tb) {t ty id : Nat} (fo' : fetch B n p i κc = some (o.dst, vS (Builtin.len_ #[t] ty #[x]))) (ha : R tb η m (.row id) x) (h : lenD P tb t id s k = some ans) : Step P B n p i κc w (YX tb bs η m o.dst s k ans κc) := by
  unfold lenD at h
  obtain ⟨kk, d, l, hd, h, A, c, h1, hA⟩ := seenD_ok T h hw
  cases hc : (slcE P t).isSome with
  | false => rw [hc] at h; cases h
  | true =>
    rw [hc] at h
    obtain ⟨e, he⟩ := Option.isSome_iff_exists.1 hc
    rw [ha.1] at h1
    cases h1
    exact runR fo' (exec_len1 (slcE_ok he)) ⟨_, s, _, η, m, h, Ext.refl _, rfl, Le.refl _, Sub.refl _, rfl, hk, hw⟩
omit hw hk in
theorem lk_new2 {σ τ : Sg tb.T} {i1 i2 d : Nat} {x1 x2 : DI tb.T} (h : ∀ t p, lk τ t = some p → lk σ t = some p) : ∀ t st v, lk ((i1, d, x1) :: (i2, d, x2) :: τ) t = some (st, v) → st < d → lk σ t = some (st, v) := by
  intro t st v e l
  simp only [lk] at e
  cases hb : Nat.beq i1 t with
  | true => rw [hb] at e; simp only [cond_true, Option.some.injEq, Prod.mk.injEq] at e; rw [← e.1] at l; exact absurd l (Nat.lt_irrefl _)
  | false => rw [hb] at e; exact lk_new h t st v e l
omit hw hk in
theorem elD_ok (T : TabOk tb) {kk : Nat} {d : DP tb.T tb.rep kk} {cs : List Value} {q : tb.T d.n} (h : But d.D m cs q) : RL tb η m (elD tb d q) cs := by
  have h1 := T.ex (η := η) h
  have hlt : d.off < cs.length := by rw [h.len]; exact d.D.lt
  have h2 := h1.set (i := d.off) (a := .any) (v := cs[d.off]) trivial
  rwa [List.set_set, List.set_getElem_self] at h2
theorem openD_step (T : TabOk tb) {t id n1 off : Nat} {j : Int} (fo' : fetch B n p i κc = some (o.dst, vS (Instr.loadAt t x))) (ha : R tb η m (.elt id j n1 off) x) (h : openD P tb t id j n1 off s k = some ans) : Step P B n p i κc w (YX tb bs η m o.dst s k ans κc) := by
  unfold openD at h
  have hh := h
  clear h
  obtain ⟨st, k2, d2, g, hl, hd, h⟩ := withDeep_some tb hh
  clear hh
  cases hc : (Nat.beq n1 d2.n && (Nat.beq off d2.off && oneB P t)) with
  | false => rw [hc] at h; cases h
  | true =>
    rw [hc] at h
    simp only [cond_true] at h
    simp only [Bool.and_eq_true] at hc
    obtain ⟨hn, hof, hc⟩ := hc
    have hn := beq_t hn
    have hof := beq_t hof
    subst hn hof
    obtain ⟨q, hq, h⟩ := bindE h
    obtain ⟨i0, i1, i2⟩ := idx_some hq
    obtain ⟨A, c, h1, H⟩ := hw.deep T hl hd
    obtain ⟨ad, len, c0, e1, e2, e3, rfl⟩ := ha
    have e1' := e1
    rw [h1] at e1
    obtain ⟨rfl, rfl, rfl⟩ : A = some ad ∧ (d2.to g).length = len ∧ c = c0 := by cases e1; exact ⟨rfl, rfl, rfl⟩
    obtain ⟨cs, H2⟩ := H.openO 0 rfl i2
    obtain ⟨A2, c2, f1, f2, H3⟩ := St.unIt H2
    obtain ⟨ad', e, _, _, f3⟩ := H3.holeAt 1 rfl (Nat.lt_of_le_of_lt (Nat.zero_le _) d2.D.lt)
    cases e
    have hrun := ld_run (P := P) (w := w) t ((ad.add (j.toNat * (tb.rep d2.n).sz)).add d2.off) _ hc (f3 _ _ f1)
    refine runR fo' hrun ⟨_, _, _, η ++ [.slice A2 (d2.D.getk q).length c2], m, h, Ext_new (Nat.le_succ _) (lk_new2 fun t p e => (lk_del e).2), rfl, Le.app _ _, Sub.refl _, ⟨at_new hw _, rfl⟩, hk.mono (Le.app _ _) (Sub.refl _), ?_, hw.le.trans (Le.app _ _), ?_, hw.gl⟩
    · rw [List.length_append, hw.len]; rfl
    · have H4 : St bs.w0 bs.F0 bs.m0 m (rowI (tb.rep d2.nk) d2.tk A2 c2 (d2.D.getk q) :: holeO (oD d2.D d2.tk) d2.t (some ad) c (d2.to g) j.toNat cs :: its tb η (del s.σ id)) w := H3
      refine St_conv (St_imp H4 fun F hF => hF) (fun F hF => ⟨A2, c2, at_new hw _, hF⟩) (fun F hF => ?_)
      obtain ⟨F1, F2, g1, g2, g3⟩ := hF
      exact ⟨F1, F2, hole_item T hd (Le.app _ _ _ _ h1) (at_new hw _) i2 f1 rfl f2 g1, its_le (Le.app _ _) _ g2, g3⟩
theorem loadD1_step (T : TabOk tb) {t id n1 off : Nat} {j : Int} (fo' : fetch B n p i κc = some (o.dst, vS (Instr.loadAt t x))) (ha : R tb η m (.elt id j n1 off) x) (h : loadD1 P tb t id j n1 off s k = some ans) : Step P B n p i κc w (YX tb bs η m o.dst s k ans κc) := by
  unfold loadD1 at h
  have hh := h
  clear h
  obtain ⟨st, kk, d, g, hl, hd, h⟩ := withDeep_some tb hh
  clear hh
  cases hn : Nat.beq n1 d.n with
  | false => rw [hn] at h; cases h
  | true =>
    rw [hn] at h
    simp only [cond_true] at h
    cases ho : Nat.beq off d.off with
    | true => rw [ho] at h; exact openD_step hw hk T fo' ha h
    | false =>
      rw [ho] at h
      have hn := beq_t hn
      subst hn
      simp only [cond_false] at h
      obtain ⟨q, hq, h⟩ := bindE h
      obtain ⟨i0, i1, i2⟩ := idx_some hq
      obtain ⟨A, c, h1, H⟩ := hw.deep T hl hd
      obtain ⟨cs, H2⟩ := H.openO 0 rfl i2
      obtain ⟨A2, c2, f1, f2, H3⟩ := St.unIt H2
      obtain ⟨ad, len, c0, e1, e2, e3, rfl⟩ := ha
      rw [h1] at e1
      obtain ⟨rfl, rfl, rfl⟩ : A = some ad ∧ (d.to g).length = len ∧ c = c0 := by cases e1; exact ⟨rfl, rfl, rfl⟩
      split at h
      · rename_i v hv
        obtain ⟨u, r1, r2⟩ := getC_ok (P := P) (ad := ad.add (j.toNat * (tb.rep d.n).sz)) (w := w) hv (elD_ok T (η := η) f2) (H3.holeCell 1 rfl rfl (Nat.lt_of_le_of_lt (Nat.zero_le _) d.D.lt))
        exact runR fo' r1 ⟨v, s, u, η, m, h, Ext.refl _, rfl, Le.refl _, Sub.refl _, r2, hk, hw⟩
      · cases h
theorem loadD_step (T : TabOk tb) {t id n1 off : Nat} {j : Int} (fo' : fetch B n p i κc = some (o.dst, vS (Instr.loadAt t x))) (ha : R tb η m (.elt id j n1 off) x) (h : loadD P tb t id j n1 off s k = some ans) : Step P B n p i κc w (YX tb bs η m o.dst s k ans κc) := by
  obtain ⟨g1, g2, g3⟩ := shutD_ok T id hw
  have hk' : KR tb η m (shutD tb s id).κ κc := by rw [g1]; exact hk
  exact Step.imp (loadD1_step g3 hk' T fo' ha h) (YX.pre g2 (Sub.refl _))
theorem storeD1_step (T : TabOk tb) {t id n1 off : Nat} {j : Int} (fo' : fetch B n p i κc = some (o.dst, uS (Instr.storeAt t x y))) (ha : R tb η m (.elt id j n1 off) x) (hb : R tb η m a y) (h : storeD1 P tb t id j n1 off a s k = some ans) : Step P B n p i κc w (YX tb bs η m o.dst s k ans κc) := by
  unfold storeD1 at h
  have hh := h
  clear h
  obtain ⟨st, kk, d, g, hl, hd, h⟩ := withDeep_some tb hh
  clear hh
  cases hc : (Nat.beq n1 d.n && (oneB P t && (oneA a && (Nat.blt off (tb.rep d.n).sz && !Nat.beq off d.off)))) with
  | false => rw [hc] at h; cases h
  | true =>
    rw [hc] at h
    simp only [cond_true] at h
    simp only [Bool.and_eq_true, Bool.not_eq_true'] at hc
    obtain ⟨c1, c2, c3, c4, c5⟩ := hc
    have c1 := beq_t c1
    subst c1
    have c4 : off < (tb.rep d.n).sz := by simpa [Nat.blt_eq] using c4
    have c5 := beq_ne c5
    obtain ⟨q, hq, h⟩ := bindE h
    obtain ⟨i0, i1, i2⟩ := idx_some hq
    split at h
    · rename_i y0 hy0
      obtain ⟨A, c, h1, H⟩ := hw.deep T hl hd
      obtain ⟨cs, H2⟩ := H.openO 0 rfl i2
      obtain ⟨A2, c2', f1, f2, H3⟩ := St.unIt H2
      obtain ⟨ad, len, c0, e1, e2, e3, rfl⟩ := ha
      have e1' := e1
      rw [h1] at e1
      obtain ⟨rfl, rfl, rfl⟩ : A = some ad ∧ (d.to g).length = len ∧ c = c0 := by cases e1; exact ⟨rfl, rfl, rfl⟩
      have hlen : cs.length = (tb.rep d.n).sz := f2.len
      refine stHole (o := oD d.D d.tk) o.dst t 1 j.toNat off (some ad) c (d.to g) d.t cs y ad H3 rfl rfl fo' c2 (oneA_ok hb c3) (by omega) ?_
      intro w1 H4
      have hbut : But d.D m (cs.set off y) (d.D.setk y0 (d.D.getk q)) := by
        have r1 : RL tb η m ((tb.ex d.n (d.D.setk q [])).set off a) ((cs.set d.off (.slice none 0 0)).set off y) := (T.ex (η := η) f2).set hb
        have r2 := d.D.empt (T.im hy0 r1)
        unfold But
        rw [d.D.ss]
        rw [List.set_comm _ _ c5, List.set_set] at r2
        rw [List.set_comm _ _ c5]
        exact r2
      have H5 : St bs.w0 bs.F0 bs.m0 m (holeO (oD d.D d.tk) d.t (some ad) c (d.to g) j.toNat (cs.set off y) :: rowI (tb.rep d.nk) d.tk A2 c2' (d.D.getk q) :: its tb η (del s.σ id)) w1 := H4
      have H6 := St.closeO (St.oIt d.D (x := d.D.setk y0 (d.D.getk q)) (d.D.gs _ _) (by rw [List.getElem?_set_ne c5]; exact f1) hbut (St_swap H5))
      obtain ⟨k1, k2⟩ := hw.sto hl (x := .gen kk (d.of ((d.to g).set j.toNat (d.D.setk y0 (d.D.getk q)))) id) (St_conv H6 (fun F hF => deep_item T hd (by rw [List.length_set]; exact e1') hF) (fun _ e => e))
      exact ⟨_, _, undef, η, m, h, k1, rfl, Le.refl _, Sub.refl _, rfl, hk, k2⟩
    · cases h
theorem storeD2_step (T : TabOk tb) {t id n1 off : Nat} {j : Int} (fo' : fetch B n p i κc = some (o.dst, uS (Instr.storeAt t x y))) (ha : R tb η m (.elt id j n1 off) x) (hb : R tb η m a y) (h : storeD2 P tb t id j n1 off a s k = some ans) : Step P B n p i κc w (YX tb bs η m o.dst s k ans κc) := by
  unfold storeD2 at h
  have hh := h
  clear h
  obtain ⟨st, kk, d, g, j2, hl, hd, h⟩ := withHole_some tb hh
  clear hh
  split at h
  · rename_i id3
    split at h
    · rename_i st3 nk tk l3 hl3
      cases hc : (Nat.beq n1 d.n && (Nat.beq off d.off && (oneB P t && Nat.beq tk d.tk))) with
      | false => rw [hc] at h; cases h
      | true =>
        rw [hc] at h
        simp only [cond_true] at h
        simp only [Bool.and_eq_true] at hc
        obtain ⟨c1, c2, c3, c4⟩ := hc
        have c1 := beq_t c1
        have c2 := beq_t c2
        have c4 := beq_t c4
        subst c1 c2 c4
        split at h
        · rename_i l3' hl3'
          obtain ⟨en, rfl⟩ := castL_some hl3'
          subst en
          obtain ⟨hj, h⟩ := chkE h
          have hj : j = (d.toh g).2.1 := of_decide_eq_true hj
          obtain ⟨A, c, cs, u, h1, h2, h3, h4, h5, h6, H⟩ := hw.hole T hl hd
          have hne : id3 ≠ id := fun e => by subst e; rw [hl] at hl3; cases hl3
          obtain ⟨A3, c3', g1, H3⟩ := row_ex (St_pull2 (lk_del_ne hne hl3) H)
          rw [hb.1] at g1
          cases g1
          obtain ⟨ad, len, c0, e1, e2, e3, rfl⟩ := ha
          rw [h1] at e1
          obtain ⟨rfl, rfl, rfl⟩ : A = some ad ∧ (d.toh g).1.length = len ∧ c = c0 := by cases e1; exact ⟨rfl, rfl, rfl⟩
          have hjt : j.toNat = (d.toh g).2.1.toNat := by rw [hj]
          rw [hjt] at fo'
          refine stHole (o := oD d.D d.tk) o.dst t 1 (d.toh g).2.1.toNat d.off (some ad) c (d.toh g).1 d.t cs (.slice A3 l3.length c3') ad H3 rfl rfl fo' c3 rfl (List.getElem?_eq_some_iff.1 h4).1 ?_
          intro w1 H4
          have H5 : St bs.w0 bs.F0 bs.m0 m (holeO (oD d.D d.tk) d.t (some ad) c (d.toh g).1 (d.toh g).2.1.toNat (cs.set d.off (.slice A3 l3.length c3')) :: rowI (tb.rep d.nk) d.tk A3 c3' l3 :: its tb η (del (del s.σ id) id3)) w1 := H4
          have H6 := St.closeO (St.oIt d.D (x := d.D.setk (d.toh g).2.2 l3) (d.D.gs _ _) (by rw [List.getElem?_set_self (List.getElem?_eq_some_iff.1 h4).1]) h6.set (St_swap H5))
          refine ⟨_, _, undef, η, m, h, Ext_new (Nat.le_refl _) (lk_new fun t p e => (lk_del (lk_del e).2).2), rfl, Le.refl _, Sub.refl _, rfl, hk, hw.len, hw.le, ?_, hw.gl⟩
          exact St_conv H6 (fun F hF => deep_item T hd (by rw [List.length_set]; exact h1) hF) (fun _ e => e)
        · cases h
    · cases h
  · cases h
theorem storeD_step (T : TabOk tb) {t id n1 off : Nat} {j : Int} (fo' : fetch B n p i κc = some (o.dst, uS (Instr.storeAt t x y))) (ha : R tb η m (.elt id j n1 off) x) (hb : R tb η m a y) (h : storeD P tb t id j n1 off a s k = some ans) : Step P B n p i κc w (YX tb bs η m o.dst s k ans κc) := by
  unfold storeD at h
  obtain ⟨kk, d, l, hd, h, _⟩ := seenD_ok T h hw
  cases ho : Nat.beq off d.off with
  | true => rw [ho] at h; exact storeD2_step hw hk T fo' ha hb h
  | false =>
    rw [ho] at h
    simp only [cond_false] at h
    split at h
    · rename_i a' s1 hf
      obtain ⟨h1, m1, h2, h3, h4, h5⟩ := frzA_ok T 20 hf hw hk (RL.mk1 hb)
      obtain ⟨y', hy', hb'⟩ := h5.one
      cases hy'
      obtain ⟨g1, g2, g3⟩ := shutD_ok T id h4
      have hk' : KR tb η m1 (shutD tb s1 id).κ κc := by rw [g1]; exact h3
      exact Step.imp (storeD1_step g3 hk' T fo' (R.mono (Le.refl _) h2 (.elt id j n1 off) ha) hb' h) (YX.pre (h1.trans g2) h2)
    · cases h
theorem appD_step (T : TabOk tb) {t t2 ty : TypeId} (fo' : fetch B n p i κc = some (o.dst, vS (Builtin.append_ #[t, t2] ty #[x, y]))) (ha : R tb η m a x) (hb : R tb η m b y) (h : appD P tb t t2 a b s k = some ans) : Step P B n p i κc w (YX tb bs η m o.dst s k ans κc) := by
  unfold appD at h
  split at h
  · rename_i e idb he
    split at h
    · rename_i kk hkk
      split at h
      · rename_i d hd
        cases hc : (Nat.beq t2 t && (Nat.beq d.t e && elC P t e (tb.rep d.n).sz)) with
        | false => rw [hc] at h; cases h
        | true =>
          rw [hc] at h
          simp only [cond_true] at h
          simp only [Bool.and_eq_true] at hc
          obtain ⟨c1, c2, c3⟩ := hc
          have c1 := beq_t c1
          have c2 := beq_t c2
          subst c1 c2
          obtain ⟨s1, s2, s3⟩ := shutA_ok T a hw
          have hk1 : KR tb η m (shutA tb s a).κ κc := by rw [s1]; exact hk
          split at h
          · rename_i l s4 hb4
            -- the base
            have hbase : Ext (shutA tb s a) s4 ∧ s4.κ = (shutA tb s a).κ ∧ Wd tb bs η m s4 w ∧ ∃ A c, x = .slice A l.length c ∧ St bs.w0 bs.F0 bs.m0 m (rowO (oD d.D d.tk) d.t A c l :: its tb η s4.σ) w := by
              unfold baseD at hb4
              split at hb4
              · cases hb4
                have ha : x = .slice none 0 0 := ha
                exact ⟨Ext.refl _, rfl, s3, none, 0, ha, s3.st.nilO _ _⟩
              · rename_i id
                split at hb4
                · rename_i st k' g j hl
                  cases hcc : (Nat.beq j id && Nat.beq k' kk) with
                  | false => rw [hcc] at hb4; cases hb4
                  | true =>
                    rw [hcc] at hb4
                    simp only [cond_true] at hb4
                    simp only [Bool.and_eq_true] at hcc
                    have e1 := beq_t hcc.1
                    have e2 := beq_t hcc.2
                    subst e1 e2
                    rw [hd] at hb4
                    simp only at hb4
                    split at hb4
                    · rename_i l' hl'
                      cases hb4
                      obtain ⟨en, e3⟩ := castL_some hl'
                      have : l = d.to g := e3
                      subst this
                      obtain ⟨A, c, h1, H⟩ := s3.deep T hl hd
                      rw [ha.1] at h1
                      exact ⟨Ext.del s3 j, rfl, s3.drop hl, A, c, Option.some.inj h1, H⟩
                    · cases hb4
                · cases hb4
              · cases hb4
            obtain ⟨b1, b2, b3, A, c, rfl, H⟩ := hbase
            split at h
            · rename_i st5 e5 cl hl5
              split at h
              · rename_i lk' σ6 x0 hkid hx0
                obtain ⟨yy, hyy, h⟩ := bindE h
                obtain ⟨gb, cs, q1, q2, H2⟩ := lit_ex (St_pull2 hl5 H)
                rw [hb.1] at q1
                cases q1
                have hcs := H2.blk 0 rfl
                obtain ⟨k1, A2, cc, k2, k3, k4⟩ := kidsA_ok hkid q2 (i := bigI [blkI gb cs e5, rowO (oD d.D d.tk) d.t A c l]) (St.big _ H2)
                have k5 := St.unbig (St_swap k4)
                have H3 : St bs.w0 bs.F0 bs.m0 m (rowO (oD d.D d.tk) d.t A c l :: rowI (tb.rep d.nk) d.tk A2 cc lk' :: its tb η σ6) w := St.drop0 k5
                have H4 := St_swap H3
                have H5 := St.oIt d.D (x := d.D.setk x0 lk') (d.D.gs _ _) k2 (But_of T hx0 k3 lk') H4
                obtain ⟨by_, z0, e1, e2, e3, e4, e6⟩ := elC_ok c3
                refine appOS (o := oD d.D d.tk) o.dst t2 d.t by_ z0 ty A (some ⟨gb, 0, none⟩) c 1 1 l yy (d.D.setk x0 lk') cs H5 e1 e2 e3 fo' (Cs.of_blk hcs).old rfl hyy e4 e6 ?_
                intro A' c1 w1 H6
                have hx1 : Ext s4 { s4 with σ := σ6 } := ⟨Nat.le_refl _, Nat.le_refl _, fun _ _ _ e _ => e, fun t st v e l => (lk_del (k1 t _ e)).2⟩
                have hw6 : Wd tb bs η m { s4 with σ := σ6 } w := ⟨b3.len, b3.le, by
                  have := H4.drop0.drop0
                  exact this, b3.gl⟩
                have hadd := hw6.add hw6.gl (x := .gen kk (d.of yy) s4.c) (u := .slice A' yy.length c1) (w' := w1) (St_conv H6 (fun F hF => deep_item T hd (at_new hw6 _) hF) (fun _ hF => hF))
                refine ⟨_, _, _, _, m, h, ((s2.trans b1).trans hx1).trans (Ext.add _ _), rfl, Le.app _ _, Sub.refl _, ⟨at_new hw6 _, rfl⟩, ?_, hadd⟩
                have : KR tb η m s4.κ κc := by rw [b2]; exact hk1
                exact this.mono (Le.app _ _) (Sub.refl _)
              · cases h
            · cases h
          · cases h
      · cases h
    · cases h
  · cases h
end
/-! ### Which operations these parts take -/
section
variable (P : Program) (tb : Tab) {ρ : Type}
def genI {T : Nat → Type} (s : S T) (id : Nat) : Bool := match lk s.σ id with
  | some (_, .gen _ _ _) => true
  | _ => false
def rowIt {T : Nat → Type} (s : S T) (id : Nat) : Bool := match lk s.σ id with
  | some (_, .row _ _ _) => true
  | _ => false
def slLike {T : Nat → Type} : AV T → Bool
  | .sl _ _ => true
  | .row _ => true
  | _ => false
def litDeep (s : S tb.T) (id : Nat) : Bool := match lk s.σ id with
  | some (_, .lit e 1 c) => (match tb.gcode e with
    | some kk => (match tb.dp kk with
      | some d => (match c[d.off]? with
        | some (.row _) => true
        | some .nils => true
        | _ => false)
      | none => false)
    | none => false)
  | _ => false
def litS (s : S tb.T) (id : Nat) : S tb.T := match litD tb s id with
  | some s' => s'
  | none => s
def deepApp (s : S tb.T) (a b : AV tb.T) : Bool := match a with
  | .row id => genI s id || (match lk s.σ id, b with
    | some (_, .lit e 1 _), .row idb => (match tb.gcode e, lk s.σ idb with
      | some kk, some (_, .lit _ 1 c) => (match tb.dp kk with
        | some d => (match c[d.off]? with
          | some (.row _) => true
          | some .nils => true
          | _ => false)
        | none => false)
      | _, _ => false)
    | _, _ => false)
  | .nils => match b with
    | .row idb => (match lk s.σ idb with
      | some (_, .lit e 1 c) => (match tb.gcode e with
        | some kk => (match tb.dp kk with
          | some d => (match c[d.off]? with
            | some (.row _) => true
            | some .nils => true
            | _ => false)
          | none => false)
        | none => false)
      | _ => false)
    | _ => false
  | _ => false
def isGen (o : Oper) (s : S tb.T) : Bool := match o.op with
  | .makeMap _ none => true
  | .lookup _ _ _ _ => true
  | .mapUpdate _ _ _ _ => true
  | .insert _ _ _ _ => true
  | .binOp _ t x y _ => match evA s.κ x, evA s.κ y with
    | some (.agg _), some (.agg _) => true
    | some a, some .nils => (slcE P t).isSome && slLike a
    | some .nils, some a => (slcE P t).isSome && slLike a
    | _, _ => false
  | .store _ x y => match evA s.κ x, evA s.κ y with
    | some (.elt id _ _ _), some (.agg _) => genI s id || rowIt s id
    | some (.elt id _ _ _), _ => genI s id
    | _, _ => false
  | .load _ x => match evA s.κ x with
    | some (.elt id _ _ _) => genI s id
    | _ => false
  | .indexAddr _ x _ => match evA s.κ x with
    | some (.row id) => genI s id || litDeep tb s id
    | _ => false
  | .call c => match c.callee with
    | .builtin .len => (match evL (evA s.κ) c.args.toList with
      | some [.row id] => genI s id
      | _ => false)
    | .builtin .append => (match evL (evA s.κ) c.args.toList with
      | some [a, b] => deepApp tb s a b
      | _ => false)
    | _ => false
  | _ => false
noncomputable def genR (o : Oper) (s : S tb.T) (k : KO tb.T ρ) : Option ρ := match o.op with
  | .makeMap t none => mkM tb t s k
  | .lookup t x y ok => match evA s.κ x, evA s.κ y with
    | some a, some b => lookM P tb t a b ok s k
    | _, _ => none
  | .mapUpdate t x y z => match evA s.κ x, evA s.κ y, evA s.κ z with
    | some a, some b, some c => mputM P tb t a b c s k
    | _, _, _ => none
  | .insert t x y z => match evA s.κ x, evA s.κ y, evA s.κ z with
    | some a, some b, some c => mputM P tb t a b c s k
    | _, _, _ => none
  | .binOp op t x y _ => match evA s.κ x, evA s.κ y with
    | some (.agg l), some (.agg l') => eqM P op t l l' (fun v => k v s)
    | some a, some .nils => cond (slcE P t).isSome (match emptyA tb s a with
      | some e => nilM tb op e s k
      | none => none) none
    | some .nils, some a => cond (slcE P t).isSome (match emptyA tb s a with
      | some e => nilM tb op e s k
      | none => none) none
    | _, _ => none
  | .store t x y => match evA s.κ x, evA s.κ y with
    | some (.elt id i n off), some a => cond (genI s id) (storeD P tb t id i n off a s k) (storeE P tb t id i n off a s k)
    | _, _ => none
  | .load t x => match evA s.κ x with
    | some (.elt id i n off) => loadD P tb t id i n off s k
    | _ => none
  | .indexAddr t x y => match evA s.κ x, evA s.κ y with
    | some (.row id), some b => idxD P tb t id b (litS tb s id) k
    | _, _ => none
  | .call c => match c.callee with
    | .builtin .len => (match evL (evA s.κ) c.args.toList, c.argTypes.toList with
      | some [.row id], [t] => lenD P tb t id s k
      | _, _ => none)
    | .builtin .append => (match evL (evA s.κ) c.args.toList, c.argTypes.toList with
      | some [a, b], [t, t2] => appD P tb t t2 a b s k
      | _, _ => none)
    | _ => none
  | _ => none
end
section
variable {P : Program} {tb : Tab} {bs : Bs} {η : List Value} {m : Mem} {s : S tb.T} {w : World} {κc : Kn} {B : Code} {n : Cx} {p : List Nat} {i : Nat} {o : Oper} {ρ' : Type} {k : KO tb.T ρ'} {ans : ρ'}
theorem genR_step (T : TabOk tb) (hw : Wd tb bs η m s w) (hk : KR tb η m s.κ κc) (fo : fetch B n p i κc = some (o.dst, execOp (evT κc) o)) (h : genR P tb o s k = some ans) :
    Step P B n p i κc w (YX tb bs η m o.dst s k ans κc) := by
  have fo2 := fo
  unfold genR at h
  split at h
  · rename_i t ho
    rw [exec_makeMap ho] at fo2
    exact mkM_step hw hk T fo2 h
  · rename_i t x y ok ho
    rw [exec_lookup ho] at fo2
    split at h
    · rename_i a b ha hb; exact lookM_step hw hk T fo2 (hk.ev _ _ ha) (hk.ev _ _ hb) h
    · cases h
  · rename_i t x y z ho
    rw [exec_mapUpdate ho] at fo2
    split at h
    · rename_i a b c ha hb hc; exact mputM_step hw hk T fo2 (hk.ev _ _ ha) (hk.ev _ _ hb) (hk.ev _ _ hc) h
    · cases h
  · rename_i t x y z ho
    rw [exec_insert ho] at fo2
    split at h
    · rename_i a b c ha hb hc; exact mputM_step hw hk T fo2 (hk.ev _ _ ha) (hk.ev _ _ hb) (hk.ev _ _ hc) h
    · cases h
  · rename_i op t x y yt ho
    rw [exec_binOp ho] at fo2
    split at h
    · rename_i l l' ha hb
      obtain ⟨v, h1, u, h2, h3⟩ := eqM_ok (q := x) (r := y) h (hk.ev _ _ ha) (hk.ev _ _ hb)
      exact runR fo2 (h2 w hw.st.has) ⟨v, s, u, η, m, h1, Ext.refl _, rfl, Le.refl _, Sub.refl _, h3, hk, hw⟩
    · rename_i a _ ha hb
      cases hc : (slcE P t).isSome with
      | false => rw [hc] at h; cases h
      | true =>
        rw [hc] at h
        simp only [cond_true] at h
        split at h
        · rename_i e he
          obtain ⟨A, l, c, e1, e2⟩ := emptyA_ok hw he (hk.ev _ _ ha)
          exact nilM_step hw hk hc fo2 ⟨A, l, c, .inl ⟨e1, hk.ev _ _ hb⟩, e2⟩ h
        · cases h
    · rename_i a _ _ ha hb
      cases hc : (slcE P t).isSome with
      | false => rw [hc] at h; cases h
      | true =>
        rw [hc] at h
        simp only [cond_true] at h
        split at h
        · rename_i e he
          obtain ⟨A, l, c, e1, e2⟩ := emptyA_ok hw he (hk.ev _ _ hb)
          exact nilM_step hw hk hc fo2 ⟨A, l, c, .inr ⟨hk.ev _ _ ha, e1⟩, e2⟩ h
        · cases h
    · cases h
  · rename_i t x y ho
    rw [exec_store ho] at fo2
    split at h
    · rename_i id j n1 off a ha hb
      cases hg : genI s id with
      | true => rw [hg] at h; exact storeD_step hw hk T fo2 (hk.ev _ _ ha) (hk.ev _ _ hb) h
      | false => rw [hg] at h; exact storeE_step T hw hk fo2 (hk.ev _ _ ha) (hk.ev _ _ hb) h
    · cases h
  · rename_i t x ho
    rw [exec_load ho] at fo2
    split at h
    · rename_i id j n1 off ha; exact loadD_step hw hk T fo2 (hk.ev _ _ ha) h
    · cases h
  · rename_i t x y ho
    rw [exec_indexAddr ho] at fo2
    split at h
    · rename_i id b ha hb
      have hl : (litS tb s id).κ = s.κ ∧ Ext s (litS tb s id) ∧ Wd tb bs η m (litS tb s id) w := by
        unfold litS
        split
        · rename_i s1 h1; exact litD_ok T h1 hw
        · exact ⟨rfl, Ext.refl _, hw⟩
      have hk' : KR tb η m (litS tb s id).κ κc := by rw [hl.1]; exact hk
      exact Step.imp (idxD_step hl.2.2 hk' T fo2 (hk.ev _ _ ha) (hk.ev _ _ hb) h) (YX.pre hl.2.1 (Sub.refl _))
    · cases h
  · rename_i c ho
    split at h
    · rename_i hc
      split at h
      · rename_i id t has hts
        have hr := evL_ok hk.ev has
        obtain ⟨x, e1, e2⟩ := hr.one
        have ht : c.argTypes = #[t] := by rw [← Array.toArray_toList (xs := c.argTypes), hts]
        have ha : c.args.map (evT κc) = #[x] := by apply Array.ext'; rw [Array.toList_map, e1]
        rw [exec_builtin ho hc, ht, ha] at fo2
        exact lenD_step hw hk T (ty := o.type) fo2 e2 h
      · cases h
    · rename_i hc
      split at h
      · rename_i a b t t2 has hts
        have hr := evL_ok hk.ev has
        obtain ⟨x, r, e1, e2, e3⟩ := hr
        obtain ⟨y, rfl, e4⟩ := e3.one
        have ht : c.argTypes = #[t, t2] := by rw [← Array.toArray_toList (xs := c.argTypes), hts]
        have ha : c.args.map (evT κc) = #[x, y] := by apply Array.ext'; rw [Array.toList_map, e1]
        rw [exec_builtin ho hc, ht, ha] at fo2
        exact appD_step hw hk T (ty := o.type) fo2 e2 e4 h
      · cases h
    · cases h
  · cases h
end
end Go.Proofs.YtbldeodchhfjfaaGreatDoor.K.E
