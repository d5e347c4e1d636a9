/- E, part 10P: functions that may panic: their contracts, calls of them. -/
import Derived.Test.YtbldeodchhfjfaaGreatDoorE10
set_option linter.unusedVariables false
set_option linter.unusedSimpArgs false
set_option linter.unusedSectionVars false
namespace Go.Proofs.YtbldeodchhfjfaaGreatDoor.K
open Go Go.RowKit
/-- The operation at a point leaves what X tells, or a panic of a chain, the slots as they were, in a world that Y tells. -/
def StepP (P : Program) (B : Code) (n : Cx) (p : List Nat) (i : Nat) (κ : Kn) (w : World) (X : Kn → World → Prop) (Y : List PanicEntry → Kn → World → Prop) : Prop :=
  ∀ (Q : Exit → Act → World → Prop) (K : Act → World → Prop), (∀ κ' w' a', X κ' w' → Ag n κ' a' → K a' w') → (∀ ch w' a', Y ch κ w' → Ag n κ a' → Q (.panic ch) a' w') → ∀ a, Ag n κ a →
    ∃ o, (opsAt B p)[i]? = some o ∧ noDefer o = true ∧ Region.wanted o (yielded (opsAt B p) a.tmps) = true ∧ o.wp P a w K Q
section
variable {P : Program} {B : Code} {Q : Exit → Act → World → Prop} {J : Nat → Act → World → Prop} {n : Cx} {p : List Nat} {i : Nat} {k : List It} {κ : Kn} {w w1 : World} {ch : List PanicEntry} {d : Option Nat} {s : Sem Next} {X : Kn → World → Prop} {Y : List PanicEntry → Kn → World → Prop}
theorem StepP.of (h : Step P B n p i κ w X) : StepP P B n p i κ w X Y := fun Q K hX _ => h Q K hX
theorem stP (h : StepP P B n p i κ w (fun κ' w' => R P B Q J n (.op p (i + 1) :: k) κ' w') Y) (hq : ∀ ch w' a', Y ch κ w' → Ag n κ a' → Q (.panic ch) a' w') : R P B Q J n (.op p i :: k) κ w := by
  intro a ha
  have hq' : ∀ ch w' a', Y ch κ w' → Ag n κ a' → Hd P B n.ro Q J k (.panic ch) a' w' := fun ch w' a' hy hd => by rw [Hd_panic]; exact hq ch w' a' hy hd
  obtain ⟨o, ho, _, _, _⟩ := h (Hd P B n.ro Q J k) _ (fun κ' w' a' hx ha' => hx a' ha') hq' a ha
  refine R_op_next ho fun K hK => ?_
  obtain ⟨o', ho', hnd, hw, h2⟩ := h (Hd P B n.ro Q J k) K (fun κ' w' a' hx ha' => hK _ _ (hx a' ha')) hq' a ha
  rw [ho] at ho'
  obtain rfl := Option.some.inj ho'
  rw [hw, if_pos rfl]
  exact wp_fr hnd h2
theorem panicR {v : Value} (ho : fetch B n p i κ = some (d, s)) (hr : s.run P w = .halt (.panic v) w1) (hk : Y [{ v, recovered := false }] κ w1) : StepP P B n p i κ w X Y := by
  intro Q K hX hY a ha
  obtain ⟨o, ho', hnd, rfl, hd, he⟩ := fetch_spec ho
  obtain ⟨h1, h2⟩ := he a ha
  refine ⟨o, ho', hnd, h1, ?_⟩
  simp only [Oper.wp, h2, hr, Oper.upon]
  exact hY _ _ _ hk ha
theorem enterPR {f : FuncId} {args : Array Value} {Φ : Value → World → Prop} (ho : fetch B n p i κ = some (d, s))
    (hr : s.run P w = .ok (.enter f args) w1) (hc : Calls P f args w1 fun e w' => (∃ v, e = .returned v ∧ Φ v w') ∨ (∃ ch, e = .panicked ch ∧ Y ch κ w'))
    (hk : ∀ v w', Φ v w' → X (putk d v κ) w') : StepP P B n p i κ w X Y := by
  intro Q K hX hY a ha
  obtain ⟨o, ho', hnd, rfl, hd, he⟩ := fetch_spec ho
  obtain ⟨h1, h2⟩ := he a ha
  refine ⟨o, ho', hnd, h1, ?_⟩
  simp only [Oper.wp, h2, hr, Oper.upon]
  refine hc.mono ?_
  rintro e w' (⟨v, rfl, hΦ⟩ | ⟨ch, rfl, hy⟩)
  · exact hX _ _ _ (hk _ _ hΦ) (ha.put _ hd _)
  · exact hY _ _ _ hy ha
end
end Go.Proofs.YtbldeodchhfjfaaGreatDoor.K
namespace Go.Proofs.YtbldeodchhfjfaaGreatDoor.K.E
open Go Go.RowKit
/-- What may panic. -/
def pnE {π A ρ : Type} (x : Option (Sum π A)) (k : A → Option ρ) (kp : π → Option ρ) : Option ρ := x.bind fun yo => match yo with
  | .inr y => k y
  | .inl l => kp l
def oR {A B : Type} : Sum A B → Option B
  | .inr y => some y
  | .inl _ => none
/-- So many numbers. -/
def Pay : Nat → Type
  | 0 => Unit
  | 1 => Int
  | n + 2 => Int × Pay (n + 1)
def Pay.list : (n : Nat) → Pay n → List Int
  | 0, _ => []
  | 1, x => [x]
  | n + 2, x => x.1 :: Pay.list (n + 1) x.2
def Pay.of : (n : Nat) → List Int → Option (Pay n)
  | 0, l => match l with
    | [] => some ()
    | _ => none
  | 1, l => match l with
    | [x] => some x
    | _ => none
  | n + 2, l => match l with
    | x :: r => (Pay.of (n + 1) r).map fun p => (x, p)
    | _ => none
theorem Pay.of_list : ∀ {n : Nat} {l : List Int} {p : Pay n}, Pay.of n l = some p → Pay.list n p = l
  | 0, [], p, _ => rfl
  | 0, x :: r, p, h => by cases h
  | 1, [x], p, h => by cases h; rfl
  | 1, [], p, h => by cases h
  | 1, x :: y :: r, p, h => by cases h
  | n + 2, [], p, h => by cases h
  | n + 2, x :: r, p, h => by
    unfold Pay.of at h
    simp only at h
    cases h2 : Pay.of (n + 1) r with
    | none => rw [h2] at h; cases h
    | some q =>
      rw [h2] at h
      cases h
      show x :: Pay.list (n + 1) q = _
      rw [Pay.of_list h2]
structure ConP (np : Nat) (T : Nat → Type) where
  f : FuncId
  ar : Sh
  os : Sh
  nr : Nat
  bk : List (Nat × TypeId)
  rk : List Nat
  F : ar.ty T → Option (Sum (Pay np) (os.ty T))
def ConP.con {np : Nat} {T : Nat → Type} (c : ConP np T) : Con T := ⟨c.f, c.ar, c.os, c.nr, c.bk, c.rk, fun x => (c.F x).bind oR⟩
/-- The value that a panic of a struct of numbers bears. -/
def pnV (t : TypeId) (l : List Int) : List PanicEntry := [{ v := .iface t (iV l), recovered := false }]
def intsV : List Value → Option (List Int)
  | [] => some []
  | .int .i64 x :: r => match intsV r with
    | some l => some (x :: l)
    | none => none
  | _ => none
theorem intsV_ok : ∀ {c : List Value} {l : List Int}, intsV c = some l → c = l.map fun x => Value.int .i64 x
  | [], l, h => by simp only [intsV, Option.some.injEq] at h; subst h; rfl
  | v :: r, l, h => by
    unfold intsV at h
    split at h
    · rename_i e; cases e
    · rename_i x r' e
      cases e
      split at h
      · rename_i l' hl
        cases h
        rw [intsV_ok hl]; rfl
      · cases h
    · cases h
def ConPOk {np : Nat} (P : Program) (tb : Tab) (pt : TypeId) (cn : ConP np tb.T) : Prop := ∀ (st : Nat) (x : cn.ar.ty tb.T) (yo : Sum (Pay np) (cn.os.ty tb.T)), cn.F x = some yo → ∀ (η : List Value) (m : Mem) (w : World) (F : Nat → Prop) (vals : List Value),
  RL tb η m (up tb st cn.ar x 0).1 vals → η.length = (up tb st cn.ar x 0).2.2 → Has m w → Glob tb m → Sep m w (its tb η (up tb st cn.ar x 0).2.1) F → (∀ k, F k → m k = none) →
  (callFunc cn.f vals.toArray).run P w = .ok (.enter cn.f vals.toArray) w ∧ Calls P cn.f vals.toArray w fun e w' => (∃ y, yo = .inr y ∧ ∃ v, e = .returned v ∧ ∃ (η2 : List Value) (m' : Mem) (rv bv : List Value), v = packV rv ∧ rv.length = cn.nr ∧ RL tb (η ++ η2) m' (up tb st cn.os y η.length).1 (rv ++ bv) ∧ (η ++ η2).length = (up tb st cn.os y η.length).2.2 ∧
    St w F m m' (bkV vals cn.bk bv ++ its tb (η ++ η2) (up tb st cn.os y η.length).2.1) w' ∧ bv.drop cn.bk.length = cn.rk.map (fun j => vals[j]?.getD undef)) ∨ (∃ l, yo = .inl l ∧ e = .panicked (pnV pt (Pay.list np l)) ∧ ∃ m', St w F m m' [] w')
theorem ConPOk.con {np : Nat} {P : Program} {tb : Tab} {pt : TypeId} {cn : ConP np tb.T} (h : ConPOk P tb pt cn) : ConOk P tb cn.con := by
  intro st x y hy η m w F vals h1 h2 h3 h4 h5 h6
  have hy' : cn.F x = some (.inr y) := by
    have hy : (cn.F x).bind oR = some y := hy
    cases hf : cn.F x with
    | none => rw [hf] at hy; cases hy
    | some z => cases z with
      | inl l => rw [hf] at hy; cases hy
      | inr z => rw [hf] at hy; have : z = y := Option.some.inj hy; rw [this]
  obtain ⟨k1, k2⟩ := h st x (.inr y) hy' η m w F vals h1 h2 h3 h4 h5 h6
  refine .inl ⟨k1, k2.mono ?_⟩
  rintro e w' (⟨y', hy2, v, rfl, hr⟩ | ⟨l, hn, _⟩)
  · cases hy2; exact ⟨v, rfl, hr⟩
  · cases hn
section
variable (tb : Tab) {np : Nat} {ρ : Type}
def runP (cn : ConP np tb.T) (avs : List (AV tb.T)) (s : S tb.T) (x : cn.ar.ty tb.T) (σ' : Sg tb.T) (k : KO tb.T ρ) (kp : List Int → S tb.T → Option ρ) : Option ρ := pnE (cn.F x) (fun y => split cn.os y fun y => match up tb s.d cn.os y s.c with
  | (as, σo, c') => k (resA (as.take cn.nr)) (backS avs cn.rk (as.drop (cn.nr + cn.bk.length)) { κ := s.κ, σ := bkI avs s.d cn.bk (as.drop cn.nr) ++ (σo ++ σ'), c := c', d := s.d + 1 })) (fun l => kp (Pay.list np l) { s with σ := σ' })
def tryP (f : FuncId) (avs : List (AV tb.T)) (s : S tb.T) (k : KO tb.T ρ) (kp : List Int → S tb.T → Option ρ) : List (ConP np tb.T) → Option ρ
  | [] => none
  | cn :: r => cond (Nat.beq cn.f f) (match prepF0 tb cn.ar 20 avs s with
    | some (avs', s') => match pk tb cn.ar avs' s'.σ with
      | some (x, σ') => runP tb cn avs' s' x σ' k kp
      | none => tryP f avs s k kp r
    | none => tryP f avs s k kp r) (tryP f avs s k kp r)
end
section
variable {P : Program} {tb : Tab} {bs : Bs} {η : List Value} {m : Mem} {s : S tb.T} {w : World} {κc : Kn} {B : Code} {n : Cx} {p : List Nat} {i : Nat} {d : Option Nat} {ρ' : Type} {k : KO tb.T ρ'} {kp : List Int → S tb.T → Option ρ'} {ans : ρ'} {pt : TypeId} {np : Nat}
/-- What holds behind a panic of a call. -/
def YP (pt : TypeId) (tb : Tab) (bs : Bs) (s : S tb.T) (kp : List Int → S tb.T → Option ρ') (ans : ρ') (ch : List PanicEntry) (κ' : Kn) (w' : World) : Prop := ∃ l s' η' m', ch = pnV pt l ∧ kp l s' = some ans ∧ Ext s s' ∧ KR tb η' m' s'.κ κ' ∧ Wd tb bs η' m' s' w'
theorem runP_step (T : TabOk tb) (hw : Wd tb bs η m s w) (hk : KR tb η m s.κ κc) {cn : ConP np tb.T} (hok : ConPOk P tb pt cn) {avs : List (AV tb.T)} {vals : List Value} (fo : fetch B n p i κc = some (d, callFunc cn.f vals.toArray)) (ha : RL tb η m avs vals)
    {x : cn.ar.ty tb.T} {σ' : Sg tb.T} (hp : pk tb cn.ar avs s.σ = some (x, σ')) (h : runP tb cn avs s x σ' k kp = some ans) : StepP P B n p i κc w (YX tb bs η m d s k ans κc) (YP pt tb bs s kp ans) := by
  unfold runP pnE at h
  obtain ⟨yo, hy, h⟩ := bindE h
  cases yo with
  | inr y =>
    refine StepP.of (runC_step T hw hk hok.con fo ha (cn := cn.con) (x := x) hp ?_)
    unfold runC
    show ((cn.F x).bind oR).bind _ = _
    rw [hy]
    exact h
  | inl l =>
    obtain ⟨F, f1, f2, f3⟩ := hw.st.sep
    obtain ⟨η1, e1, e2, F1, F2, e3, e4, e5, e6⟩ := pk_ok T s.d cn.ar hp ha f1 []
    simp only [List.nil_append] at e1 e2 e3
    have H0 : St bs.w0 bs.F0 bs.m0 m (its tb η1 (up tb s.d cn.ar x 0).2.1 ++ its tb η σ') w :=
      ⟨hw.st.kp, hw.st.sub, hw.st.has, hw.st.new, fun k => F1 k ∨ F2 k, Sep.app.2 ⟨F1, F2, e3, e4, e5, fun k => Iff.rfl⟩, fun k e => f2 k (e6 k e), fun k e => f3 k (e6 k e)⟩
    obtain ⟨F', g1, g2, g3⟩ := St.call _ H0
    obtain ⟨r1, r2⟩ := hok s.d x (.inl l) hy η1 m w F' vals e2 e1.symm hw.st.has hw.gl g1 g2
    refine enterPR (Φ := fun _ _ => False) fo r1 (r2.mono ?_) (fun _ _ hf => hf.elim)
    rintro e w' (⟨y, hn, _⟩ | ⟨l', hl, rfl, m', q3⟩)
    · cases hn
    · cases hl
      refine .inr ⟨_, rfl, Pay.list np l, { s with σ := σ' }, η, m', rfl, h, ⟨Nat.le_refl _, Nat.le_refl _, fun _ _ _ e _ => e, fun t st v e l => pk_sub cn.ar hp _ _ e⟩, hk.mono (Le.refl _) q3.sub, ?_⟩
      have H2 := g3 m' _ w' q3
      exact ⟨hw.len, hw.le, by simpa using H2, Glob.mono hw.gl q3.sub⟩
theorem tryP_step (T : TabOk tb) (hw : Wd tb bs η m s w) (hk : KR tb η m s.κ κc) {f : FuncId} {avs : List (AV tb.T)} {vals : List Value} (fo : fetch B n p i κc = some (d, callFunc f vals.toArray)) (ha : RL tb η m avs vals) : ∀ (ps : List (ConP np tb.T)), (∀ cn ∈ ps, ConPOk P tb pt cn) → tryP tb f avs s k kp ps = some ans →
    StepP P B n p i κc w (YX tb bs η m d s k ans κc) (YP pt tb bs s kp ans)
  | [], _, h => by cases h
  | cn :: r, hc, h => by
    have next := tryP_step T hw hk fo ha r (fun c hm => hc c (List.mem_cons_of_mem _ hm))
    simp only [tryP] at h
    cases hb : Nat.beq cn.f f with
    | false => rw [hb] at h; exact next h
    | true =>
      have := beq_t hb
      subst this
      rw [hb] at h
      simp only [cond_true] at h
      split at h
      · rename_i avs' s1 hp
        split at h
        · rename_i x σ' hpk
          obtain ⟨h1, m1, h2, h3, h4, h5⟩ := prepF0_ok T cn.ar 20 hp hw hk ha
          have hs := runP_step T h4 h3 (hc cn (List.mem_cons_self ..)) fo h5 hpk h
          intro Q K hX hY
          refine hs Q K (fun κ' w' a' hx => hX κ' w' a' (YX.pre h1 h2 _ _ hx)) (fun ch w' a' hy => hY ch w' a' ?_)
          obtain ⟨l, s', η', m', y0, y1, y2, y3⟩ := hy
          exact ⟨l, s', η', m', y0, y1, h1.trans y2, y3⟩
        · exact next h
      · exact next h
end
end Go.Proofs.YtbldeodchhfjfaaGreatDoor.K.E
