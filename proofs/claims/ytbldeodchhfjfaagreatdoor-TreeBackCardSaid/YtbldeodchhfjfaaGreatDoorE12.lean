/- E, part 12: regions in the text's order; loops and joins of the machine; views of a state. -/
import Derived.Test.YtbldeodchhfjfaaGreatDoorE11
set_option linter.unusedVariables false
set_option linter.unusedSimpArgs false
set_option linter.unusedSectionVars false
namespace Go.Proofs.YtbldeodchhfjfaaGreatDoor.K.E
open Go Go.RowKit

abbrev RR (P : Program) (B : Code) (Q : Exit → Act → World → Prop) (J : Nat → Act → World → Prop) (n : Cx) (k : List It) (κ : Kn) (w : World) : Prop := Go.Proofs.YtbldeodchhfjfaaGreatDoor.K.R P B Q J n k κ w
section
variable {P : Program} {tb : Tab} {cs : List (Con tb.T)} {bs : Bs} {η : List Value} {m : Mem} {s : S tb.T} {w : World} {κc : Kn} {B : Code} {n : Cx} {p : List Nat} {i : Nat} {o : Oper} {ρ' : Type} {ans : ρ'} {Q : Exit → Act → World → Prop} {J : Nat → Act → World → Prop} {k : List It} {ops : Array Oper}
theorem KR.know (hk : KR tb η m s.κ κc) {d : Nat} {v : AV tb.T} {u : Value} (hu : fnd κc d = some u) (hv : R tb η m v u) : KR tb η m (s.put (some d) v).κ κc := by
  intro t st v' e
  simp only [S.put, lk] at e
  cases hb : Nat.beq d t with
  | true =>
    rw [hb] at e
    have := beq_t hb
    subst this
    simp only [cond_true, Option.some.injEq, Prod.mk.injEq] at e
    obtain ⟨_, rfl⟩ := e
    exact ⟨u, hu, hv⟩
  | false => rw [hb] at e; exact hk t st v' e
theorem guardE_ok {run skip : S tb.T → Option ρ'} (hk : KR tb η m s.κ κc) (hw : Wd tb bs η m s w) (h : guardE tb ops o s run skip = some ans) : ∃ s', Ext s s' ∧ KR tb η m s'.κ κc ∧ Wd tb bs η m s' w ∧ ((wants κc ops o = some true ∧ run s' = some ans) ∨ (wants κc ops o = some false ∧ skip s' = some ans)) := by
  unfold guardE at h
  unfold wants
  cases hg : o.guard with
  | none => rw [hg] at h; exact ⟨s, Ext.refl _, hk, hw, .inl ⟨rfl, h⟩⟩
  | some g =>
    obtain ⟨j, want⟩ := g
    rw [hg] at h
    simp only at h ⊢
    cases hj : ops[j]? with
    | none => rw [hj] at h; cases h
    | some oj =>
      rw [hj] at h
      simp only at h ⊢
      cases hd : oj.dst with
      | none => rw [hd] at h; cases h
      | some d =>
        rw [hd] at h
        simp only at h ⊢
        split at h
        · rename_i st b hl
          obtain ⟨u, e1, e2⟩ := hk _ _ _ hl
          have e2 : u = .bool b := e2
          subst e2
          rw [e1]
          simp only
          refine ⟨s.put (some d) (.bool b), Ext.put _ _ _, KR.know hk e1 rfl, hw.put _ _, ?_⟩
          cases want <;> cases b <;> simp only [cond_true, cond_false] at h <;> first | exact .inl ⟨rfl, h⟩ | exact .inr ⟨rfl, h⟩
        · rename_i st l hl
          obtain ⟨u, e1, e2⟩ := hk _ _ _ hl
          obtain ⟨vs, rfl, _⟩ := e2
          rw [e1]
          exact ⟨s, Ext.refl _, hk, hw, .inr ⟨rfl, h⟩⟩
        · rename_i st l hl
          obtain ⟨u, e1, e2⟩ := hk _ _ _ hl
          have e2 : u = _ := e2
          subst e2
          rw [e1]
          exact ⟨s, Ext.refl _, hk, hw, .inr ⟨rfl, h⟩⟩
        · cases h
theorem fitE_ok (hk : KR tb η m s.κ κc) (hops : opsAt B p = ops) (hi : ops[i]? = some o) (hw : wants κc ops o = some true) (hf : fitE tb n.n o s = true) : fetch B n p i κc = some (o.dst, execOp (evT κc) o) := by
  unfold fitE at hf
  simp only [Bool.and_eq_true] at hf
  unfold fetch
  rw [hops, hi]
  simp only [hw]
  have : (dok o.dst n.n && noSel o.op && o.op.operands.all (fun x => (K.ev κc x).isSome)) = true := by
    simp only [Bool.and_eq_true]
    refine ⟨⟨hf.1, hf.2.1⟩, ?_⟩
    rw [Array.all_eq_true_iff_forall_mem]
    intro x hx
    have := Array.all_eq_true_iff_forall_mem.1 hf.2.2 x hx
    obtain ⟨a, ha⟩ := Option.isSome_iff_exists.1 this
    exact hk.known ha
  rw [this]
  rfl
/-- One step, told for what goes on behind it. -/
def Nxt (tb : Tab) (bs : Bs) (η : List Value) (m : Mem) (s : S tb.T) (K : S tb.T → Option ρ') (ans : ρ') (κ' : Kn) (w' : World) : Prop := ∃ s' η' m', K s' = some ans ∧ Ext s s' ∧ Le η η' ∧ Sub m m' ∧ KR tb η' m' s'.κ κ' ∧ Wd tb bs η' m' s' w'
theorem YX.nxt {K : S tb.T → Option ρ'} {d : Option Nat} {κ' : Kn} {w' : World} (h : YX tb bs η m d s (fun v s => K (s.put d v)) ans κc κ' w') : Nxt tb bs η m s K ans κ' w' := by
  obtain ⟨v, s', u, η', m', h1, h2, rfl, h3, h4, h5, h6, h7⟩ := h
  exact ⟨_, η', m', h1, h2.trans (Ext.put _ _ _), h3, h4, KR.put h6 d h5, h7.put _ _⟩
theorem Nxt.pre {K : S tb.T → Option ρ'} {s1 : S tb.T} {κ' : Kn} {w' : World} (hx : Ext s s1) (h : Nxt tb bs η m s1 K ans κ' w') : Nxt tb bs η m s K ans κ' w' :=
  let ⟨s', η', m', h1, h2, h3⟩ := h
  ⟨s', η', m', h1, hx.trans h2, h3⟩
theorem stepE_ok (T : TabOk tb) (C : ∀ cn ∈ cs, ConOk P tb cn) (hops : opsAt B p = ops) (hi : ops[i]? = some o) {K : S tb.T → Option ρ'} (h : stepE P tb cs n.n ops o s K = some ans) (hk : KR tb η m s.κ κc) (hw : Wd tb bs η m s w) :
    (wants κc ops o = some true ∧ fetch B n p i κc = some (o.dst, execOp (evT κc) o) ∧ Step P B n p i κc w (Nxt tb bs η m s K ans)) ∨ (wants κc ops o = some false ∧ dok o.dst n.n = true ∧ Nxt tb bs η m s K ans (putk o.dst undef κc) w) := by
  unfold stepE at h
  obtain ⟨s1, hx1, hk, hw, h⟩ := guardE_ok hk hw h
  rcases h with ⟨h1, h2⟩ | ⟨h1, h2⟩
  · cases hf : fitE tb n.n o s1 with
    | false => rw [hf] at h2; cases h2
    | true =>
      rw [hf] at h2
      have fo := fitE_ok hk hops hi h1 hf
      exact .inl ⟨h1, fo, Step.imp (opE_step T C hw hk fo h2) fun _ _ hx => Nxt.pre hx1 hx.nxt⟩
  · cases hd : dok o.dst n.n with
    | false => rw [hd] at h2; cases h2
    | true =>
      rw [hd] at h2
      exact .inr ⟨h1, rfl, _, η, m, h2, hx1.trans (Ext.put _ _ _), Le.refl _, Sub.refl _, KR.put hk o.dst (v := undA) rfl, hw.put _ _⟩
theorem seqE_ok (T : TabOk tb) (C : ∀ cn ∈ cs, ConOk P tb cn) (hops : opsAt B p = ops) : ∀ (l : List Oper) (i : Nat), ops.toList.drop i = l → ∀ {s : S tb.T} {η : List Value} {m : Mem} {κc : Kn} {w : World} {K : S tb.T → Option ρ'}, seqE P tb cs n.n ops l s K = some ans → KR tb η m s.κ κc → Wd tb bs η m s w →
    (∀ κ' w', Nxt tb bs η m s K ans κ' w' → RR P B Q J n k κ' w') → RR P B Q J n (.op p i :: k) κc w
  | [], i, hl, s, η, m, κc, w, K, h, hk, hw, hc => by
    have hn : ops[i]? = none := by
      rw [List.drop_eq_nil_iff] at hl
      exact Array.getElem?_eq_none (by simpa using hl)
    have hs : stp P B n (.op p i :: k) κc = some (k, κc) := by simp only [stp, hops, hn]
    exact stp_sound hs (hc κc w ⟨s, η, m, h, Ext.refl _, Le.refl _, Sub.refl _, hk, hw⟩)
  | o :: l, i, hl, s, η, m, κc, w, K, h, hk, hw, hc => by
    have hi : ops[i]? = some o := by
      have h1 : (ops.toList.drop i)[0]? = some o := by rw [hl]; rfl
      rw [List.getElem?_drop] at h1
      simpa using h1
    have hl2 : ops.toList.drop (i + 1) = l := by
      rw [show i + 1 = i + 1 from rfl, ← List.drop_drop, hl]; rfl
    have go : ∀ κ' w', Nxt tb bs η m s (fun s => seqE P tb cs n.n ops l s K) ans κ' w' → RR P B Q J n (.op p (i + 1) :: k) κ' w' := by
      rintro κ' w' ⟨s', η', m', h1, h2, h3, h4, h5, h6⟩
      refine seqE_ok T C hops l (i + 1) hl2 h1 h5 h6 ?_
      rintro κ2 w2 ⟨s2, η2, m2, k1, k2, k3, k4, k5⟩
      exact hc κ2 w2 ⟨s2, η2, m2, k1, h2.trans k2, h3.trans k3, h4.trans k4, k5⟩
    rcases stepE_ok T C hops hi h hk hw with ⟨h1, h2, h3⟩ | ⟨h1, h2, h3⟩
    · exact st (Step.imp h3 go)
    · have hs : stp P B n (.op p i :: k) κc = some (.op p (i + 1) :: k, putk o.dst undef κc) := by
        simp only [stp, hops, hi, h1, h2, cond_true]
      exact stp_sound hs (go _ _ h3)

/-! ### Loops and joins of the machine, what they hand on being told of the state itself -/
theorem loopA {I : Nat → Act → World → Prop} (j N0 : Nat) {κ : Kn} (hl : isLoop B p = true) (hj : noLe j k = true) (h0 : ∀ a, Ag n κ a → I N0 a w)
    (round : ∀ N a w, I N a w → Hd P B n.ro Q (upJ j (fun a w => ∃ N', N' < N ∧ I N' a w) J) (.co (p ++ [0]) :: .le j :: k) .normal a w) : RR P B Q J n (.co p :: k) κ w := by
  intro a ha
  simp only [Hd, Exit.then]
  obtain ⟨c, hc⟩ : ∃ c, cAt B p = .loop c := by
    unfold isLoop at hl
    split at hl
    · exact ⟨_, by assumption⟩
    · cases hl
  rw [hc]
  refine wpIn_loop_ghost I N0 (h0 a ha) ?_
  intro N a w hI
  have := round N a w hI
  simp only [Hd, Exit.then, cAt_append, hc, cAt] at this
  refine wpIn_mono this ?_
  intro e a' w' hq
  cases e with
  | normal =>
    simp only [Exit.then, upJ, Nat.beq_refl, cond_true] at hq
    exact hq
  | _ => simp only [Exit.then] at hq ⊢; rw [Hd_upJ hj] at hq; exact hq
theorem joinA {I : Act → World → Prop} (j : Nat) {κ : Kn} (hj : noLe j k = true) (code : RR P B Q (upJ j I J) n (.co p :: .le j :: k) κ w) (after : ∀ a w, I a w → Hd P B n.ro Q J k .normal a w) : RR P B Q J n (.co p :: k) κ w := by
  intro a ha
  have := code a ha
  simp only [Hd, Exit.then] at this ⊢
  refine wpIn_mono this ?_
  intro e a' w' hq
  cases e with
  | normal =>
    simp only [Exit.then, upJ, Nat.beq_refl, cond_true] at hq
    exact after a' w' hq
  | _ => simp only [Exit.then] at hq ⊢; rw [Hd_upJ hj] at hq; exact hq
theorem leA {I : Act → World → Prop} {j : Nat} {κ : Kn} (h : ∀ a, Ag n κ a → I a w) : RR P B Q (upJ j I J) n (.le j :: k) κ w := by
  intro a ha
  simp only [Hd, Exit.then, upJ, Nat.beq_refl, cond_true]
  exact h a ha
theorem R_upJ {I : Act → World → Prop} {j : Nat} {κ : Kn} (hj : noLe j k = true) (h : RR P B Q J n k κ w) : RR P B Q (upJ j I J) n k κ w := fun a ha => by rw [Hd_upJ hj]; exact h a ha
theorem popTo_noLe {j id : Nat} : ∀ {k k' : List It}, popTo id k = some k' → noLe j k = true → noLe j k' = true
  | [], _, h, _ => by simp [popTo] at h
  | .bl i :: k, k', h, hn => by
    simp only [popTo] at h
    simp only [noLe] at hn
    cases hb : Nat.beq i id with
    | true => rw [hb] at h; cases h; exact hn
    | false => rw [hb] at h; exact popTo_noLe h hn
  | .co q :: k, k', h, hn => by simp only [popTo] at h; simp only [noLe] at hn; exact popTo_noLe h hn
  | .op q i :: k, k', h, hn => by simp only [popTo] at h; simp only [noLe] at hn; exact popTo_noLe h hn
  | .le i :: k, k', h, hn => by
    simp only [popTo] at h
    simp only [noLe, Bool.and_eq_true] at hn
    exact popTo_noLe h hn.2
def topLe : List It → Nat
  | [] => 0
  | .le i :: k => max (i + 1) (topLe k)
  | _ :: k => topLe k
theorem noLe_top : ∀ (k : List It) (j : Nat), topLe k ≤ j → noLe j k = true
  | [], _, _ => rfl
  | .le i :: k, j, h => by
    simp only [topLe] at h
    simp only [noLe, Bool.and_eq_true, Bool.not_eq_true']
    refine ⟨?_, noLe_top k j (by omega)⟩
    cases hb : Nat.beq i j with
    | true => have := beq_t hb; omega
    | false => rfl
  | .co _ :: k, j, h => noLe_top k j h
  | .op _ _ :: k, j, h => noLe_top k j h
  | .bl _ :: k, j, h => noLe_top k j h
end

/-! ### Views -/
structure Vw where
  ts : List Nat
  bs : List (Nat × TypeId)
  sh : Sh
  keep : List Nat
  kb : List Nat
section
variable {T : Nat → Type}
def slotsV (κ : List (Nat × Nat × AV T)) : List Nat → Option (List (AV T))
  | [] => some []
  | t :: r => match lk κ t with
    | some (_, v) => match slotsV κ r with
      | some l => some (v :: l)
      | none => none
    | none => none
/-- Blocks taken out: their cells. -/
def takeB : List (Nat × TypeId) → Sg T → Option (List (AV T) × Sg T)
  | [], σ => some ([], σ)
  | (id, t) :: r, σ => match lk σ id with
    | some (_, .blk t' c) => cond (Nat.beq t' t) (match takeB r (del σ id) with
      | some (l, σ') => some (.agg c :: l, σ')
      | none => none) none
    | _ => none
def pickE {α : Type} (l : List (Nat × Nat × α)) : List Nat → List (Nat × Nat × α)
  | [] => []
  | t :: r => match lk l t with
    | some p => (t, p) :: pickE (del l t) r
    | none => pickE l r
def sameE {α β : Type} (d : Nat) (l : List (Nat × Nat × α)) (l' : List (Nat × Nat × β)) (ts : List Nat) : Bool := ts.all fun t => match lk l t, lk l' t with
  | some (st, _), some (st', _) => Nat.beq st st' && Nat.blt st d
  | none, _ => true
  | _, _ => false
def zipS (st : Nat) : List Nat → List (AV T) → List (Nat × Nat × AV T)
  | t :: ts, a :: as => (t, st, a) :: zipS st ts as
  | _, _ => []
def zipB (st : Nat) : List (Nat × TypeId) → List (AV T) → Sg T
  | (id, t) :: bs, .agg c :: as => (id, st, .blk t c) :: zipB st bs as
  | _, _ => []
end
section
variable (tb : Tab)
def pkV (v : Vw) (s : S tb.T) : Option (v.sh.ty tb.T × S tb.T) := match slotsV s.κ v.ts, takeB v.bs s.σ with
  | some as, some (cl, _) => match prepF tb v.sh 20 (as ++ cl) s with
    | some (_, s) => match slotsV s.κ v.ts, takeB v.bs s.σ with
      | some as, some (cl, σ) => match pk tb v.sh (as ++ cl) σ with
        | some (x, σ') => some (x, { s with σ := σ' })
        | none => none
      | _, _ => none
    | none => none
  | _, _ => none
def headV (v : Vw) (s0 : S tb.T) (x : v.sh.ty tb.T) : S tb.T := match up tb s0.d v.sh x s0.c with
  | (as, σ, c) => { κ := zipS s0.d v.ts (as.take v.ts.length) ++ pickE s0.κ v.keep, σ := zipB s0.d v.bs (as.drop v.ts.length) ++ (σ ++ pickE s0.σ v.kb), c := c, d := s0.d + 1 }
def chkV (v : Vw) (s0 s : S tb.T) : Bool := sameE s0.d s0.κ s.κ v.keep && sameE s0.d s0.σ s.σ v.kb
end
section
variable {tb : Tab} {bs : Bs} {η : List Value} {m : Mem} {s s0 s2 : S tb.T} {w : World} {κc : Kn}
theorem slotsV_ok (hk : KR tb η m s.κ κc) : ∀ {ts : List Nat} {as : List (AV tb.T)}, slotsV s.κ ts = some as → ∃ vs, RL tb η m as vs ∧ getL κc ts = some vs
  | [], as, h => by simp only [slotsV, Option.some.injEq] at h; subst h; exact ⟨[], rfl, rfl⟩
  | t :: r, as, h => by
    simp only [slotsV] at h
    split at h
    · rename_i st v hl
      split at h
      · rename_i l hl2
        cases h
        obtain ⟨u, e1, e2⟩ := hk _ _ _ hl
        obtain ⟨vs, e3, e4⟩ := slotsV_ok hk hl2
        exact ⟨u :: vs, ⟨u, vs, rfl, e2, e3⟩, by simp only [getL, e1, e4]⟩
      · cases h
    · cases h
theorem zipS_ok {st : Nat} : ∀ {ts : List Nat} {as : List (AV tb.T)} {vs : List Value}, RL tb η m as vs → getL κc ts = some vs → KR tb η m (zipS st ts as) κc
  | [], as, vs, h, h' => fun _ _ _ e => by simp only [zipS, lk, reduceCtorEq] at e
  | t :: ts, [], vs, h, h' => fun _ _ _ e => by simp only [zipS, lk, reduceCtorEq] at e
  | t :: ts, a :: as, vs, ⟨v, r, e1, e2, e3⟩, h' => by
    subst e1
    simp only [getL] at h'
    split at h'
    · rename_i u hu
      split at h'
      · rename_i l hl
        cases h'
        intro t' st' v' e
        simp only [zipS, lk] at e
        cases hb : Nat.beq t t' with
        | true =>
          rw [hb] at e
          have := beq_t hb
          subst this
          simp only [cond_true, Option.some.injEq, Prod.mk.injEq] at e
          obtain ⟨_, rfl⟩ := e
          exact ⟨v, hu, e2⟩
        | false => rw [hb] at e; exact zipS_ok e3 hl t' st' v' e
      · cases h'
    · cases h'
theorem getL_len {κ : Kn} : ∀ {ts : List Nat} {vs : List Value}, getL κ ts = some vs → vs.length = ts.length
  | [], vs, h => by simp only [getL, Option.some.injEq] at h; subst h; rfl
  | t :: r, vs, h => by
    simp only [getL] at h
    split at h
    · split at h
      · cases h; rename_i l hl; rw [List.length_cons, List.length_cons, getL_len hl]
      · cases h
    · cases h
/-- The machine's blocks of a view. -/
def bqV (η : List Value) : List (Nat × TypeId) → List Value → List Item
  | (id, t) :: bs, b :: vs => match η[id]?.bind ptrOf, b with
    | some g, .agg cs => blkI g cs.toList t :: bqV η bs vs
    | _, _ => bqV η bs vs
  | _, _ => []
theorem takeB_ok : ∀ (l : List (Nat × TypeId)) {σ σ' : Sg tb.T} {cl : List (AV tb.T)}, takeB l σ = some (cl, σ') → ∀ {F : Nat → Prop}, Sep m w (its tb η σ) F → ∃ bv F1 F2, RL tb η m cl bv ∧ Sep m w (bqV η l bv) F1 ∧ Sep m w (its tb η σ') F2 ∧ (∀ k, F1 k → F2 k → False) ∧ (∀ k, F1 k ∨ F2 k → F k) ∧ ∀ t p, lk σ' t = some p → lk σ t = some p
  | [], σ, σ', cl, h, F, hs => by
    simp only [takeB, Option.some.injEq, Prod.mk.injEq] at h
    obtain ⟨rfl, rfl⟩ := h
    exact ⟨[], fun _ => False, F, rfl, fun _ e => e, hs, fun _ e => e.elim, fun _ e => e.elim False.elim id, fun _ _ e => e⟩
  | (id, t) :: r, σ, σ', cl, h, F, hs => by
    simp only [takeB] at h
    split at h
    · rename_i st t' c hl
      cases hb : Nat.beq t' t with
      | false => rw [hb] at h; cases h
      | true =>
        have := beq_t hb
        subst this
        rw [hb] at h
        simp only [cond_true] at h
        split at h
        · rename_i l σ1 hr
          cases h
          obtain ⟨F1, F2, ⟨g, cs, e1, e2, e3⟩, e4, e5, e6⟩ := Sep_lk hl hs
          obtain ⟨bv, G1, G2, k1, k2, k3, k4, k5, k6⟩ := takeB_ok r hr e4
          refine ⟨.agg cs.toArray :: bv, fun k => F1 k ∨ G1 k, G2, ⟨_, bv, rfl, ⟨cs, rfl, e2⟩, k1⟩, ?_, k3, fun k a b => a.elim (fun a => e5 k a (k5 k (.inr b))) (fun a => k4 k a b),
            fun k e => e6 k (e.elim (fun e => e.elim .inl (fun e => .inr (k5 k (.inl e)))) (fun e => .inr (k5 k (.inr e)))), fun u p e => (lk_del (k6 u p e)).2⟩
          simp only [bqV, e1, Option.bind_some, ptrOf]
          exact ⟨F1, G1, by simpa using e3, k2, fun k a b => e5 k a (k5 k (.inl b)), fun k => Iff.rfl⟩
        · cases h
    · cases h
theorem zipB_ok {st : Nat} {η' : List Value} {m' : Mem} : ∀ (l : List (Nat × TypeId)), (∀ id t v, (id, t) ∈ l → η[id]? = some v → η'[id]? = some v) → ∀ {as : List (AV tb.T)} {bv : List Value}, RL tb η' m' as bv → ∀ {F : Nat → Prop}, Sep m' w (bqV η l bv) F → (∀ id t, (id, t) ∈ l → ∃ g, η[id]? = some (.pointer (some ⟨g, 0, none⟩))) → Sep m' w (its tb η' (zipB st l as)) F ∨ ∃ F', (∀ k, F' k → F k) ∧ Sep m' w (its tb η' (zipB st l as)) F'
  | [], _, as, bv, hr, F, hs, _ => .inr ⟨fun _ => False, fun _ e => e.elim, fun _ e => e⟩
  | (id, t) :: l, hη, [], bv, hr, F, hs, _ => .inr ⟨fun _ => False, fun _ e => e.elim, fun _ e => e⟩
  | (id, t) :: l, hη, a :: as, bv, ⟨v, r, e1, e2, e3⟩, F, hs, hg => by
    subst e1
    obtain ⟨g, hg1⟩ := hg id t (List.mem_cons_self ..)
    have ih := fun {F : Nat → Prop} (hs : Sep m' w (bqV η l r) F) => zipB_ok (st := st) l (fun id t v h => hη id t v (List.mem_cons_of_mem _ h)) e3 hs (fun id t h => hg id t (List.mem_cons_of_mem _ h))
    have ih2 : ∀ {F : Nat → Prop}, Sep m' w (bqV η l r) F → ∃ F', (∀ k, F' k → F k) ∧ Sep m' w (its tb η' (zipB st l as)) F' := fun hs => (ih hs).elim (fun h => ⟨_, fun _ e => e, h⟩) (fun h => h)
    simp only [bqV, hg1, Option.bind_some, ptrOf] at hs
    refine .inr ?_
    cases a with
    | agg c =>
      obtain ⟨cs, rfl, hc⟩ := e2
      simp only at hs
      obtain ⟨F1, F2, k1, k2, k3, k4⟩ := hs
      obtain ⟨F', q1, q2⟩ := ih2 k2
      exact ⟨fun k => F1 k ∨ F' k, fun k e => (k4 k).2 (e.elim .inl (fun e => .inr (q1 k e))), F1, F', ⟨g, cs, hη id t _ (List.mem_cons_self ..) hg1, hc, by simpa using k1⟩, q2, fun k a b => k3 k a (q1 k b), fun k => Iff.rfl⟩
    | _ => exact ⟨fun _ => False, fun _ e => e.elim, fun _ e => e⟩
theorem item_cut {η0 : List Value} {m0 : Mem} {w0 : World} {F0 F : Nat → Prop} {id : Nat} {x : DI tb.T} (h0 : (x.item tb η0 id).P m0 w0 F0) (h : (x.item tb η id).P m w F) : (x.item tb (η.take η0.length) id).P m w F := by
  cases x with
  | blk t c => obtain ⟨g0, cs0, e1, e2, _⟩ := h0; obtain ⟨g, cs, k1, k2, k3⟩ := h; exact ⟨g, cs, take_get e1 k1, RL.cut c e2 k2, k3⟩
  | row n t l => obtain ⟨A0, c0, e1, _⟩ := h0; obtain ⟨A, c, k1, k3⟩ := h; exact ⟨A, c, take_get e1 k1, k3⟩
  | lit t k c => obtain ⟨g0, cs0, e1, e2, _⟩ := h0; obtain ⟨g, cs, k1, k2, k3⟩ := h; exact ⟨g, cs, take_get e1 k1, RL.cut c e2 k2, k3⟩
  | gen n x j => obtain ⟨v0, u0, ⟨e1, e3⟩, _⟩ := h0; obtain ⟨v, u, ⟨k1, k4⟩, k2⟩ := h; exact ⟨v, u, ⟨take_get e1 k1, take_get e3 k4⟩, k2⟩
  | kep t c j => obtain ⟨g0, cs0, ⟨e1, e3⟩, e2, _⟩ := h0; obtain ⟨g, cs, ⟨k1, k4⟩, k2, k3⟩ := h; exact ⟨g, cs, ⟨take_get e1 k1, take_get e3 k4⟩, RL.cut c e2 k2, k3⟩
theorem pickE_lk {α : Type} : ∀ (ts : List Nat) {l : List (Nat × Nat × α)} {t : Nat} {p : Nat × α}, lk (pickE l ts) t = some p → t ∈ ts ∧ lk l t = some p
  | [], _, _, _, h => by cases h
  | u :: ts, l, t, p, h => by
    simp only [pickE] at h
    split at h
    · rename_i q hq
      obtain ⟨q1, q2⟩ := q
      simp only [lk] at h
      cases hb : Nat.beq u t with
      | true => rw [hb] at h; have := beq_t hb; subst this; cases h; exact ⟨List.mem_cons_self .., hq⟩
      | false => rw [hb] at h; obtain ⟨h1, h2⟩ := pickE_lk ts h; exact ⟨List.mem_cons_of_mem _ h1, (lk_del h2).2⟩
    · obtain ⟨h1, h2⟩ := pickE_lk ts h; exact ⟨List.mem_cons_of_mem _ h1, h2⟩
theorem pick_its {η0 : List Value} {m0 : Mem} {w0 : World} : ∀ (ts : List Nat) {σ0 σ : Sg tb.T} {F0 : Nat → Prop}, Sep m0 w0 (its tb η0 σ0) F0 → (∀ t p, t ∈ ts → lk σ0 t = some p → lk σ t = some p) → ∀ {F : Nat → Prop}, Sep m w (its tb η σ) F → ∃ F', (∀ k, F' k → F k) ∧ Sep m w (its tb (η.take η0.length) (pickE σ0 ts)) F'
  | [], _, _, _, _, _, _, _ => ⟨fun _ => False, fun _ e => e.elim, fun _ e => e⟩
  | t :: ts, σ0, σ, F0, h0, hs, F, h => by
    simp only [pickE]
    split
    · rename_i q hq
      obtain ⟨F1, F2, k1, k2, k3, k4⟩ := Sep_lk (hs t q (List.mem_cons_self ..) hq) h
      obtain ⟨G1, G2, g1, g2, g3, g4⟩ := Sep_lk hq h0
      obtain ⟨F', q1, q2⟩ := pick_its ts (σ := del σ t) g2 (fun u p hu e => by
        obtain ⟨e1, e2⟩ := lk_del e
        exact lk_del_ne e1 (hs u p (List.mem_cons_of_mem _ hu) e2)) k2
      exact ⟨fun k => F1 k ∨ F' k, fun k e => k4 k (e.elim .inl (fun e => .inr (q1 k e))), F1, F', item_cut g1 k1, q2, fun k a b => k3 k a (q1 k b), fun k => Iff.rfl⟩
    · exact pick_its ts h0 (fun u p hu e => hs u p (List.mem_cons_of_mem _ hu) e) h
theorem same_lk {α : Type} {d : Nat} {l l' : List (Nat × Nat × α)} {ts : List Nat} (h : sameE d l l' ts = true) (hx : ∀ t st v, lk l' t = some (st, v) → st < d → lk l t = some (st, v)) : ∀ t p, t ∈ ts → lk l t = some p → lk l' t = some p := by
  intro t p ht hp
  unfold sameE at h
  have h1 := List.all_eq_true.1 h t ht
  obtain ⟨st, v⟩ := p
  rw [hp] at h1
  cases hl : lk l' t with
  | none => rw [hl] at h1; cases h1
  | some q =>
    obtain ⟨st', v'⟩ := q
    rw [hl] at h1
    simp only [Bool.and_eq_true, Nat.blt_eq] at h1
    have := beq_t h1.1
    subst this
    have h2 := hx t st v' hl h1.2
    rw [hp] at h2
    cases h2
    rfl
theorem zipS_st {st : Nat} : ∀ (ts : List Nat) (as : List (AV tb.T)) {t : Nat} {p : Nat × AV tb.T}, lk (zipS st ts as) t = some p → p.1 = st
  | [], _, _, _, h => by simp only [zipS, lk, reduceCtorEq] at h
  | u :: ts, [], _, _, h => by simp only [zipS, lk, reduceCtorEq] at h
  | u :: ts, a :: as, t, p, h => by
    simp only [zipS, lk] at h
    cases hb : Nat.beq u t with
    | true => rw [hb] at h; cases h; rfl
    | false => rw [hb] at h; exact zipS_st ts as h
theorem zipB_st {st : Nat} : ∀ (l : List (Nat × TypeId)) (as : List (AV tb.T)) {t : Nat} {p : Nat × DI tb.T}, lk (zipB st l as) t = some p → p.1 = st
  | [], _, _, _, h => by simp only [zipB, lk, reduceCtorEq] at h
  | (id, ty) :: l, [], _, _, h => by simp only [zipB, lk, reduceCtorEq] at h
  | (id, ty) :: l, a :: as, t, p, h => by
    cases a <;> simp only [zipB, lk, reduceCtorEq] at h
    rename_i c
    cases hb : Nat.beq id t with
    | true => rw [hb] at h; cases h; rfl
    | false => rw [hb] at h; exact zipB_st l as h
theorem head_ext (v : Vw) (s0 : S tb.T) (x : v.sh.ty tb.T) : Ext s0 (headV tb v s0 x) := by
  unfold headV
  have h1 := up_le tb s0.d v.sh x s0.c
  have h2 := up_st tb s0.d v.sh x s0.c
  generalize up tb s0.d v.sh x s0.c = u at h1 h2
  obtain ⟨as, σ, c⟩ := u
  simp only at h1 h2
  refine ⟨h1, Nat.le_succ _, fun t st v' e l => ?_, fun t st v' e l => ?_⟩
  · rcases lk_app e with e | e
    · have := zipS_st _ _ e; simp only at this; omega
    · exact (pickE_lk _ e).2
  · rcases lk_app e with e | e
    · have := zipB_st _ _ e; simp only at this; omega
    · rcases lk_app e with e | e
      · have := h2 _ (lk_mem e); simp only at this; omega
      · exact (pickE_lk _ e).2
theorem takeB_ids : ∀ (l : List (Nat × TypeId)) {σ σ' : Sg tb.T} {cl : List (AV tb.T)}, takeB l σ = some (cl, σ') → ∀ {F : Nat → Prop}, Sep m w (its tb η σ) F → ∀ id t, (id, t) ∈ l → ∃ g, η[id]? = some (.pointer (some ⟨g, 0, none⟩))
  | [], _, _, _, _, _, _, _, _, h => by cases h
  | (id, t) :: r, σ, σ', cl, h, F, hs, id', t', hm => by
    simp only [takeB] at h
    split at h
    · rename_i st t2 c hl
      cases hb : Nat.beq t2 t with
      | false => rw [hb] at h; cases h
      | true =>
        rw [hb] at h
        simp only [cond_true] at h
        split at h
        · rename_i l σ1 hr
          obtain ⟨F1, F2, ⟨g, cs, e1, e2, e3⟩, e4, e5, e6⟩ := Sep_lk hl hs
          rcases List.mem_cons.1 hm with hm | hm
          · cases hm; exact ⟨g, e1⟩
          · exact takeB_ids r hr e4 id' t' hm
        · cases h
    · cases h
/-- The state of a view, told anew. -/
theorem head_ok (T : TabOk tb) {η0 : List Value} {m0 : Mem} {w0 : World} {κ0 : Kn} (h0w : Wd tb bs η0 m0 s0 w0) (h0k : KR tb η0 m0 s0.κ κ0) (hw : Wd tb bs η m s w) (hk : KR tb η m s.κ κc) (hx : Ext s0 s) {v : Vw} {x : v.sh.ty tb.T} (hp : pkV tb v s = some (x, s2)) (hc : chkV tb v s0 s2 = true)
    (hbs : ∀ id t, (id, t) ∈ v.bs → id < s0.c) : ∃ η' m', Sub m m' ∧ KR tb η' m' (headV tb v s0 x).κ κc ∧ Wd tb bs η' m' (headV tb v s0 x) w := by
  unfold pkV at hp
  split at hp
  · rename_i as0 cl0 σ00 hs0 ht0
    split at hp
    · rename_i as1 s1 hpr
      obtain ⟨vs0, r0, _⟩ := slotsV_ok hk hs0
      obtain ⟨F00, f00, _⟩ := hw.st.sep
      obtain ⟨bv0, _, _, r1, _⟩ := takeB_ok (w := w) v.bs ht0 f00
      obtain ⟨x1, m1, x2, k1, w1, _⟩ := prepF_ok T v.sh 20 hpr hw hk (r0.app r1)
      split at hp
      · rename_i as cl σ1 hs1 ht1
        split at hp
        · rename_i y σ2 hpk
          cases hp
          obtain ⟨vs, q1, q2⟩ := slotsV_ok k1 hs1
          obtain ⟨F, f1, f2, f3⟩ := w1.st.sep
          obtain ⟨bv, G1, G2, g1, g2, g3, g4, g5, g6⟩ := takeB_ok (w := w) v.bs ht1 f1
          have hids := takeB_ids v.bs ht1 f1
          have hlen0 : η0.length = s0.c := h0w.len
          have hle : s0.c ≤ η.length := by rw [hw.len]; exact hx.c
          have htl : (η.take η0.length).length = s0.c := by rw [List.length_take]; omega
          obtain ⟨η1, e1, e2, F1, F2, e3, e4, e5, e6⟩ := pk_ok T s0.d v.sh hpk (q1.app g1) g3 (η.take η0.length)
          rw [htl] at e1 e2 e3
          have hup := up_st tb s0.d v.sh x s0.c
          have hx1 : Ext s0 s1 := hx.trans x1
          simp only [chkV, Bool.and_eq_true] at hc
          have c1 := same_lk hc.1 (fun t st _ e l => hx1.κ t st _ e l)
          have c2 := same_lk hc.2 (fun t st _ e l => hx1.σ t st _ (g6 _ _ (pk_sub v.sh hpk _ _ e)) l)
          obtain ⟨F0, z1, _⟩ := h0w.st.sep
          obtain ⟨F', p1, p2⟩ := pick_its v.kb z1 c2 e4
          unfold headV
          generalize up tb s0.d v.sh x s0.c = u at e1 e2 e3 hup
          obtain ⟨as', σ', c'⟩ := u
          simp only at e1 e2 e3
          obtain ⟨v1, v2, ev, l1, l2⟩ : ∃ v1 v2, vs ++ bv = v1 ++ v2 ∧ RL tb (η.take η0.length ++ η1) m1 (as'.take v.ts.length) v1 ∧ RL tb (η.take η0.length ++ η1) m1 (as'.drop v.ts.length) v2 := RL.inv (by rw [List.take_append_drop]; exact e2)
          have hts : vs.length = v.ts.length := getL_len q2
          have hal := e2.len
          have hv1 := l1.len
          rw [List.length_take, ← hal, List.length_append] at hv1
          obtain ⟨rfl, rfl⟩ := List.append_inj ev (by omega)
          refine ⟨η.take η0.length ++ η1, m1, x2, ?_, ⟨e1.symm, ?_, ?_, w1.gl⟩⟩
          · intro t st v' e
            rcases lk_app e with e | e
            · exact zipS_ok l1 q2 t st v' e
            · obtain ⟨ht, e⟩ := pickE_lk _ e
              obtain ⟨u, a1, a2⟩ := k1 _ _ _ (c1 _ _ ht e)
              obtain ⟨u0, b1, b2⟩ := h0k _ _ _ e
              exact ⟨u, a1, R.mono (Le.app _ _) (Sub.refl _) v' (R.cut v' b2 a2)⟩
          · intro i v' e
            have h9 := h0w.le i v' e
            have h10 := hw.le i v' e
            exact Le.app _ _ i v' (take_get h9 h10)
          · have hin : ∀ id t u, (id, t) ∈ v.bs → η[id]? = some u → (η.take η0.length ++ η1)[id]? = some u := by
              intro id t u hm hu
              have hlt := hbs id t hm
              refine Le.app _ _ id u ?_
              rw [List.getElem?_take, if_pos (by omega)]; exact hu
            have hz : ∃ Fz, (∀ k, Fz k → G1 k) ∧ Sep m1 w (its tb (η.take η0.length ++ η1) (zipB s0.d v.bs (as'.drop v.ts.length))) Fz :=
              (zipB_ok (st := s0.d) v.bs hin l2 g2 hids).elim (fun h => ⟨_, fun _ e => e, h⟩) (fun h => h)
            obtain ⟨Fz, z3, z4⟩ := hz
            have p3 := its_le (Le.app (η.take η0.length) η1) _ p2
            refine ⟨w1.st.kp, w1.st.sub, w1.st.has, w1.st.new, fun k => Fz k ∨ (F1 k ∨ F' k), ?_, ?_, ?_⟩
            · rw [its_app, its_app]
              refine Sep.app.2 ⟨Fz, fun k => F1 k ∨ F' k, z4, Sep.app.2 ⟨F1, F', e3, p3, fun k a b => e5 k a (p1 k b), fun k => Iff.rfl⟩, ?_, fun k => Iff.rfl⟩
              intro k a b
              exact g4 k (z3 k a) (e6 k (b.elim .inl (fun b => .inr (p1 k b))))
            · intro k e
              exact f2 k (g5 k (e.elim (fun e => .inl (z3 k e)) (fun e => .inr (e6 k (e.elim .inl (fun b => .inr (p1 k b)))))))
            · intro k e
              exact f3 k (g5 k (e.elim (fun e => .inl (z3 k e)) (fun e => .inr (e6 k (e.elim .inl (fun b => .inr (p1 k b)))))))
        · cases hp
      · cases hp
    · cases hp
  · cases hp
end
end Go.Proofs.YtbldeodchhfjfaaGreatDoor.K.E
