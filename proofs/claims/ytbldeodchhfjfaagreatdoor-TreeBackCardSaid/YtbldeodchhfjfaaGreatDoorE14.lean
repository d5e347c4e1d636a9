/- E, part 14: a function's code; functions by their contracts. -/
import Derived.Test.YtbldeodchhfjfaaGreatDoorE13
import Derived.Test.YtbldeodchhfjfaaGreatDoorE12P
set_option linter.unusedVariables false
set_option linter.unusedSimpArgs false
set_option linter.unusedSectionVars false
namespace Go.Proofs.YtbldeodchhfjfaaGreatDoor.K.E
open Go Go.RowKit

inductive Ann where
  | loop (brk : Nat) (H X : Vw)
  | join (X : Vw)
  | lock (ids : List Nat)
  | lockJ (ids : List Nat) (X : Vw)
inductive Ex where
  | normal
  | exit (id : Nat)
  | ret
  | pan (l : List Int)
abbrev KK (T : Nat → Type) (ρ : Type) := Ex → S T → Option ρ
def ann (l : List (List Nat × Ann)) (p : List Nat) : Option Ann := match l with
  | [] => none
  | (q, a) :: r => cond (q == p) (some a) (ann r p)
section
variable (tb : Tab) {ρ : Type}
def okV (v : Vw) (s : S tb.T) : Bool := v.bs.all fun x => Nat.blt x.1 s.c
def headK {C : Type} (X : Vw) (s : S tb.T) (y : X.sh.ty tb.T) (f : S tb.T → C) : C := split X.sh y fun y => f (headV tb X s y)
theorem headK_eq {C : Type} (X : Vw) (s : S tb.T) (y : X.sh.ty tb.T) (f : S tb.T → C) : headK tb X s y f = f (headV tb X s y) := split_eq ..
def joinE (X : Vw) (s : S tb.T) (K : KK tb.T ρ) (run : KK tb.T (Sum (X.sh.ty tb.T) ρ) → Option (Sum (X.sh.ty tb.T) ρ)) : Option ρ :=
  cond (okV tb X s) (bnd (run fun e s' => match e with
    | .normal => match pkV tb X s' with
      | some (y, s2) => cond (chkV tb X s s2) (some (.inl y)) none
      | none => none
    | e => (K e s').map .inr) (fun y => headK tb X s y fun s => K .normal s)) none
noncomputable def loopE (brk : Nat) (H X : Vw) (s : S tb.T) (K : KK tb.T ρ) (run : KK tb.T (Sum (H.sh.ty tb.T) (Sum (X.sh.ty tb.T) ρ)) → S tb.T → Option (Sum (H.sh.ty tb.T) (Sum (X.sh.ty tb.T) ρ))) : Option ρ :=
  cond (okV tb X s && okV tb H s) (match pkV tb H s with
    | some (x0, s2) => cond (chkV tb H s s2) (bnd (loopO (fun x => headK tb H s x (run (fun e s' => match e with
      | .normal => match pkV tb H s' with
        | some (y, s2) => cond (chkV tb H s s2) (some (.inl y)) none
        | none => none
      | .exit id => cond (Nat.beq id brk) (match pkV tb X s' with
        | some (y, s2) => cond (chkV tb X s s2) (some (.inr (.inl y))) none
        | none => none) ((K (.exit id) s').map fun r => .inr (.inr r))
      | .ret => (K .ret s').map fun r => .inr (.inr r)
      | .pan l => (K (.pan l) s').map fun r => .inr (.inr r)))) x0) (fun y => headK tb X s y fun s => K (.exit brk) s)) none
    | none => none) none
variable (P : Program) (cs : List (Con tb.T)) (an : List (List Nat × Ann)) (pt : TypeId) {np : Nat} (ps : List (ConP np tb.T)) (nt : Nat)
def knowE {T : Nat → Type} (c : Operand) (b : Bool) (s : S T) : S T := match c with
  | .tmp t => s.put (some t) (.bool b)
  | _ => s
noncomputable def regE {ρ : Type} (ops : Array Oper) (d : Bool) (ids : List Nat) (s : S tb.T) (K : S tb.T → Option ρ) (Kp : List Int → S tb.T → Option ρ) : Option ρ := match d with
  | false => seqP P tb cs pt ps nt ops ops.toList s K Kp
  | true => cond (ops.all noDefer) (match lockA ids s with
    | some (s, L) => drawE P tb cs nt ops (statO ops) L (ops.size + 1) [] s (fun s => K (unlockA ids s))
    | none => none) none
noncomputable def codeE : Code → List Nat → (ρ : Type) → KK tb.T ρ → S tb.T → Option ρ
  | .seq a b, p, _, K, s => codeE a (p ++ [0]) _ (fun e s => match e with
    | .normal => codeE b (p ++ [1]) _ K s
    | e => K e s) s
  | .cond c a b, p, _, K, s => 
    let go {ρ : Type} (K : KK tb.T ρ) : Option ρ := match evA s.κ c with
      | some (.bool x) => cond x (codeE a (p ++ [0]) _ K (knowE c true s)) (codeE b (p ++ [1]) _ K (knowE c false s))
      | _ => none
    match ann an p with
    | some (.join X) => joinE tb X s K (fun K => go K)
    | _ => go K
  | .block id a, p, _, K, s => 
    let go {ρ : Type} (K : KK tb.T ρ) : Option ρ := codeE a (p ++ [0]) _ (fun e s => match e with
      | .exit i => cond (Nat.beq i id) (K .normal s) (K (.exit i) s)
      | e => K e s) s
    match ann an p with
    | some (.join X) => joinE tb X s K (fun K => go K)
    | _ => go K
  | .region _ ops d, p, _, K, s => 
    match ann an p with
    | some (.join X) => joinE tb X s K (fun K => regE tb P cs pt ps nt ops d [] s (K .normal) (fun l => K (.pan l)))
    | some (.lock ids) => regE tb P cs pt ps nt ops d ids s (K .normal) (fun l => K (.pan l))
    | some (.lockJ ids X) => joinE tb X s K (fun K => regE tb P cs pt ps nt ops d ids s (K .normal) (fun l => K (.pan l)))
    | _ => regE tb P cs pt ps nt ops d [] s (K .normal) (fun l => K (.pan l))
  | .loop a, p, _, K, s => match ann an p with
    | some (.loop brk H X) => loopE tb brk H X s K (fun K s => codeE a (p ++ [0]) _ K s)
    | _ => none
  | .skip, _, _, K, s => K .normal s
  | .label _, _, _, K, s => K .normal s
  | .scope a, p, _, K, s => codeE a (p ++ [0]) _ K s
  | .exit id, _, _, K, s => K (.exit id) s
  | .ret, _, _, K, s => K .ret s
  | _, _, _, _, _ => none
end
/-! ### A scope of labels to which nothing jumps -/
theorem stepR_scope {P : Program} {b : Frame} {a : Act} {k : List Go.Item} {cs : List Frame} {w : World} {c : Code} : step P (lone (b.atR a (.code (.scope c) :: k)) cs w) = .next (lone (b.atR a (.code c :: .inScope c :: k)) cs w) :=
  step_lone_go (by simp [stepG, stepG.exec, Frame.atR])
theorem stepR_inScope {P : Program} {b : Frame} {a : Act} {k : List Go.Item} {cs : List Frame} {w : World} {c : Code} : step P (lone (b.atR a (.inScope c :: k)) cs w) = .next (lone (b.atR a k) cs w) :=
  step_lone_go (by simp [stepG, stepG.exec, Frame.atR])
theorem wpIn_scope {F : Fence} {n : Nat} {P : Program} {Q : Exit → Act → World → Prop} {a : Act} {w : World} {c : Code} (hg : ∀ l a w, ¬ Q (.goto l) a w) (h : c.wpIn F n P Q a w) : (Code.scope c).wpIn F n P Q a w := by
  intro b k cs hro hb hr
  have h0 : (lone (b.atR a (.code (.scope c) :: k)) cs w).fenced P F := fenced_calm hb hr rfl
  obtain ⟨e, a₁, w₁, hq, harr⟩ := h b (.inScope c :: k) cs hro hb hr
  cases e with
  | normal => exact ⟨.normal, a₁, w₁, hq, .head h0 stepR_scope (StepsIn.trans harr (.one (fenced_calm hb hr rfl) stepR_inScope))⟩
  | exit id =>
    have hx : exitTo id (.inScope c :: k) = exitTo id k := by simp [exitTo]
    exact ⟨.exit id, a₁, w₁, hq, fun k' hk => .head h0 stepR_scope (harr.1 k' (by rw [hx]; exact hk)),
      fun hr' hk => let ⟨k₁, h1, h2⟩ := harr.2 hr' (by rw [hx]; exact hk); ⟨k₁, h1, .head h0 stepR_scope h2⟩⟩
  | goto l => exact (hg _ _ _ hq).elim
  | ret => exact ⟨_, a₁, w₁, hq, .of_steps (.one h0 stepR_scope) harr⟩
  | panic ch => exact ⟨_, a₁, w₁, hq, .of_steps (.one h0 stepR_scope) harr⟩
  | outgrown => exact ⟨_, a₁, w₁, hq, .of_steps (.one h0 stepR_scope) harr⟩
class NGo (Q : Exit → Act → World → Prop) : Prop where
  ng : ∀ l a w, ¬ Q (.goto l) a w
instance {P : Program} {fn : Func} {Rp : Ending → World → Prop} : NGo (bodyP P fn Rp) := ⟨fun _ _ _ h => h⟩
theorem Hd_goto {P : Program} {B : Code} {Q : Exit → Act → World → Prop} [NGo Q] {ro : Option Nat} {J : Nat → Act → World → Prop} : ∀ (k : List It) (l : Nat) (a : Act) (w : World), ¬ Hd P B ro Q J k (.goto l) a w
  | [], l, a, w, h => NGo.ng (Q := Q) l a w h
  | .bl id :: k, l, a, w, h => Hd_goto k l a w h
  | .le j :: k, l, a, w, h => Hd_goto k l a w h
  | .co p :: k, l, a, w, h => Hd_goto k l a w h
  | .op p i :: k, l, a, w, h => Hd_goto k l a w h
section
variable {P : Program} {tb : Tab} {cs : List (Con tb.T)} {an : List (List Nat × Ann)} {pt : TypeId} {np : Nat} {ps : List (ConP np tb.T)} {bs : Bs} {η : List Value} {m : Mem} {s : S tb.T} {w : World} {κc : Kn} {B : Code} {n : Cx} {p : List Nat} {ρ' : Type} {ans : ρ'} {Q : Exit → Act → World → Prop} [NPc Q] [NGo Q] {J : Nat → Act → World → Prop} {k : List It} {ops : Array Oper}
structure KOk (pt : TypeId) (P : Program) (B : Code) (Q : Exit → Act → World → Prop) (n : Cx) (tb : Tab) (bs : Bs) {ρ : Type} (K : KK tb.T ρ) (ans : ρ) (s0 : S tb.T) (J : Nat → Act → World → Prop) (k : List It) : Prop where
  nrm : ∀ s κ w, K .normal s = some ans → Ext s0 s → Rl tb bs s κ w → RR P B Q J n k κ w
  ext : ∀ id s κ w, K (.exit id) s = some ans → Ext s0 s → Rl tb bs s κ w → ∃ k', popTo id k = some k' ∧ RR P B Q J n k' κ w
  ret : ∀ s κ w, K .ret s = some ans → Ext s0 s → Rl tb bs s κ w → ∀ J p' k', cAt B p' = .ret → RR P B Q J n (.co p' :: k') κ w
  pan : ∀ l s κ w, K (.pan l) s = some ans → Ext s0 s → Rl tb bs s κ w → ∀ a', Ag n κ a' → Q (.panic (pnV pt l)) a' w
/-- What is asked of a piece of code. -/
def EOk (pt : TypeId) (P : Program) (tb : Tab) (bs : Bs) (B : Code) (Q : Exit → Act → World → Prop) (n : Cx) (p : List Nat) (run : (ρ : Type) → KK tb.T ρ → S tb.T → Option ρ) : Prop :=
  ∀ (ρ : Type) (K : KK tb.T ρ) (s : S tb.T) (ans : ρ) (κ : Kn) (w : World) (J : Nat → Act → World → Prop) (k : List It), run ρ K s = some ans → Rl tb bs s κ w → KOk pt P B Q n tb bs K ans s J k → RR P B Q J n (.co p :: k) κ w
theorem KOk.base {ρ : Type} {K : KK tb.T ρ} {ans : ρ} {s0 s1 : S tb.T} (h : KOk pt P B Q n tb bs K ans s0 J k) (hx : Ext s0 s1) : KOk pt P B Q n tb bs K ans s1 J k :=
  ⟨fun s κ w e x r => h.nrm s κ w e (hx.trans x) r, fun id s κ w e x r => h.ext id s κ w e (hx.trans x) r, fun s κ w e x r => h.ret s κ w e (hx.trans x) r, fun l s κ w e x r => h.pan l s κ w e (hx.trans x) r⟩
theorem okV_ok {v : Vw} (h : okV tb v s = true) : ∀ id t, (id, t) ∈ v.bs → id < s.c := by
  intro id t hm
  have := List.all_eq_true.1 h _ hm
  simpa [Nat.blt_eq] using this
theorem map_some {α β : Type} {f : α → β} {x : Option α} {y : β} (h : x.map f = some y) : ∃ z, x = some z ∧ y = f z := by
  cases x with
  | none => cases h
  | some z => cases h; exact ⟨z, rfl, rfl⟩
theorem joinE_ok (T : TabOk tb) {X : Vw} {p : List Nat} {run : (ρ : Type) → KK tb.T ρ → S tb.T → Option ρ} (hrun : EOk pt P tb bs B Q n p run) : EOk pt P tb bs B Q n p (fun ρ K s => joinE tb X s K (fun K => run _ K s)) := by
  intro ρ K s ans κ w J k h hr hK
  change joinE tb X s K (fun K => run _ K s) = some ans at h
  unfold joinE at h
  simp only [headK_eq] at h
  cases ho : okV tb X s with
  | false => rw [ho] at h; cases h
  | true =>
    rw [ho] at h
    simp only [cond_true] at h
    obtain ⟨q, h1, h2, h3⟩ := bndE h
    obtain ⟨η0, m0, hk0, hw0⟩ := hr.ex
    refine joinA (topLe k) (I := fun a w' => ∃ y κ', q = .inl y ∧ Rl tb bs (headV tb X s y) κ' w' ∧ Ag n κ' a) (noLe_top k _ (Nat.le_refl _)) ?_ ?_
    · refine hrun _ _ s q κ w _ _ h1 hr ⟨?_, ?_, ?_, ?_⟩
      · intro s' κ' w' e hx hr'
        simp only at e
        split at e
        · rename_i y s2 hp
          cases hc : chkV tb X s s2 with
          | false => rw [hc] at e; cases e
          | true =>
            rw [hc] at e
            simp only [cond_true, Option.some.injEq] at e
            obtain ⟨η, m, hk, hw⟩ := hr'.ex
            obtain ⟨η', m', _, g1, g2⟩ := head_ok T hw0 hk0 hw hk hx hp hc (okV_ok ho)
            exact leA fun a ha => ⟨y, κ', e.symm, ⟨η', m', g1, g2⟩, ha⟩
        · cases e
      · intro id s' κ' w' e hx hr'
        obtain ⟨z, e1, rfl⟩ := map_some e
        have := h3 z rfl
        subst this
        obtain ⟨k', g1, g2⟩ := hK.ext id s' κ' w' e1 hx hr'
        exact ⟨k', g1, R_upJ (popTo_noLe g1 (noLe_top k _ (Nat.le_refl _))) g2⟩
      · intro s' κ' w' e hx hr' J p' k' hc
        obtain ⟨z, e1, rfl⟩ := map_some e
        have := h3 z rfl
        subst this
        exact hK.ret s' κ' w' e1 hx hr' J p' k' hc
      · intro l' s' κ' w' e hx hr' a' ha'
        obtain ⟨z, e1, rfl⟩ := map_some e
        have := h3 z rfl
        subst this
        exact hK.pan l' s' κ' w' e1 hx hr' a' ha'
    · rintro a w' ⟨y, κ', rfl, hr', ha⟩
      exact hK.nrm _ κ' w' (h2 y rfl) (head_ext X s y) hr' a ha
theorem loopE_ok (T : TabOk tb) {brk : Nat} {H X : Vw} {p : List Nat} {run : (ρ : Type) → KK tb.T ρ → S tb.T → Option ρ} (hl : isLoop B p = true) (hrun : EOk pt P tb bs B Q n (p ++ [0]) run) : EOk pt P tb bs B Q n p (fun ρ K s => loopE tb brk H X s K (fun K s => run _ K s)) := by
  intro ρ K s ans κ w J k h hr hK
  change loopE tb brk H X s K (fun K s => run _ K s) = some ans at h
  unfold loopE at h
  simp only [headK_eq] at h
  cases ho : (okV tb X s && okV tb H s) with
  | false => rw [ho] at h; cases h
  | true =>
    rw [ho] at h
    rw [Bool.and_eq_true] at ho
    simp only [cond_true] at h
    split at h
    · rename_i x0 s2 hp0
      cases hc0 : chkV tb H s s2 with
      | false => rw [hc0] at h; cases h
      | true =>
        rw [hc0] at h
        simp only [cond_true] at h
        obtain ⟨q, h1, h2, h3⟩ := bndE h
        obtain ⟨N, h1⟩ := loopO_iff.1 h1
        obtain ⟨η0, m0, hk0, hw0⟩ := hr.ex
        have hno := noLe_top k _ (Nat.le_refl (topLe k))
        obtain ⟨ηa, ma, _, a1, a2⟩ := head_ok T hw0 hk0 hw0 hk0 (Ext.refl s) hp0 hc0 (okV_ok ho.2)
        refine loopA (I := fun N a w' => ∃ x κ', iter _ N x = some q ∧ Rl tb bs (headV tb H s x) κ' w' ∧ Ag n κ' a) (topLe k) N hl hno (fun a ha => ⟨x0, κ, h1, ⟨ηa, ma, a1, a2⟩, ha⟩) ?_
        rintro N a w' ⟨x, κ', hi, hrx, ha⟩
        obtain ⟨N', qq, rfl, b1, b2, b3⟩ := iterE hi
        refine hrun _ _ (headV tb H s x) qq κ' w' _ _ b1 hrx ⟨?_, ?_, ?_, ?_⟩ a ha
        · intro s' κ2 w2 e hx hr'
          simp only at e
          split at e
          · rename_i y s3 hp
            cases hc : chkV tb H s s3 with
            | false => rw [hc] at e; cases e
            | true =>
              rw [hc] at e
              simp only [cond_true, Option.some.injEq] at e
              obtain ⟨η, m, hk, hw⟩ := hr'.ex
              obtain ⟨η', m', _, g1, g2⟩ := head_ok T hw0 hk0 hw hk ((head_ext H s x).trans hx) hp hc (okV_ok ho.2)
              exact leA fun a ha => ⟨N', Nat.lt_succ_self _, y, κ2, b2 y e.symm, ⟨η', m', g1, g2⟩, ha⟩
          · cases e
        · intro id s' κ2 w2 e hx hr'
          simp only at e
          have hx2 := (head_ext H s x).trans hx
          cases hb : Nat.beq id brk with
          | true =>
            have := beq_t hb
            subst this
            rw [hb] at e
            simp only [cond_true] at e
            split at e
            · rename_i y s3 hp
              cases hc : chkV tb X s s3 with
              | false => rw [hc] at e; cases e
              | true =>
                rw [hc] at e
                simp only [cond_true, Option.some.injEq] at e
                obtain ⟨η, m, hk, hw⟩ := hr'.ex
                obtain ⟨η', m', _, g1, g2⟩ := head_ok T hw0 hk0 hw hk hx2 hp hc (okV_ok ho.1)
                have hq := b3 _ e.symm
                obtain ⟨k', c1, c2⟩ := hK.ext id (headV tb X s y) κ2 w2 (h2 y hq.symm) (head_ext X s y) ⟨η', m', g1, g2⟩
                exact ⟨k', c1, R_upJ (popTo_noLe c1 hno) c2⟩
            · cases e
          | false =>
            rw [hb] at e
            simp only [cond_false] at e
            obtain ⟨z, e1, e2⟩ := map_some e
            have hq := b3 _ e2
            have := h3 z hq.symm
            subst this
            obtain ⟨k', c1, c2⟩ := hK.ext id s' κ2 w2 e1 hx2 hr'
            exact ⟨k', c1, R_upJ (popTo_noLe c1 hno) c2⟩
        · intro s' κ2 w2 e hx hr' J p' k' hc
          obtain ⟨z, e1, e2⟩ := map_some e
          have hq := b3 _ e2
          have := h3 z hq.symm
          subst this
          exact hK.ret s' κ2 w2 e1 ((head_ext H s x).trans hx) hr' J p' k' hc
        · intro l' s' κ2 w2 e hx hr' a' ha'
          obtain ⟨z, e1, e2⟩ := map_some e
          have hq := b3 _ e2
          have := h3 z hq.symm
          subst this
          exact hK.pan l' s' κ2 w2 e1 ((head_ext H s x).trans hx) hr' a' ha'
    · cases h
theorem codeE_ok (T : TabOk tb) (C : ∀ cn ∈ cs, ConOk P tb cn) (D : ∀ cn ∈ ps, ConPOk P tb pt cn) (hm : P.follows .mixedOrders = true) : ∀ (c : Code) (p : List Nat), cAt B p = c → EOk pt P tb bs B Q n p (codeE tb P cs an pt ps n.n c p)
  | .seq a b, p, hc => by
    intro ρ K s ans κ w J k h hr hK
    have ha := codeE_ok T C D hm a (p ++ [0]) (by rw [cAt_append, hc]; simp only [cAt])
    have hb := codeE_ok T C D hm b (p ++ [1]) (by rw [cAt_append, hc]; simp only [cAt])
    have hs : stp P B n (.co p :: k) κ = some (.co (p ++ [0]) :: .co (p ++ [1]) :: k, κ) := by simp only [stp, hc]
    refine stp_sound hs (ha _ _ s ans κ w J _ h hr ⟨?_, ?_, ?_, ?_⟩)
    · intro s' κ' w' e hx hr'
      exact hb _ K s' ans κ' w' J k e hr' (hK.base hx)
    · intro id s' κ' w' e hx hr'
      exact hK.ext id s' κ' w' e hx hr'
    · intro s' κ' w' e hx hr'
      exact hK.ret s' κ' w' e hx hr'
    · intro l' s' κ' w' e hx hr'
      exact hK.pan l' s' κ' w' e hx hr'
  | .cond c a b, p, hc => by
    have ha := codeE_ok T C D hm a (p ++ [0]) (by rw [cAt_append, hc]; simp only [cAt])
    have hb := codeE_ok T C D hm b (p ++ [1]) (by rw [cAt_append, hc]; simp only [cAt])
    have hg : EOk pt P tb bs B Q n p (fun ρ K s => match evA s.κ c with
      | some (.bool x) => cond x (codeE tb P cs an pt ps n.n a (p ++ [0]) _ K (knowE c true s)) (codeE tb P cs an pt ps n.n b (p ++ [1]) _ K (knowE c false s))
      | _ => none) := by
      intro ρ K s ans κ w J k h hr hK
      simp only at h
      split at h
      · rename_i x hx
        obtain ⟨η, m, hk, hw⟩ := hr.ex
        have he : evT κ c = .bool x := hk.ev _ _ hx
        have hk1 := hk.known hx
        obtain ⟨u, hu⟩ := Option.isSome_iff_exists.1 hk1
        have : u = .bool x := by rw [← he, evT, hu]; rfl
        subst this
        have kn : Ext s (knowE c x s) ∧ Rl tb bs (knowE c x s) κ w := by
          unfold knowE
          split
          · exact ⟨Ext.put _ _ _, η, m, KR.know hk (show fnd κ _ = some (.bool x) from hu) rfl, hw.put _ _⟩
          · exact ⟨Ext.refl _, hr⟩
        cases x with
        | true =>
          have hs : stp P B n (.co p :: k) κ = some (.co (p ++ [0]) :: k, κ) := by simp only [stp, hc, hu]
          exact stp_sound hs (ha _ K _ ans κ w J k h kn.2 (hK.base kn.1))
        | false =>
          have hs : stp P B n (.co p :: k) κ = some (.co (p ++ [1]) :: k, κ) := by simp only [stp, hc, hu]
          exact stp_sound hs (hb _ K _ ans κ w J k h kn.2 (hK.base kn.1))
      · cases h
    intro ρ K s ans κ w J k h hr hK
    simp only [codeE] at h
    split at h
    · exact joinE_ok T hg ρ K s ans κ w J k h hr hK
    · exact hg ρ K s ans κ w J k h hr hK
  | .block id a, p, hc => by
    have ha := codeE_ok T C D hm a (p ++ [0]) (by rw [cAt_append, hc]; simp only [cAt])
    have hg : EOk pt P tb bs B Q n p (fun ρ K s => codeE tb P cs an pt ps n.n a (p ++ [0]) _ (fun e s => match e with
      | .exit i => cond (Nat.beq i id) (K .normal s) (K (.exit i) s)
      | e => K e s) s) := by
      intro ρ K s ans κ w J k h hr hK
      have hs : stp P B n (.co p :: k) κ = some (.co (p ++ [0]) :: .bl id :: k, κ) := by simp only [stp, hc]
      refine stp_sound hs (ha _ _ s ans κ w J _ h hr ⟨?_, ?_, ?_, ?_⟩)
      · intro s' κ' w' e hx hr'
        have hs2 : stp P B n (.bl id :: k) κ' = some (k, κ') := rfl
        exact stp_sound hs2 (hK.nrm s' κ' w' e hx hr')
      · intro i s' κ' w' e hx hr'
        simp only at e
        simp only [popTo]
        cases hb : Nat.beq i id with
        | true =>
          rw [hb] at e
          have := beq_t hb
          subst this
          rw [Nat.beq_refl]
          exact ⟨k, rfl, hK.nrm s' κ' w' e hx hr'⟩
        | false =>
          rw [hb] at e
          have hb2 : Nat.beq id i = false := by
            cases hb2 : Nat.beq id i with
            | true => have := beq_t hb2; subst this; rw [Nat.beq_refl] at hb; cases hb
            | false => rfl
          rw [hb2]
          exact hK.ext i s' κ' w' e hx hr'
      · intro s' κ' w' e hx hr'
        exact hK.ret s' κ' w' e hx hr'
      · intro l' s' κ' w' e hx hr'
        exact hK.pan l' s' κ' w' e hx hr'
    intro ρ K s ans κ w J k h hr hK
    simp only [codeE] at h
    split at h
    · exact joinE_ok T hg ρ K s ans κ w J k h hr hK
    · exact hg ρ K s ans κ w J k h hr hK
  | .region id ops d, p, hc => by
    have hops : opsAt B p = ops := by simp [opsAt, hc]
    have hg : ∀ ids, EOk pt P tb bs B Q n p (fun ρ K s => regE tb P cs pt ps n.n ops d ids s (K .normal) (fun l => K (.pan l))) := by
      intro ids ρ K s ans κ w J k h hr hK
      change regE tb P cs pt ps n.n ops d ids s (K .normal) (fun l => K (.pan l)) = some ans at h
      unfold regE at h
      obtain ⟨η, m, hk, hw⟩ := hr.ex
      cases d with
      | false =>
        have hs : stp P B n (.co p :: k) κ = some (.op p 0 :: k, κ) := by simp only [stp, hc]
        refine stp_sound hs (seqP_ok T C D hops ops.toList 0 rfl h hk hw ?_ ?_)
        · rintro κ' w' ⟨s', η', m', h1, h2, h3, h4, h5, h6⟩
          exact hK.nrm s' κ' w' h1 h2 ⟨η', m', h5, h6⟩
        · rintro ch κ' w' a' ⟨l', s', η', m', rfl, h1, h2, h3, h4⟩ hd
          exact hK.pan l' s' κ' w' h1 h2 ⟨η', m', h3, h4⟩ a' hd
      | true =>
        simp only at h
        cases hnd : ops.all noDefer with
        | false => rw [hnd] at h; cases h
        | true =>
          rw [hnd] at h
          simp only [cond_true] at h
          split at h
          · rename_i s1 L hl
            obtain ⟨_, _, _, _, l4⟩ := lockA_ok ids hl hw hk
            refine drawS (fun _ => True) hw.st (by unfold isDraw; rw [hc]; exact hnd) hm ?_
            intro w1 H1
            obtain ⟨η2, _, w2, k2, _⟩ := lockA_ok (w := w1) ids hl (⟨hw.len, hw.le, H1, hw.gl⟩ : Wd tb bs η m s w1) hk
            refine D_mono (fun _ _ => trivial) (drawE_ok T C hops (stat := statO ops) (fun e => ?_) L (ops.size + 1) [] h k2 w2 ?_)
            · rw [← hops] at e; exact e
            · rintro κ' w' ⟨s', η', m', h1, h2, h3, h4, h5, h6⟩
              obtain ⟨u1, u2⟩ := unlockA_ok ids h6 h5
              exact hK.nrm _ κ' w' h1 (l4 _ h2) ⟨η', m', u2, u1⟩
          · cases h
    intro ρ K s ans κ w J k h hr hK
    simp only [codeE] at h
    split at h
    · exact joinE_ok T (hg []) ρ K s ans κ w J k h hr hK
    · exact hg _ ρ K s ans κ w J k h hr hK
    · exact joinE_ok T (hg _) ρ K s ans κ w J k h hr hK
    · exact hg [] ρ K s ans κ w J k h hr hK
  | .loop a, p, hc => by
    have ha := codeE_ok T C D hm a (p ++ [0]) (by rw [cAt_append, hc]; simp only [cAt])
    intro ρ K s ans κ w J k h hr hK
    simp only [codeE] at h
    split at h
    · exact loopE_ok T (by unfold isLoop; rw [hc]) ha ρ K s ans κ w J k h hr hK
    · cases h
  | .skip, p, hc => by
    intro ρ K s ans κ w J k h hr hK
    have hs : stp P B n (.co p :: k) κ = some (k, κ) := by simp only [stp, hc]
    exact stp_sound hs (hK.nrm s κ w h (Ext.refl _) hr)
  | .scope a, p, hc => by
    intro ρ K s ans κ w J k h hr hK
    have h1 := codeE_ok T C D hm a (p ++ [0]) (by rw [cAt_append, hc]; simp only [cAt]) ρ K s ans κ w J k h hr hK
    intro a' ha
    have h2 := h1 a' ha
    simp only [Hd, Exit.then] at h2 ⊢
    rw [hc]
    rw [cAt_append, hc] at h2
    simp only [cAt] at h2
    exact wpIn_scope (fun l a w => Hd_goto k l a w) h2
  | .label l, p, hc => by
    intro ρ K s ans κ w J k h hr hK
    have hs : stp P B n (.co p :: k) κ = some (k, κ) := by simp only [stp, hc]
    exact stp_sound hs (hK.nrm s κ w h (Ext.refl _) hr)
  | .exit id, p, hc => by
    intro ρ K s ans κ w J k h hr hK
    obtain ⟨k', g1, g2⟩ := hK.ext id s κ w h (Ext.refl _) hr
    have hs : stp P B n (.co p :: k) κ = some (k', κ) := by simp only [stp, hc, g1]
    exact stp_sound hs g2
  | .ret, p, hc => by
    intro ρ K s ans κ w J k h hr hK
    exact hK.ret s κ w h (Ext.refl _) hr J p k hc
  | .rangeFunc .., p, hc => by intro ρ K s ans κ w J k h; cases h
  | .goto _, p, hc => by intro ρ K s ans κ w J k h; cases h
  | .refuse _, p, hc => by intro ρ K s ans κ w J k h; cases h
end
end Go.Proofs.YtbldeodchhfjfaaGreatDoor.K.E
