/- E, part 12P: regions whose last operation may panic. -/
import Derived.Test.YtbldeodchhfjfaaGreatDoorE12
import Derived.Test.YtbldeodchhfjfaaGreatDoorE10P
set_option linter.unusedVariables false
set_option linter.unusedSimpArgs false
set_option linter.unusedSectionVars false
namespace Go.Proofs.YtbldeodchhfjfaaGreatDoor.K.E
open Go Go.RowKit
section
variable (P : Program) (tb : Tab) (cs : List (Con tb.T)) (pt : TypeId) {np : Nat} (ps : List (ConP np tb.T)) {ρ : Type}
/-- The last of them. -/
noncomputable def lastE (nt : Nat) (ops : Array Oper) (o : Oper) (s : S tb.T) (K : S tb.T → Option ρ) (Kp : List Int → S tb.T → Option ρ) : Option ρ := match o.guard with
  | some _ => stepE P tb cs nt ops o s K
  | none => match o.op with
    | .panic x => cond (fitE tb nt o s) (match evA s.κ x with
      | some (.lit (.iface t (.agg c))) => cond (Nat.beq t pt) (match intsV c.toList with
        | some l => Kp l s
        | none => none) none
      | _ => none) none
    | .call c => match c.callee with
      | .value f => match evA s.κ f, evL (evA s.κ) c.args.toList with
        | some (.fn g l cap), some as => cond (ps.any fun q => Nat.beq q.f g) (cond (fitE tb nt o s) (tryP tb g (l ++ as ++ cap) s (fun v s => K (s.put o.dst v)) Kp ps) none) (stepE P tb cs nt ops o s K)
        | _, _ => none
      | _ => stepE P tb cs nt ops o s K
    | _ => stepE P tb cs nt ops o s K
noncomputable def seqP (nt : Nat) (ops : Array Oper) : List Oper → S tb.T → (S tb.T → Option ρ) → (List Int → S tb.T → Option ρ) → Option ρ
  | [], s, K, _ => K s
  | [o], s, K, Kp => lastE P tb cs pt ps nt ops o s K Kp
  | o :: o2 :: r, s, K, Kp => stepE P tb cs nt ops o s (fun s => seqP nt ops (o2 :: r) s K Kp)
end
section
variable {P : Program} {tb : Tab} {cs : List (Con tb.T)} {pt : TypeId} {np : Nat} {ps : List (ConP np tb.T)} {bs : Bs} {η : List Value} {m : Mem} {s : S tb.T} {w : World} {κc : Kn} {B : Code} {n : Cx} {p : List Nat} {i : Nat} {o : Oper} {ρ' : Type} {ans : ρ'} {Q : Exit → Act → World → Prop} {J : Nat → Act → World → Prop} {k : List It} {ops : Array Oper}
theorem Nxt.nil {K : S tb.T → Option ρ'} {κ' : Kn} {w' : World} (h : K s = some ans) (hk : KR tb η m s.κ κ') (hw : Wd tb bs η m s w') : Nxt tb bs η m s K ans κ' w' := ⟨s, η, m, h, Ext.refl _, Le.refl _, Sub.refl _, hk, hw⟩
/-- The end of a region. -/
theorem nxt_end (hops : opsAt B p = ops) {j : Nat} (hn : ops[j]? = none) {X : Kn → World → Prop} (hc : ∀ κ' w', X κ' w' → RR P B Q J n k κ' w') {κ' : Kn} {w' : World} (h : X κ' w') : RR P B Q J n (.op p j :: k) κ' w' := by
  have hs : stp P B n (.op p j :: k) κ' = some (k, κ') := by simp only [stp, hops, hn]
  exact stp_sound hs (hc κ' w' h)
theorem lastE_ok (T : TabOk tb) (C : ∀ cn ∈ cs, ConOk P tb cn) (D : ∀ cn ∈ ps, ConPOk P tb pt cn) (hops : opsAt B p = ops) (hi : ops[i]? = some o) (hn : ops[i + 1]? = none) {K : S tb.T → Option ρ'} {Kp : List Int → S tb.T → Option ρ'} (h : lastE P tb cs pt ps n.n ops o s K Kp = some ans) (hk : KR tb η m s.κ κc) (hw : Wd tb bs η m s w)
    (hc : ∀ κ' w', Nxt tb bs η m s K ans κ' w' → RR P B Q J n k κ' w') (hq : ∀ ch w' a', YP pt tb bs s Kp ans ch κc w' → Ag n κc a' → Q (.panic ch) a' w') : RR P B Q J n (.op p i :: k) κc w := by
  have plain : stepE P tb cs n.n ops o s K = some ans → RR P B Q J n (.op p i :: k) κc w := fun h => by
    rcases stepE_ok (p := p) (i := i) (B := B) (bs := bs) (w := w) T C hops hi h hk hw with ⟨h1, h2, h3⟩ | ⟨h1, h2, h3⟩
    · exact st (Step.imp h3 fun κ' w' hx => nxt_end hops hn hc hx)
    · have hs : stp P B n (.op p i :: k) κc = some (.op p (i + 1) :: k, putk o.dst undef κc) := by
        simp only [stp, hops, hi, h1, h2, cond_true]
      exact stp_sound hs (nxt_end hops hn hc h3)
  unfold lastE at h
  split at h
  · exact plain h
  · rename_i hg
    have hwn : wants κc ops o = some true := by unfold wants; rw [hg]
    split at h
    · rename_i x ho
      cases hf : fitE tb n.n o s with
      | false => rw [hf] at h; cases h
      | true =>
        rw [hf] at h
        simp only [cond_true] at h
        have fo := fitE_ok hk hops hi hwn hf
        split at h
        · rename_i t c hx
          cases hb : Nat.beq t pt with
          | false => rw [hb] at h; cases h
          | true =>
            rw [hb] at h
            simp only [cond_true] at h
            have := beq_t hb
            subst this
            split at h
            · rename_i l hl
              have hc0 : (Value.agg c) = iV l := by
                unfold iV
                rw [← intsV_ok hl]
              have he : evT κc x = .iface t (.agg c) := hk.ev _ _ hx
              have hr : (execOp (evT κc) o).run P w = .halt (.panic (.iface t (.agg c))) w := by
                unfold execOp
                rw [ho]
                simp only [he]
                rfl
              exact stP (panicR fo hr (Y := YP t tb bs s Kp ans) ⟨l, s, η, m, by unfold pnV; rw [hc0], h, Ext.refl _, hk, hw⟩) hq
            · cases h
        · cases h
    · rename_i c ho
      split at h
      · rename_i f hcal
        split at h
        · rename_i g l cap as hf0 has
          cases ha : (ps.any fun q => Nat.beq q.f g) with
          | false => rw [ha] at h; exact plain h
          | true =>
            rw [ha] at h
            simp only [cond_true] at h
            cases hf : fitE tb n.n o s with
            | false => rw [hf] at h; cases h
            | true =>
              rw [hf] at h
              simp only [cond_true] at h
              have fo := fitE_ok hk hops hi hwn hf
              obtain ⟨xs, ys, e1, e2, e3⟩ := hk.ev _ _ hf0
              rw [exec_call ho hcal e1] at fo
              have hs := tryP_step (pt := pt) T hw hk fo ((e2.app (evL_ok hk.ev has)).app e3) ps D h
              refine stP (fun Q K hX hY => hs Q K (fun κ' w' a' hx => hX κ' w' a' ?_) hY) hq
              exact nxt_end hops hn hc hx.nxt
        · cases h
      · exact plain h
    · exact plain h
theorem seqP_ok (T : TabOk tb) (C : ∀ cn ∈ cs, ConOk P tb cn) (D : ∀ cn ∈ ps, ConPOk P tb pt cn) (hops : opsAt B p = ops) : ∀ (l : List Oper) (i : Nat), ops.toList.drop i = l → ∀ {s : S tb.T} {η : List Value} {m : Mem} {κc : Kn} {w : World} {K : S tb.T → Option ρ'} {Kp : List Int → S tb.T → Option ρ'}, seqP P tb cs pt ps n.n ops l s K Kp = some ans → KR tb η m s.κ κc → Wd tb bs η m s w →
    (∀ κ' w', Nxt tb bs η m s K ans κ' w' → RR P B Q J n k κ' w') → (∀ ch κ' w' a', YP pt tb bs s Kp ans ch κ' w' → Ag n κ' a' → Q (.panic ch) a' w') → RR P B Q J n (.op p i :: k) κc w
  | [], i, hl, s, η, m, κc, w, K, Kp, h, hk, hw, hc, hq => by
    have hn : ops[i]? = none := by
      rw [List.drop_eq_nil_iff] at hl
      exact Array.getElem?_eq_none (by simpa using hl)
    exact nxt_end hops hn hc (Nxt.nil h hk hw)
  | [o], i, hl, s, η, m, κc, w, K, Kp, h, hk, hw, hc, hq => by
    have hi : ops[i]? = some o := by
      have h1 : (ops.toList.drop i)[0]? = some o := by rw [hl]; rfl
      rw [List.getElem?_drop] at h1
      simpa using h1
    have hn : ops[i + 1]? = none := by
      have h1 : (ops.toList.drop i)[1]? = none := by rw [hl]; rfl
      rw [List.getElem?_drop] at h1
      simpa using h1
    exact lastE_ok T C D hops hi hn h hk hw hc (fun ch w' a' => hq ch _ w' a')
  | o :: o2 :: l, i, hl, s, η, m, κc, w, K, Kp, h, hk, hw, hc, hq => by
    have hi : ops[i]? = some o := by
      have h1 : (ops.toList.drop i)[0]? = some o := by rw [hl]; rfl
      rw [List.getElem?_drop] at h1
      simpa using h1
    have hl2 : ops.toList.drop (i + 1) = o2 :: l := by
      rw [← List.drop_drop, hl]; rfl
    have go : ∀ κ' w', Nxt tb bs η m s (fun s => seqP P tb cs pt ps n.n ops (o2 :: l) s K Kp) ans κ' w' → RR P B Q J n (.op p (i + 1) :: k) κ' w' := by
      rintro κ' w' ⟨s', η', m', h1, h2, h3, h4, h5, h6⟩
      refine seqP_ok T C D hops (o2 :: l) (i + 1) hl2 h1 h5 h6 ?_ ?_
      · rintro κ2 w2 ⟨s2, η2, m2, k1, k2, k3, k4, k5⟩
        exact hc κ2 w2 ⟨s2, η2, m2, k1, h2.trans k2, h3.trans k3, h4.trans k4, k5⟩
      · rintro ch κ2 w2 a2 ⟨l2, s2, η2, m2, k0, k1, k2, k3⟩ hd
        exact hq ch κ2 w2 a2 ⟨l2, s2, η2, m2, k0, k1, h2.trans k2, k3⟩ hd
    have h : stepE P tb cs n.n ops o s (fun s => seqP P tb cs pt ps n.n ops (o2 :: l) s K Kp) = some ans := h
    rcases stepE_ok T C hops hi h hk hw with ⟨h1, h2, h3⟩ | ⟨h1, h2, h3⟩
    · exact st (Step.imp h3 go)
    · have hs : stp P B n (.op p i :: k) κc = some (.op p (i + 1) :: k, putk o.dst undef κc) := by
        simp only [stp, hops, hi, h1, h2, cond_true]
      exact stp_sound hs (go _ _ h3)
end
end Go.Proofs.YtbldeodchhfjfaaGreatDoor.K.E
