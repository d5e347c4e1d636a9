/- Texts in one: E15D. -/
import Derived.Test.YtkmhidggbnbaaaaGreatDoorBP5
import Derived.RecoverIn
import Derived.Recover
set_option linter.unusedVariables false
set_option linter.unusedSimpArgs false
set_option linter.unusedSectionVars false
namespace Go.Proofs.YtkmhidggbnbaaaaGreatDoor.K
open Go Go.RowKit
section
variable {P : Program} {B : Code} {Q : Exit → Act → World → Prop} {J : Nat → Act → World → Prop} {p : List Nat} {i : Nat} {k : List It} {κ : Kn} {w : World}
theorem deferR {N : Nat} {df : List Deferred} {c : Call} {o : Oper} {d : Deferred} (ho : (opsAt B p)[i]? = some o) (hop : o.op = .defer c) (hg : o.guard = none) (hd : dok o.dst N = true)
    (hr : ∀ a, Ag ⟨N, none, [], df⟩ κ a → (resolve a.eval c o.type).run P w = .ok d w) (hk : R P B Q J ⟨N, none, [], d :: df⟩ (.op p (i + 1) :: k) (putk o.dst undef κ) w) : R P B Q J ⟨N, none, [], df⟩ (.op p i :: k) κ w := by
  intro a ha
  refine R_op_next ho fun K hK => ?_
  have hw : Region.wanted o (yielded (opsAt B p) a.tmps) = true := by simp [Region.wanted, hg]
  rw [if_pos hw]
  refine ⟨fun _ _ => trivial, ?_⟩
  have h0 : (o.semAt (Fr none).round a.eval).run P w = .ok (.defer d) w := by
    simp [Oper.semAt, Fr, execOp, hop, hr a ha]
  rw [h0, Oper.uponIn_defer]
  have h1 : Ag ⟨N, none, [], d :: df⟩ κ { a with defers := d :: a.defers } := ⟨by show d :: a.defers = _; rw [ha.defers]; rfl, ha.size, ha.get⟩
  exact hK _ _ (hk _ (h1.put _ hd _))
theorem leave1 {fn : Func} {tmps : Array Value} {Rp : Ending → World → Prop} {u : FrameMode} {d : Deferred} {fv : Fn} {cap : Array Value} {f : FuncId} {args : Array Value} (hu : u ≠ .run) (ht : d.target = .fn fv cap) (hi : (invoke d.target d.args).run P w = .ok (.enter f args) w)
    (hc : CallsDIn (Fr none) 0 P f args u w fun e u' w' => e = .returned (.tuple #[]) ∧ LeavesInM (Fr none) 0 P fn tmps Rp [] (settle u') w') : LeavesInM (Fr none) 0 P fn tmps Rp [d] u w := by
  refine ⟨hu, .inr ⟨fun h => (by cases h), fv, cap, f, args, ht, hi, fun _ _ => trivial, hc.mono ?_⟩⟩
  rintro e u' w' ⟨rfl, h⟩
  exact h
end
end Go.Proofs.YtkmhidggbnbaaaaGreatDoor.K
namespace Go.Proofs.YtkmhidggbnbaaaaGreatDoor.K
open Go Go.RowKit
section
variable {w0 : World} {F0 : Nat → Prop} {m0 m : Mem} {σ : List Item} {w : World}
theorem St.setc (H : St w0 F0 m0 m σ w) (n' : Nat) {g off : Nat} {cs : List Value} {t : TypeId} (v : Value) (hn : σ[n']? = some (blkI g cs t)) : St w0 F0 m0 m (σ.set n' (blkI g (cs.set off v) t)) (w.setCell ⟨g, off, none⟩ v) := by
  obtain ⟨F, h1, h2, h3⟩ := H.upd n' hn
  have hg := h1.1
  refine h3 _ (blkI g (cs.set off v) t) (fun k => k = g) ?_ ⟨?_, fun _ => Iff.rfl⟩ (fun k e => .inl ((h1.2 k).2 e))
  · refine ⟨rfl, rfl, rfl, ?_, fun k hk hF => ?_, Nat.le_refl _⟩
    · simp [World.setCell]
    · exact heap_setCell_other _ _ _ _ (fun e => hF ((h1.2 k).2 e))
  · rw [heap_setCell_same w g off _ _ v hg]; simp
end
end Go.Proofs.YtkmhidggbnbaaaaGreatDoor.K
namespace Go.Proofs.YtkmhidggbnbaaaaGreatDoor.K.E
open Go Go.RowKit
inductive CV where
  | nil
  | num (x : Int)
def CV.v : CV → Value
  | .nil => .slice none 0 0
  | .num x => .int .i64 x
def CV.a {T : Nat → Type} : CV → AV T
  | .nil => .nils
  | .num x => .i64 x
theorem CV.ok {tb : Tab} {η : List Value} {m : Mem} (c : CV) : R tb η m (c.a : AV tb.T) c.v := by cases c <;> rfl
structure Cat where
  f : FuncId
  k : Nat
  n : Nat
  sets : List Int → List (Nat × CV)
def setV : List (Nat × CV) → List Value → World → World
  | [], _, w => w
  | (j, c) :: r, vals, w => setV r vals (match vals[j]? with
    | some (.pointer (some a)) => w.setCell a c.v
    | _ => w)
def CellsV : List (Nat × CV) → List Value → World → Prop
  | [], _, _ => True
  | (j, _) :: r, vals, w => (∃ a x, vals[j]? = some (.pointer (some a)) ∧ w.cell? a = some x ∧ w.frozen? a = false ∧ a.block < w.heap.size ∧ ∀ jc ∈ r, ∀ b, vals[jc.1]? = some (.pointer (some b)) → b.block ≠ a.block) ∧ CellsV r vals w
structure CatOk (P : Program) (pt : TypeId) (ct : Cat) : Prop where
  call : ∀ args w, (callFunc ct.f args).run P w = .ok (.enter ct.f args) w
  idle : ∀ (vals : List Value) (w : World), vals.length = ct.k → CallsDIn (Fr none) 0 P ct.f vals.toArray .returning w fun e u' w' => e = .returned (.tuple #[]) ∧ u' = .returning ∧ w' = w
  catch_ : ∀ (l : List Int) (vals : List Value) (w : World), vals.length = ct.k → l.length = ct.n → CellsV (ct.sets l) vals w → CallsDIn (Fr none) 0 P ct.f vals.toArray (.panicking (pnV pt l)) w fun e u' w' => e = .returned (.tuple #[]) ∧ settle u' = .returning ∧ ∃ w1, K.Ex w w1 ∧ w' = setV (ct.sets l) vals w1
def apartB {T : Nat → Type} (avs : List (AV T)) (s : S T) (id : Nat) (q : Nat × CV) : Bool := match avs[q.1]? with
  | some (.ptr id' _) => match lk s.σ id' with
    | some (_, .blk _ _) => !(Nat.beq id' id)
    | _ => false
  | _ => false
def setE {T : Nat → Type} (avs : List (AV T)) : List (Nat × CV) → S T → Option (S T)
  | [], s => some s
  | (j, c) :: r, s => match avs[j]? with
    | some (.ptr id off) => match lk s.σ id with
      | some (_, .blk t cs) => cond (Nat.blt off cs.length && r.all (apartB avs s id)) (setE avs r { s with σ := sto s.σ id s.d (.blk t (cs.set off c.a)), d := s.d + 1 }) none
      | _ => none
    | _ => none
section
variable {P : Program} {tb : Tab} {cs : List (Con tb.T)} {an : List (List Nat × Ann)} {bs : Bs} {η : List Value} {m : Mem} {s : S tb.T} {w : World} {κc : Kn}
theorem blk_apart (hw : Wd tb bs η m s w) {id id' st st' t t' : Nat} {c c' : List (AV tb.T)} (h : lk s.σ id = some (st, .blk t c)) (h' : lk s.σ id' = some (st', .blk t' c')) (hn : id' ≠ id) {g g' : Nat} (hg : η[id]? = some (.pointer (some ⟨g, 0, none⟩))) (hg' : η[id']? = some (.pointer (some ⟨g', 0, none⟩))) : g' ≠ g := by
  obtain ⟨F, h1, _⟩ := hw.st.sep
  obtain ⟨F1, F2, ⟨g1, cs1, e1, _, e2⟩, h3, h4, _⟩ := Sep_lk h h1
  have h5 : lk (del s.σ id) id' = some (st', .blk t' c') := lk_del_ne hn h'
  obtain ⟨G1, G2, ⟨g2, cs2, e3, _, e4⟩, _, _, h6⟩ := Sep_lk h5 h3
  rw [hg] at e1
  rw [hg'] at e3
  cases e1
  cases e3
  rintro rfl
  exact h4 g' ((e2.2 g').2 rfl) (h6 g' (.inl ((e4.2 g').2 rfl)))
theorem CellsV.of_set {a : Addr} {v : Value} {vals : List Value} : ∀ {l : List (Nat × CV)}, (∀ jc ∈ l, ∀ b, vals[jc.1]? = some (.pointer (some b)) → b.block ≠ a.block) → CellsV l vals (w.setCell a v) → CellsV l vals w
  | [], _, _ => trivial
  | (j, c) :: r, hn, ⟨⟨b, x, h1, h2, h3, h4, h5⟩, h6⟩ => by
    have hne : b ≠ a := fun e => hn (j, c) (List.mem_cons_self ..) b h1 (by rw [e])
    refine ⟨⟨b, x, h1, ?_, ?_, ?_, h5⟩, CellsV.of_set (fun jc hm => hn jc (List.mem_cons_of_mem _ hm)) h6⟩
    · rw [World.cell?_setCell_other (h := by first | exact hne | exact fun e => hne e.symm)] at h2; exact h2
    · rw [World.frozen?_setCell] at h3; exact h3
    · simpa [World.setCell] using h4
theorem setE_ok {avs : List (AV tb.T)} {vals : List Value} (hp : ∀ (j id off : Nat), avs[j]? = some (.ptr id off) → ∃ g, η[id]? = some (.pointer (some ⟨g, 0, none⟩)) ∧ vals[j]? = some (.pointer (some ⟨g, off, none⟩))) : ∀ {l : List (Nat × CV)} {s s' : S tb.T} {w : World}, setE avs l s = some s' → Wd tb bs η m s w → KR tb η m s.κ κc →
    CellsV l vals w ∧ Ext s s' ∧ KR tb η m s'.κ κc ∧ Wd tb bs η m s' (setV l vals w)
  | [], s, s', w, h, hw, hk => by
    simp only [setE, Option.some.injEq] at h
    subst h
    exact ⟨trivial, Ext.refl _, hk, hw⟩
  | (j, c) :: r, s, s', w, h, hw, hk => by
    unfold setE at h
    split at h
    · rename_i id off hj
      split at h
      · rename_i st t cl hl
        cases hb : (Nat.blt off cl.length && r.all (apartB avs s id)) with
        | false => rw [hb] at h; cases h
        | true =>
          rw [hb] at h
          rw [Bool.and_eq_true] at hb
          simp only [cond_true] at h
          have hlt : off < cl.length := by simpa [Nat.blt_eq] using hb.1
          obtain ⟨g, hg, hv⟩ := hp _ _ _ hj
          obtain ⟨g', vs, hg', hr, H⟩ := hw.blk hl
          rw [hg] at hg'
          cases hg'
          have hap : ∀ jc ∈ r, ∀ b, vals[jc.1]? = some (.pointer (some b)) → b.block ≠ g := by
            intro jc hm b hb2
            have h2 := List.all_eq_true.1 hb.2 jc hm
            unfold apartB at h2
            split at h2
            · rename_i id' off' hj'
              obtain ⟨g2, hg2, hv2⟩ := hp _ _ _ hj'
              rw [hv2] at hb2
              cases hb2
              split at h2
              · rename_i st' t' cs' hl'
                have hne : id' ≠ id := fun e => by subst e; rw [Nat.beq_refl] at h2; cases h2
                exact blk_apart hw hl hl' hne hg hg2
              · cases h2
            · cases h2
          have H1 := H.setc 0 (g := g) (off := off) (cs := vs) (t := t) c.v rfl
          obtain ⟨k1, k2⟩ := hw.sto hl (x := .blk t (cl.set off c.a)) (St_conv H1 (fun F hF => ⟨g, _, hg, hr.set (CV.ok c), hF⟩) (fun _ e => e))
          obtain ⟨i1, i2, i3, i4⟩ := setE_ok hp h k2 hk
          have hcell : w.heap[g]? = some (.cells vs.toArray t (0, 0)) := (H.blk 0 rfl)
          have hlen : off < vs.length := by rw [hr.len]; exact hlt
          refine ⟨⟨⟨⟨g, off, none⟩, vs[off], hv, H.cellB 0 rfl (List.getElem?_eq_getElem hlen), ?_, blk_lt hcell, hap⟩, CellsV.of_set hap i1⟩, k1.trans i2, i3, ?_⟩
          · simp [World.frozen?, hcell]
          · simp only [setV, hv]
            exact i4
      · cases h
    · cases h
end
section
variable (P : Program) (tb : Tab) (cs : List (Con tb.T)) (an : List (List Nat × Ann)) {ρ : Type}
noncomputable def defS (f : FuncId) (nt : Nat) (ops : Array Oper) : List Oper → S tb.T → (List (AV tb.T) → S tb.T → Option ρ) → Option ρ
  | [], _, _ => none
  | [o], s, K => match o.guard, o.op with
    | none, .defer c => match c.callee with
      | .value f' => match evA s.κ f', evL (evA s.κ) c.args.toList with
        | some (.fn g l cap), some as => cond (Nat.beq g f && dok o.dst nt) (K (l ++ as ++ cap) (s.put o.dst undA)) none
        | _, _ => none
      | _ => none
    | _, _ => none
  | o :: o2 :: r, s, K => stepE P tb cs nt ops o s (fun s => defS f nt ops (o2 :: r) s K)
noncomputable def fnD (pt : TypeId) {np : Nat} (ps : List (ConP np tb.T)) (ct : Cat) (fn : Func) (ar os : Sh) (bk : List (Nat × TypeId)) (rk : List Nat) (x : ar.ty tb.T) : Option (os.ty tb.T) := match up tb 0 ar x 0 with
  | (as, σ, c) => match bkIds as bk, rkIds as rk with
    | some bs, some rx => match bodyOf fn with
      | .seq A (.seq (.region _ ops false) C) => codeE tb P cs an 0 (np := 0) [] fn.ntmps A [0] (os.ty tb.T) (fun e s => match e with
        | .normal => defS P tb cs ct.f fn.ntmps ops ops.toList s fun avs s => cond (Nat.beq avs.length ct.k) (codeE tb P cs an pt ps fn.ntmps C [1, 1] (os.ty tb.T) (fun e s => match e with
          | .exit _ => none
          | .pan l => cond (Nat.beq l.length ct.n) (match setE avs (ct.sets l) s with
            | some s => retV tb P fn.results.toList bs rx os s
            | none => none) none
          | _ => retV tb P fn.results.toList bs rx os s) s) none
        | _ => none) { κ := argS as 0, σ := σ, c := c, d := 1 }
      | _ => none
    | _, _ => none
end
theorem evL_known {tb : Tab} {η : List Value} {m : Mem} {s : S tb.T} {κc : Kn} (hk : KR tb η m s.κ κc) : ∀ {l : List Operand} {as : List (AV tb.T)}, evL (evA s.κ) l = some as → ∀ z ∈ l, (K.ev κc z).isSome = true
  | [], as, h, z, hz => by cases hz
  | x :: r, as, h, z, hz => by
    simp only [evL] at h
    cases h1 : evA s.κ x with
    | none => rw [h1] at h; cases h
    | some a =>
      rw [h1] at h
      simp only at h
      cases h2 : evL (evA s.κ) r with
      | none => rw [h2] at h; cases h
      | some l' =>
        rcases List.mem_cons.1 hz with rfl | hz
        · exact hk.known h1
        · exact evL_known hk h2 z hz
section
variable {P : Program} {tb : Tab} {cs : List (Con tb.T)} {an : List (List Nat × Ann)} {bs : Bs} {B : Code} {Q : Exit → Act → World → Prop} [NPc Q] [NGo Q] {J : Nat → Act → World → Prop} {p : List Nat} {k : List It} {ops : Array Oper} {ρ' : Type} {ans : ρ'}
theorem defS_ok (T : TabOk tb) (C : ∀ cn ∈ cs, ConOk P tb cn) (hops : opsAt B p = ops) {f : FuncId} {N : Nat} {K : List (AV tb.T) → S tb.T → Option ρ'} {s0 : S tb.T} {η0 : List Value} (hc : ∀ (avs : List (AV tb.T)) (vals : List Value) (s' : S tb.T) (η' : List Value) (m' : Mem) (κ' : Kn) (w' : World) (l cap : Array Value), K avs s' = some ans → Ext s0 s' → Le η0 η' → RL tb η' m' avs vals → l ++ cap = vals.toArray →
      KR tb η' m' s'.κ κ' → Wd tb bs η' m' s' w' → RR P B Q J ⟨N, none, [], [⟨.fn (.func f) cap, l⟩]⟩ k κ' w') : ∀ (l : List Oper) (i : Nat), ops.toList.drop i = l → ∀ {s : S tb.T} {η : List Value} {m : Mem} {κc : Kn} {w : World}, Ext s0 s → Le η0 η → defS P tb cs f N ops l s K = some ans → KR tb η m s.κ κc → Wd tb bs η m s w →
    RR P B Q J ⟨N, none, [], []⟩ (.op p i :: k) κc w
  | [], i, hl, s, η, m, κc, w, x0, le0, h, hk, hw => by cases h
  | [o], i, hl, s, η, m, κc, w, x0, le0, h, hk, hw => by
    have hi : ops[i]? = some o := by
      have h1 : (ops.toList.drop i)[0]? = some o := by rw [hl]; rfl
      rw [List.getElem?_drop] at h1
      simpa using h1
    have hn : ops[i + 1]? = none := by
      have h1 : (ops.toList.drop i)[1]? = none := by rw [hl]; rfl
      rw [List.getElem?_drop] at h1
      simpa using h1
    unfold defS at h
    split at h
    · rename_i c hg ho
      split at h
      · rename_i f' hcal
        split at h
        · rename_i g l cap as hf has
          cases hb : (Nat.beq g f && dok o.dst N) with
          | false => rw [hb] at h; cases h
          | true =>
            rw [hb] at h
            rw [Bool.and_eq_true] at hb
            have := beq_t hb.1
            subst this
            simp only [cond_true] at h
            obtain ⟨xs, ys, e1, e2, e3⟩ := hk.ev _ _ hf
            have e4 := evL_ok hk.ev has
            refine deferR (d := ⟨.fn (.func g) ys.toArray, (xs ++ c.args.toList.map (evT κc)).toArray⟩) (by rw [hops]; exact hi) ho hg hb.2 (fun a ha => ?_) (nxt_end (n := ⟨N, none, [], _⟩) hops hn (X := fun κ' w' => KR tb η m (s.put o.dst undA).κ κ' ∧ Wd tb bs η m (s.put o.dst undA) w') ?_ ⟨?_, hw.put _ _⟩)
            · have q1 : a.eval f' = .func (.func g) xs.toArray ys.toArray := by rw [ha.evT (hk.known hf)]; exact e1
              have q2 : c.args.map a.eval = (c.args.toList.map (evT κc)).toArray := by
                have : ∀ z ∈ c.args.toList, a.eval z = evT κc z := fun z hz => ha.evT (evL_known hk has z hz)
                have h3 : c.args.toList.map a.eval = c.args.toList.map (evT κc) := List.map_congr_left this
                rw [← h3]
                apply Array.ext'
                simp
              simp [resolve, hcal, q1, q2, Deferred.ofValue]
            · rintro κ' w' ⟨h1, h2⟩
              exact hc _ (xs ++ c.args.toList.map (evT κc) ++ ys) _ η m κ' w' _ _ h (x0.trans (Ext.put _ _ _)) le0 ((e2.app e4).app e3) (by simp) h1 h2
            · exact KR.put hk _ rfl
        · cases h
      · cases h
    · cases h
  | o :: o2 :: l, i, hl, s, η, m, κc, w, x0, le0, h, hk, hw => by
    have hi : ops[i]? = some o := by
      have h1 : (ops.toList.drop i)[0]? = some o := by rw [hl]; rfl
      rw [List.getElem?_drop] at h1
      simpa using h1
    have hl2 : ops.toList.drop (i + 1) = o2 :: l := by
      rw [← List.drop_drop, hl]; rfl
    have go : ∀ κ' w', Nxt tb bs η m s (fun s => defS P tb cs f N ops (o2 :: l) s K) ans κ' w' → RR P B Q J ⟨N, none, [], []⟩ (.op p (i + 1) :: k) κ' w' := by
      rintro κ' w' ⟨s', η', m', h1, h2, h3, h4, h5, h6⟩
      exact defS_ok T C hops hc (o2 :: l) (i + 1) hl2 (x0.trans h2) (le0.trans h3) h1 h5 h6
    have h : stepE P tb cs N ops o s (fun s => defS P tb cs f N ops (o2 :: l) s K) = some ans := h
    rcases stepE_ok (n := ⟨N, none, [], []⟩) T C hops hi h hk hw with ⟨h1, h2, h3⟩ | ⟨h1, h2, h3⟩
    · exact st (Step.imp h3 go)
    · have hs : stp P B ⟨N, none, [], []⟩ (.op p i :: k) κc = some (.op p (i + 1) :: k, putk o.dst undef κc) := by
        simp only [stp, hops, hi, h1, h2, cond_true]
      exact stp_sound hs (go _ _ h3)
end
section
variable {P : Program} {tb : Tab} {cs : List (Con tb.T)} {an : List (List Nat × Ann)}
theorem fnD_ok (T : TabOk tb) (C : ∀ cn ∈ cs, ConOk P tb cn) (hm : P.follows .mixedOrders = true) {pt : TypeId} {np : Nat} {ps : List (ConP np tb.T)} (D : ∀ cn ∈ ps, ConPOk P tb pt cn) {ct : Cat} (hct : CatOk P pt ct) {cn : Con tb.T} {fn : Func} (hf : P.funcs[cn.f]? = some fn) (hb : fn.body.isSome = true) (hcall : ∀ args w, (callFunc cn.f args).run P w = .ok (.enter cn.f args) w)
    (hn : ∀ x, Nat.ble (up tb 0 cn.ar x 0).1.length fn.ntmps = true) (hnr : fn.results.toList.length = cn.nr) (hE : ∀ x, fnD P tb cs an pt ps ct fn cn.ar cn.os cn.bk cn.rk x = cn.F x) : ConOk P tb cn := by
  intro st x y hy η m w F vals hr hlen has gl hs hd
  obtain ⟨j, j1, j2, j3⟩ := upsh T st 0 cn.ar x 0 0
  obtain ⟨k1, k2⟩ := j3 η η (fun _ _ e => e)
  have hr0 := k1 m vals hr
  have hs0 := k2 m w F hs
  have hl0 : η.length = (up tb 0 cn.ar x 0).2.2 := by omega
  have hN := hn x
  refine .inl ⟨hcall _ _, ?_⟩
  have hEx := hE x
  rw [hy] at hEx
  unfold fnD at hEx
  generalize up tb 0 cn.ar x 0 = u at hEx hr0 hs0 hl0 hN
  obtain ⟨as, σ, c⟩ := u
  simp only at hEx hr0 hs0 hl0 hN
  split at hEx
  · rename_i l rx hbk hrx
    split at hEx
    · rename_i A ids ops Cc hbody
      refine callsR hf hb (by simpa [hr0.len] using hN) ?_
      have post : ∀ {η1 : List Value} (hle : Le η η1) {s' : S tb.T} {κ' : Kn} {w' : World}, retV tb P fn.results.toList l rx cn.os s' = some y → Rl tb ⟨w, F, m, η1⟩ s' κ' w' → ∃ vs, ResOk P κ' w' fn.results.toList vs ∧ ∃ v, Ending.returned (packV vs) = .returned v ∧ ∃ (η2 : List Value) (m' : Mem) (rv bv : List Value), v = packV rv ∧ rv.length = cn.nr ∧ RL tb (η ++ η2) m' (up tb st cn.os y η.length).1 (rv ++ bv) ∧ (η ++ η2).length = (up tb st cn.os y η.length).2.2 ∧
          St w F m m' (bkV vals cn.bk bv ++ its tb (η ++ η2) (up tb st cn.os y η.length).2.1) w' ∧ bv.drop cn.bk.length = cn.rk.map (fun j => vals[j]?.getD undef) := by
        intro η1 hle s' κ' w' h hrl
        unfold retV at h
        obtain ⟨η', m', hk, hw⟩ := hrl.ex
        split at h
        · rename_i as0 cl0 σ00 hs0 ht0
          split at h
          · rename_i as1 s1 hpr
            obtain ⟨vs0, r0, _⟩ := resE_ok hw hk hs0
            obtain ⟨F00, f00, _⟩ := hw.st.sep
            obtain ⟨bv0, _, _, r1, _⟩ := takeB_ok (w := w') l ht0 f00
            have r2 : RL tb η' m' rx _ := rkIds_ok (hle.trans hw.le) hr0 hrx
            obtain ⟨x1, m1, x2, k1, w1, _⟩ := prepF_ok T cn.os 20 hpr hw hk (r0.app (r1.app r2))
            split at h
            · rename_i as2 cl σ1 hs1 ht1
              split at h
              · rename_i y2 σ2 hpk
                cases h
                obtain ⟨vs, q1, q2, q3⟩ := resE_ok w1 k1 hs1
                obtain ⟨Fw, f1, f2, f3⟩ := w1.st.sep
                obtain ⟨bv, G1, G2, g1, g2, g3, g4, g5, g6⟩ := takeB_ok (w := w') l ht1 f1
                have r3 : RL tb η' m1 rx _ := rkIds_ok (hle.trans w1.le) hr0 hrx
                obtain ⟨η2, e1, e2, F1, F2, e3, e4, e5, e6⟩ := pk_ok T st cn.os hpk (q1.app (g1.app r3)) g3 η
                have hlb : bv.length = cn.bk.length := by rw [g1.len, takeB_len ht1, bkIds_len hbk]
                refine ⟨vs, q2, _, rfl, η2, m1, vs, bv ++ cn.rk.map (fun j => vals[j]?.getD undef), rfl, by rw [q3]; exact hnr, e2, e1.symm, ⟨w1.st.kp, w1.st.sub, w1.st.has, w1.st.new, fun k => G1 k ∨ F1 k, ?_, ?_, ?_⟩, List.drop_left' hlb⟩
                · rw [bkV_app _ _ _ _ hlb]
                  exact Sep.app.2 ⟨G1, F1, bk_back (hle.trans w1.le) hr0 hbk g2, e3, fun k a b => g4 k a (e6 k (.inl b)), fun k => Iff.rfl⟩
                · exact fun k e => f2 k (g5 k (e.elim .inl (fun e => .inr (e6 k (.inl e)))))
                · exact fun k e => f3 k (g5 k (e.elim .inl (fun e => .inr (e6 k (.inl e)))))
              · cases h
            · cases h
          · cases h
        · cases h
      have s1 : stp P (bodyOf fn) ⟨fn.ntmps, none, [], []⟩ [.co []] (argK vals.toArray.toList 0) = some ([.co [0], .co [1]], argK vals.toArray.toList 0) := by simp only [stp, hbody, cAt, List.nil_append]
      refine stp_sound s1 ?_
      let bs : Bs := ⟨w, F, m, η⟩
      refine codeE_ok (bs := bs) (n := ⟨fn.ntmps, none, [], []⟩) T C (pt := 0) (np := 0) (ps := []) (fun _ h => by cases h) hm A [0] (by rw [hbody]; simp only [cAt]) _ _ _ y _ w (fun _ _ _ => False) _ hEx ?_ ⟨?_, ?_, ?_, ?_⟩
      · exact ⟨η, m, by simpa using argS_ok 0 hr0, hl0, Le.refl _, St.start has hs0 hd, gl⟩
      · intro s' κ' w' e hx hrl
        simp only at e
        have s2 : stp P (bodyOf fn) ⟨fn.ntmps, none, [], []⟩ [.co [1]] κ' = some ([.co [1, 0], .co [1, 1]], κ') := by simp only [stp, hbody, cAt]; rfl
        have s3 : stp P (bodyOf fn) ⟨fn.ntmps, none, [], []⟩ [.co [1, 0], .co [1, 1]] κ' = some ([.op [1, 0] 0, .co [1, 1]], κ') := by simp only [stp, hbody, cAt]
        refine stp_sound s2 (stp_sound s3 ?_)
        obtain ⟨η', m', hk, hw⟩ := hrl.ex
        refine defS_ok (bs := bs) T C (ops := ops) (by simp [opsAt, hbody, cAt]) (f := ct.f) (N := fn.ntmps) (s0 := s') (η0 := η') ?_ ops.toList 0 rfl (Ext.refl _) (Le.refl _) e hk hw
        intro avs dv s2 η2 m2 κ2 w2 dl dcap e2 x2 le2 hra hdv hk2 hw2
        cases hkl : Nat.beq avs.length ct.k with
        | false => rw [hkl] at e2; cases e2
        | true =>
          rw [hkl] at e2
          simp only [cond_true] at e2
          have hkl2 : dv.length = ct.k := by rw [hra.len]; exact beq_t hkl
          have hcat : ∀ w0, (invoke (.fn (.func ct.f) dcap) dl).run P w0 = .ok (.enter ct.f dv.toArray) w0 := fun w0 => by
            show (callFunc ct.f (dl ++ dcap)).run P w0 = _
            rw [hdv]; exact hct.call _ _
          have leη : Le η η2 := hw2.le
          have post2 : ∀ {s' : S tb.T} {κ' : Kn} {w' : World}, retV tb P fn.results.toList l rx cn.os s' = some y → Rl tb ⟨w, F, m, η2⟩ s' κ' w' → _ := fun h h' => post leη h h'
          have fin : ∀ {s' : S tb.T} {κ' : Kn} {w' : World} {a' : Act}, retV tb P fn.results.toList l rx cn.os s' = some y → Rl tb ⟨w, F, m, η2⟩ s' κ' w' → Ag ⟨fn.ntmps, none, [], [⟨.fn (.func ct.f) dcap, dl⟩]⟩ κ' a' → LeavesInM (Fr none) 0 P fn a'.tmps (fun e w' => ∃ v, e = .returned v ∧ ∃ (η2 : List Value) (m' : Mem) (rv bv : List Value), v = packV rv ∧ rv.length = cn.nr ∧ RL tb (η ++ η2) m' (up tb st cn.os y η.length).1 (rv ++ bv) ∧ (η ++ η2).length = (up tb st cn.os y η.length).2.2 ∧
          St w F m m' (bkV vals cn.bk bv ++ its tb (η ++ η2) (up tb st cn.os y η.length).2.1) w' ∧ bv.drop cn.bk.length = cn.rk.map (fun j => vals[j]?.getD undef)) [] .returning w' := by
            intro s' κ' w' a' h h' ha
            obtain ⟨vs, h1, h2⟩ := post2 h h'
            exact leavesM (ds := []) ⟨_, resultsC_run ha h1, h2⟩
          have fin2 : ∀ {s' : S tb.T} {κ' : Kn} {w' : World} {a' : Act}, retV tb P fn.results.toList l rx cn.os s' = some y → Rl tb ⟨w, F, m, η2⟩ s' κ' w' → Ag ⟨fn.ntmps, none, [], [⟨.fn (.func ct.f) dcap, dl⟩]⟩ κ' a' → LeavesInM (Fr none) 0 P fn a'.tmps (fun e w' => ∃ v, e = .returned v ∧ ∃ (η2 : List Value) (m' : Mem) (rv bv : List Value), v = packV rv ∧ rv.length = cn.nr ∧ RL tb (η ++ η2) m' (up tb st cn.os y η.length).1 (rv ++ bv) ∧ (η ++ η2).length = (up tb st cn.os y η.length).2.2 ∧
          St w F m m' (bkV vals cn.bk bv ++ its tb (η ++ η2) (up tb st cn.os y η.length).2.1) w' ∧ bv.drop cn.bk.length = cn.rk.map (fun j => vals[j]?.getD undef)) a'.defers .returning w' := by
            intro s' κ' w' a' h h' ha
            rw [ha.defers]
            refine leave1 (d := ⟨.fn (.func ct.f) dcap, dl⟩) (by simp) rfl (hcat w') ((hct.idle dv w' hkl2).mono ?_)
            rintro e u' w3 ⟨rfl, rfl, rfl⟩
            exact ⟨rfl, fin h h' ha⟩
          refine codeE_ok (bs := ⟨w, F, m, η2⟩) (n := ⟨fn.ntmps, none, [], [⟨.fn (.func ct.f) dcap, dl⟩]⟩) T C D hm Cc [1, 1] (by rw [hbody]; simp only [cAt]) _ _ _ y _ w2 _ [] e2 ?_ ⟨?_, ?_, ?_, ?_⟩
          · exact ⟨η2, m2, hk2, hw2.len, Le.refl _, hw2.st, hw2.gl⟩
          · intro s3 κ3 w3 e3 x3 hr3 a3 ha3
            exact fin2 e3 hr3 ha3
          · intro id s3 κ3 w3 e3 x3 hr3
            cases e3
          · intro s3 κ3 w3 e3 x3 hr3 J p' k' hc a3 ha3
            show Hd P (bodyOf fn) none _ J (.co p' :: k') .normal a3 w3
            simp only [Hd, Exit.then]
            rw [hc]
            refine wpIn_ret (Hd_ret a3 w3 ?_ k')
            exact fin2 e3 hr3 ha3
          · intro l' s3 κ3 w3 e3 x3 hr3 a3 ha3
            show LeavesInM (Fr none) 0 P fn a3.tmps _ a3.defers (.panicking (pnV pt l')) w3
            rw [ha3.defers]
            simp only at e3
            cases hln : Nat.beq l'.length ct.n with
            | false => rw [hln] at e3; cases e3
            | true =>
            rw [hln] at e3
            simp only [cond_true] at e3
            split at e3
            · rename_i s4 hs4
              obtain ⟨η3, m3, hk3, hw3⟩ := hr3.ex
              have hp : ∀ (j id off : Nat), avs[j]? = some (.ptr id off) → ∃ g, η3[id]? = some (.pointer (some ⟨g, 0, none⟩)) ∧ dv[j]? = some (.pointer (some ⟨g, off, none⟩)) := by
                intro j id off hj
                obtain ⟨u, hu, g, q1, q2⟩ := hra.get hj
                exact ⟨g, hw3.le _ _ q1, by rw [hu, q2]⟩
              obtain ⟨c1, _, _, _⟩ := setE_ok (bs := ⟨w, F, m, η2⟩) hp hs4 hw3 hk3
              refine leave1 (d := ⟨.fn (.func ct.f) dcap, dl⟩) (by simp) rfl (hcat w3) ((hct.catch_ l' dv w3 hkl2 (beq_t hln) c1).mono ?_)
              rintro e u' w4 ⟨rfl, hset, w5, hex, rfl⟩
              refine ⟨rfl, ?_⟩
              rw [hset]
              have hw5 : Wd tb ⟨w, F, m, η2⟩ η3 m3 s3 w5 := ⟨hw3.len, hw3.le, hw3.st.ex hex, hw3.gl⟩
              obtain ⟨_, _, c3, c4⟩ := setE_ok hp hs4 hw5 hk3
              exact fin e3 ⟨η3, m3, c3, c4⟩ ha3
            · cases e3
      · intro id s' κ' w' e hx hrl
        cases e
      · intro s' κ' w' e hx hrl
        cases e
      · intro l' s' κ' w' e
        cases e
    · cases hEx
  · cases hEx
end
end Go.Proofs.YtkmhidggbnbaaaaGreatDoor.K.E
