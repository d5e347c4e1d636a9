/- Texts in one: E13 E10P E12P E14 E15 E15D. -/
import Derived.Test.YtkleajhiihbefaaGreatDoorBK4
import Derived.RecoverIn
import Derived.Recover
set_option linter.unusedVariables false
set_option linter.unusedSimpArgs false
set_option linter.unusedSectionVars false
namespace Go.Proofs.YtkleajhiihbefaaGreatDoor.K.E
open Go Go.RowKit
noncomputable def forkL {ρ : Type} : List (Option ρ) → Option ρ
 | [] => none
 | [x] => x
 | x :: y :: r => fork x (forkL (y :: r))
theorem forkL_mem {ρ : Type} {a : ρ} : ∀ {l : List (Option ρ)}, forkL l = some a → ∀ x ∈ l, x = some a
 | [], h, _, _ => by cases h
 | [x], h, y, hy => by rw [List.mem_singleton] at hy; subst hy; exact h
 | x :: y :: r, h, z, hz => by
  simp only [forkL] at h
  obtain ⟨h1, h2⟩ := fork_some h
  rcases List.mem_cons.1 hz with rfl | hz
  ·exact h1
  ·exact forkL_mem h2 z hz
def statO (ops : Array Oper) : Bool := Region.noSelect ops && ((List.range ops.size).all fun i => (List.range ops.size).all fun j => Nat.beq j i || match ops[i]?, ops[j]? with
 | some oi, some oj => edgeTo oj i || edgeTo oi j || oi.apart ops oj
 | _, _ => true)
abbrev Lk := List (Nat × TypeId × Nat)
def lock1 {T : Nat → Type} (id : Nat) (s : S T) : Option (S T × (Nat × TypeId × Nat)) := match lk s.σ id with
 | some (st, .blk t c) => some ({ s with σ := (id, st, .kep t c s.c) :: del s.σ id, c := s.c + 1 }, (id, t, s.c))
 | _ => none
def lockA {T : Nat → Type} : List Nat → S T → Option (S T × Lk)
 | [], s => some (s, [])
 | id :: r, s => match lock1 id s with
  | some (s, x) => match lockA r s with
   | some (s, l) => some (s, x :: l)
   | none => none
  | none => none
def unlock1 {T : Nat → Type} (id : Nat) (s : S T) : S T := match lk s.σ id with
 | some (st, .kep t c _) => { s with σ := (id, st, .blk t c) :: del s.σ id }
 | _ => s
def unlockA {T : Nat → Type} : List Nat → S T → S T
 | [], s => s
 | id :: r, s => unlock1 id (unlockA r s)
def lockedB {T : Nat → Type} (L : Lk) (s : S T) : Bool := L.all fun x => match lk s.σ x.1 with
 | some (_, .kep t _ j) => Nat.beq t x.2.1 && Nat.beq j x.2.2
 | _ => false
def SK (η : List Value) (m : Mem) (L : Lk) (w : World) : Prop := Has m w ∧ ∀ x ∈ L, ∀ (g : Nat) (cs : List Value), η[x.1]? = some (.pointer (some ⟨g, 0, none⟩)) → η[x.2.2]? = some (.agg cs.toArray) → w.heap[g]? = some (.cells cs.toArray x.2.1 (0, 0))
section
variable {tb : Tab} {bs : Bs} {η η' : List Value} {m m' : Mem} {s s' : S tb.T} {w : World} {κc : Kn}
theorem SK.mono {L : Lk} (hη : Le η η') (hm : Sub m m') (h : SK η' m' L w) : SK η m L w := ⟨h.1.sub hm, fun x hx g cs h1 h2 => h.2 x hx g cs (hη _ _ h1) (hη _ _ h2)⟩
theorem locked_ok {L : Lk} (h : lockedB L s = true) (hw : Wd tb bs η m s w) : SK η m L w := by
 refine ⟨hw.st.has, fun x hx g cs h1 h2 => ?_⟩
 have h3 := List.all_eq_true.1 h x hx
 split at h3
 ·rename_i st t c j hl
  rw [Bool.and_eq_true] at h3
  obtain ⟨g', cs', ⟨e1, e2⟩, _, H⟩ := hw.kep hl
  rw [h1] at e1
  cases e1
  rw [beq_t h3.2, h2] at e2
  have e3 : cs = cs' := by
   have := Option.some.inj e2
   simpa using this
  subst e3
  rw [← beq_t h3.1]
  exact H.blk 0 rfl
 ·cases h3
theorem lock1_ok {id : Nat} {x : Nat × TypeId × Nat} (h : lock1 id s = some (s', x)) (hw : Wd tb bs η m s w) (hk : KR tb η m s.κ κc) : ∃ η', Le η η' ∧ Wd tb bs η' m s' w ∧ KR tb η' m s'.κ κc ∧ ∀ s'', Ext s' s'' → Ext s (unlock1 id s'') := by
 unfold lock1 at h
 split at h
 ·rename_i st t c hl
  simp only [Option.some.injEq, Prod.mk.injEq] at h
  obtain ⟨rfl, rfl⟩ := h
  obtain ⟨g, cs, h1, h2, H⟩ := hw.blk hl
  refine ⟨η ++ [.agg cs.toArray], Le.app _ _, ⟨by rw [List.length_append, hw.len]; rfl, hw.le.trans (Le.app _ _), ?_, hw.gl⟩, hk.mono (Le.app _ _) (Sub.refl _), ?_⟩
  ·exact St_conv H (fun F hF => ⟨g, cs, ⟨Le.app _ _ _ _ h1, at_new hw _⟩, RL.mono (Le.app _ _) (Sub.refl _) c h2, hF⟩) (fun F hF => its_le (Le.app _ _) _ hF)
  ·intro s'' hx
   have hσ : ∀ t' st' v', lk s''.σ t' = some (st', v') → st' < s.d → (t' = id ∧ st' = st ∧ v' = .kep t c s.c) ∨ (t' ≠ id ∧ lk s.σ t' = some (st', v')) := by
    intro t' st' v' e l
    have := hx.σ t' st' v' e l
    simp only [lk] at this
    cases hb : Nat.beq id t' with
    | true => rw [hb] at this; have hb := beq_t hb; subst hb; cases this; exact .inl ⟨rfl, rfl, rfl⟩
    | false => rw [hb] at this; exact .inr ⟨(beq_ne hb).symm, (lk_del this).2⟩
   have hc : s.c ≤ s''.c := Nat.le_trans (Nat.le_succ _) hx.c
   unfold unlock1
   split
   ·rename_i st2 t2 c2 j2 hl2
    refine ⟨hc, hx.d, hx.κ, fun t' st' v' e l => ?_⟩
    simp only [lk] at e
    cases hb : Nat.beq id t' with
    | true =>
     rw [hb] at e
     have hb := beq_t hb
     subst hb
     cases e
     rcases hσ _ _ _ hl2 l with ⟨_, rfl, e2⟩ | ⟨e2, _⟩
     ·cases e2; exact hl
     ·exact absurd rfl e2
    | false =>
     rw [hb] at e
     rcases hσ _ _ _ (lk_del e).2 l with ⟨e2, _⟩ | ⟨_, e2⟩
     ·exact absurd e2.symm (beq_ne hb)
     ·exact e2
   ·rename_i hne
    refine ⟨hc, hx.d, hx.κ, fun t' st' v' e l => ?_⟩
    rcases hσ _ _ _ e l with ⟨rfl, rfl, rfl⟩ | ⟨_, e2⟩
    ·exact absurd e (hne _ _ _ _)
    ·exact e2
 ·cases h
theorem unlock1_ok (id : Nat) (hw : Wd tb bs η m s w) (hk : KR tb η m s.κ κc) : Wd tb bs η m (unlock1 id s) w ∧ KR tb η m (unlock1 id s).κ κc := by
 unfold unlock1
 split
 ·rename_i st t c j hl
  obtain ⟨g, cs, ⟨h1, _⟩, h2, H⟩ := hw.kep hl
  exact ⟨⟨hw.len, hw.le, St_conv H (fun F hF => ⟨g, cs, h1, h2, hF⟩) (fun _ e => e), hw.gl⟩, hk⟩
 ·exact ⟨hw, hk⟩
theorem unlockA_ok : ∀ (l : List Nat) {s : S tb.T}, Wd tb bs η m s w → KR tb η m s.κ κc → Wd tb bs η m (unlockA l s) w ∧ KR tb η m (unlockA l s).κ κc
 | [], s, hw, hk => ⟨hw, hk⟩
 | id :: r, s, hw, hk => let ⟨h1, h2⟩ := unlockA_ok r hw hk; unlock1_ok id h1 h2
theorem lockA_ok : ∀ (l : List Nat) {s s' : S tb.T} {η : List Value} {L : Lk}, lockA l s = some (s', L) → Wd tb bs η m s w → KR tb η m s.κ κc → ∃ η', Le η η' ∧ Wd tb bs η' m s' w ∧ KR tb η' m s'.κ κc ∧ ∀ s'', Ext s' s'' → Ext s (unlockA l s'')
 | [], s, s', η, L, h, hw, hk => by
  simp only [lockA, Option.some.injEq, Prod.mk.injEq] at h
  obtain ⟨rfl, rfl⟩ := h
  exact ⟨η, Le.refl _, hw, hk, fun _ hx => hx⟩
 | id :: r, s, s', η, L, h, hw, hk => by
  simp only [lockA] at h
  split at h
  ·rename_i s1 x h1
   split at h
   ·rename_i s2 l h2
    cases h
    obtain ⟨η1, e1, e2, e3, e4⟩ := lock1_ok h1 hw hk
    obtain ⟨η2, k1, k2, k3, k4⟩ := lockA_ok r h2 e2 e3
    exact ⟨η2, e1.trans k1, k2, k3, fun s'' hx => e4 _ (k4 s'' hx)⟩
   ·cases h
  ·cases h
end
section
variable (P : Program) (tb : Tab) (cs : List (Con tb.T)) {ρ : Type}
def loadK (L : Lk) (t : TypeId) (a : AV tb.T) (s : S tb.T) : Option (AV tb.T) := match a with
 | .ptr id off => match lk s.σ id with
  | some (_, .kep e c j) => cond (L.any fun x => Nat.beq x.1 id && (Nat.beq x.2.1 e && Nat.beq x.2.2 j)) (getC P tb t c off) none
  | _ => none
 | _ => none
def opQ (L : Lk) (o : Oper) (s : S tb.T) (k : AV tb.T → Option ρ) : Option ρ := match o.op with
 | .load t x => match evA s.κ x with
  | some a => match loadK P tb L t a s with
   | some v => k v
   | none => opB P tb (evA s.κ) o k
  | none => none
 | _ => opB P tb (evA s.κ) o k
def quietE (s : S tb.T) (o : Oper) : Bool := match o.op with
 | .alloc _ => false
 | .box _ _ => false
 | .buildSlice _ _ _ => false
 | .makeSlice _ _ _ => false
 | .store _ _ _ => false
 | .load _ x => match evA s.κ x with
  | some (.ptr id _) => match lk s.σ id with
   | some (_, .kep _ _ _) => true
   | _ => false
  | some a => !memA a
  | none => false
 | .indexAddr _ x _ => match evA s.κ x with
  | some a => !(memA a || isCells a)
  | none => false
 | .slice _ x _ _ none => match evA s.κ x with
  | some a => !memA a
  | none => false
 | .convert _ d x => match evA s.κ x with
  | some a => !(memA a || (isStrA a && (slcE P d).isSome))
  | none => false
 | .call c => match c.callee with
  | .builtin .append => false
  | .builtin .delete => false
  | .builtin .len => match evL (evA s.κ) c.args.toList with
   | some [a] => !memA a
   | _ => false
  | .builtin _ => true
  | _ => false
 | _ => true
def firstQ (ops : Array Oper) (s : S tb.T) : List Nat → Option Nat
 | [] => none
 | i :: r => match ops[i]? with
  | some o => cond (!isGen P tb o s && quietE P tb s o) (some i) (firstQ ops s r)
  | none => firstQ ops s r
def guardT (ops : Array Oper) (o : Oper) (s : S tb.T) : Bool := match o.guard with
 | none => true
 | some (j, want) => match ops[j]? with
  | none => false
  | some oj => match oj.dst with
   | none => false
   | some d => match lk s.κ d with
    | some (_, .bool b) => cond want b (!b)
    | _ => false
noncomputable def drawE (nt : Nat) (ops : Array Oper) (stat : Bool) (L : Lk) : Nat → List Nat → S tb.T → (S tb.T → Option ρ) → Option ρ
 | 0, _, _, _ => none
 | f + 1, done, s, K => cond (lockedB L s) (match rdyL ops done with
  | [] => K s
  | i :: rs => cond (Nat.blt done.length ops.size) (match cond stat (firstQ P tb ops s (i :: rs)) none with
   | some j => match ops[j]? with
    | some o => guardE tb ops o s (fun s => cond (fitE tb nt o s) (opQ P tb L o s (fun v => drawE nt ops stat L f (done ++ [j]) (s.put o.dst v) K)) none) (fun s => cond (dok o.dst nt) (drawE nt ops stat L f (done ++ [j]) (s.put o.dst undA) K) none)
    | none => none
   | none => match rs with
    | [] => match ops[i]? with
     | some o => stepE P tb cs nt ops o s (fun s => drawE nt ops stat L f (done ++ [i]) s K)
     | none => none
    | _ => forkL ((i :: rs).map fun j => match ops[j]? with
     | some o => cond (guardT tb ops o s) (stepE P tb cs nt ops o s (fun s => drawE nt ops stat L f (done ++ [j]) s K)) none
     | none => none)) none) none
end
section
variable {P : Program} {tb : Tab} {cs : List (Con tb.T)} {bs : Bs} {η : List Value} {m : Mem} {s : S tb.T} {w : World} {κc : Kn} {B : Code} {n : Cx} {p : List Nat} {i : Nat} {o : Oper} {ρ' : Type} {ans : ρ'} {Q : Exit → Act → World → Prop} [NPc Q] {J : Nat → Act → World → Prop} {k : List It} {ops : Array Oper}
omit [NPc Q] in
theorem wpAnyH_mono {S S' : World → Prop} (hS : ∀ w, S' w → S w) {ops : Array Oper} : ∀ (f : Nat) (l : Array Bool) (a : Act) (w : World), wpAnyH P .any ops Q S' f l a w → wpAnyH P .any ops Q S f l a w
 | 0, _, _, _, h => h
 | f + 1, l, a, w, h => ⟨h.1, fun i hi => wpOp_mono (fun a' w' h' => ⟨hS _ h'.1, wpAnyH_mono hS f _ a' w' h'.2⟩) (h.2 i hi)⟩
omit [NPc Q] in
theorem D_mono {S S' : World → Prop} {done : List Nat} (hS : ∀ w, S' w → S w) (h : D P B Q J n p k S' done κc w) : D P B Q J n p k S done κc w :=
 ⟨hS _ h.1, fun a ha => wpAnyH_mono hS _ _ _ _ (h.2 a ha)⟩
theorem skipD {S : World → Prop} {done : List Nat} (hr : (rdyL (opsAt B p) done == [i] && Nat.blt done.length (opsAt B p).size) = true) (ho : (opsAt B p)[i]? = some o) (hw : wants κc (opsAt B p) o = some false) (hd : dok o.dst n.n = true) (hS : S w)
  (h : D P B Q J n p k S (done ++ [i]) (putk o.dst undef κc) w) : D P B Q J n p k S done κc w := by
 simp only [Bool.and_eq_true, beq_iff_eq] at hr
 refine ⟨hS, fun a ha => ?_⟩
 have hlt : done.length < (opsAt B p).size := by simpa [Nat.blt_eq] using hr.2
 obtain ⟨f, hf⟩ : ∃ f, (opsAt B p).size - done.length = f + 1 := ⟨(opsAt B p).size - done.length - 1, by omega⟩
 rw [hf]
 refine wpAnyH_all (show Region.ready .any (opsAt B p) (listedOf (opsAt B p).size done) = [i] from by rw [rdy_eq]; exact hr.1) (by simp) ?_
 intro j hj
 rw [List.mem_singleton] at hj
 subst hj
 unfold wpOp
 rw [ho]
 simp only [wants_sound ha hw, Bool.false_eq_true, if_false]
 have := h.2 (a.put o.dst undef) (ha.put _ hd _)
 rw [listedOf_snoc, List.length_append, List.length_singleton, show (opsAt B p).size - (done.length + 1) = f by omega] at this
 exact ⟨hS, this⟩
omit [NPc Q] in
theorem firstQ_ok : ∀ {l : List Nat} {j : Nat}, firstQ P tb ops s l = some j → j ∈ l
 | [], _, h => by cases h
 | i :: r, j, h => by
  simp only [firstQ] at h
  split at h
  ·rename_i o _
   cases hq : (!isGen P tb o s && quietE P tb s o) with
   | true => rw [hq] at h; cases h; exact List.mem_cons_self ..
   | false => rw [hq] at h; exact List.mem_cons_of_mem _ (firstQ_ok h)
  ·exact List.mem_cons_of_mem _ (firstQ_ok h)
omit [NPc Q] in
theorem allL_of {Q : Nat → Prop} : ∀ {l : List Nat}, (∀ i ∈ l, Q i) → AllL Q l
 | [], _ => trivial
 | i :: r, h => ⟨h i (List.mem_cons_self ..), allL_of fun j hj => h j (List.mem_cons_of_mem _ hj)⟩
omit [NPc Q] in
theorem opQ_ok (T : TabOk tb) {L : Lk} {k : AV tb.T → Option ρ'} (hk : KR tb η m s.κ κc) (hw : Wd tb bs η m s w) (h : opQ P tb L o s k = some ans) : ∃ v u, k v = some ans ∧ (∀ w', SK η m L w' → (execOp (evT κc) o).run P w' = .ok (.value u) w') ∧ R tb η m v u := by
 have base : opB P tb (evA s.κ) o k = some ans → ∃ v u, k v = some ans ∧ (∀ w', SK η m L w' → (execOp (evT κc) o).run P w' = .ok (.value u) w') ∧ R tb η m v u := by
  intro h
  obtain ⟨v, e1, u, e2, e3⟩ := opB_ok T hw.gl hk.ev h
  exact ⟨v, u, e1, fun w' hs => e2 w' hs.1, e3⟩
 unfold opQ at h
 split at h
 ·rename_i t x ho
  split at h
  ·rename_i a ha
   split at h
   ·rename_i v hv
    unfold loadK at hv
    split at hv
    ·rename_i id off
     split at hv
     ·rename_i st e c j hl
      cases hb : (L.any fun x => Nat.beq x.1 id && (Nat.beq x.2.1 e && Nat.beq x.2.2 j)) with
      | false => rw [hb] at hv; cases hv
      | true =>
       rw [hb] at hv
       obtain ⟨y, hy, hyy⟩ := List.any_eq_true.1 hb
       simp only [Bool.and_eq_true] at hyy
       obtain ⟨g, cs, ⟨h1, h2⟩, h3, H⟩ := hw.kep hl
       obtain ⟨g', e1, e2⟩ := hk.ev _ _ ha
       rw [h1] at e1
       cases e1
       obtain ⟨u, q1, q2⟩ := getC_all (P := P) (ad := ⟨g, 0, none⟩) hv h3
       refine ⟨v, u, h, fun w' hs => ?_, q2⟩
       rw [exec_load ho, e2]
       have hcell := hs.2 y hy g cs (by rw [beq_t hyy.1]; exact h1) (by rw [beq_t hyy.2.2]; exact h2)
       have := q1 w' (fun i u hi => by rw [Addr.add_lit, Nat.zero_add]; exact blk_cell hcell (by simpa using hi))
       rw [Addr.add_lit, Nat.zero_add] at this
       exact this
     ·cases hv
    ·cases hv
   ·exact base h
  ·cases h
 ·exact base h
theorem guardT_ok (hk : KR tb η m s.κ κc) (h : guardT tb ops o s = true) : wants κc ops o = some true := by
 unfold guardT at h
 unfold wants
 cases hg : o.guard with
 | none => rfl
 | some g =>
  obtain ⟨j, want⟩ := g
  rw [hg] at h
  simp only at h ⊢
  cases hj : ops[j]? with
  | none => rw [hj] at h; cases h
  | some oj =>
   rw [hj] at h
   simp only at h ⊢
   cases hd : oj.dst with
   | none => rw [hd] at h; cases h
   | some d =>
    rw [hd] at h
    simp only at h ⊢
    split at h
    ·rename_i st b hl
     obtain ⟨u, e1, e2⟩ := hk _ _ _ hl
     have e2 : u = .bool b := e2
     subst e2
     rw [e1]
     cases want <;> cases b <;> first | rfl | cases h
    ·cases h
theorem drawE_ok (T : TabOk tb) (C : ∀ cn ∈ cs, ConOk P tb cn) (hops : opsAt B p = ops) {stat : Bool} (hst : stat = true → statB B p = true) (L : Lk) : ∀ (f : Nat) (done : List Nat) {s : S tb.T} {η : List Value} {m : Mem} {κc : Kn} {w : World} {K : S tb.T → Option ρ'}, drawE P tb cs n.n ops stat L f done s K = some ans → KR tb η m s.κ κc → Wd tb bs η m s w →
  (∀ κ' w', Nxt tb bs η m s K ans κ' w' → RR P B Q J n k κ' w') → D P B Q J n p k (SK η m L) done κc w
 | 0, done, s, η, m, κc, w, K, h, hk, hw, hc => by cases h
 | f + 1, done, s, η, m, κc, w, K, h, hk, hw, hc => by
  have ih := fun (done : List Nat) {s' : S tb.T} {η' : List Value} {m' : Mem} {κ' : Kn} {w' : World} (h : drawE P tb cs n.n ops stat L f done s' K = some ans) (h2 : Ext s s') (h3 : Le η η') (h4 : Sub m m') (hk : KR tb η' m' s'.κ κ') (hw : Wd tb bs η' m' s' w') =>
   D_mono (fun _ e => SK.mono h3 h4 e) (drawE_ok T C hops hst L f done h hk hw (by
    rintro κ2 w2 ⟨s2, η2, m2, k1, k2, k3, k4, k5⟩
    exact hc κ2 w2 ⟨s2, η2, m2, k1, h2.trans k2, h3.trans k3, h4.trans k4, k5⟩))
  simp only [drawE] at h
  cases hlb : lockedB L s with
  | false => rw [hlb] at h; cases h
  | true =>
  rw [hlb] at h
  simp only [cond_true] at h
  have hsk := locked_ok hlb hw
  split at h
  ·rename_i hr
   refine endD2 ?_ hsk (hc κc w ⟨s, η, m, h, Ext.refl _, Le.refl _, Sub.refl _, hk, hw⟩)
   rw [hops, hr]; rfl
  ·rename_i i rs hr
   cases hb : Nat.blt done.length ops.size with
   | false => rw [hb] at h; cases h
   | true =>
    rw [hb] at h
    simp only [cond_true] at h
    split at h
    ·rename_i j hj
     cases stat with
     | false => cases hj
     | true =>
      simp only [cond_true] at hj
      have hmem := firstQ_ok hj
      rw [← hr] at hmem
      have hrd : rdy1 ops done j = true := (List.mem_filter.1 hmem).2
      split at h
      ·rename_i o ho
       obtain ⟨s1, hx1, hk1, hw1, h⟩ := guardE_ok hk hw h
       rcases h with ⟨h1, h2⟩ | ⟨h1, h2⟩
       ·cases hf : fitE tb n.n o s1 with
        | false => rw [hf] at h2; cases h2
        | true =>
         rw [hf] at h2
         have fo := fitE_ok (i := j) hk1 hops ho h1 hf
         obtain ⟨v, u, e1, e2, e3⟩ := opQ_ok T hk1 hw1 h2
         refine takeD2 (hst rfl) (by rw [rdyB, hops, hrd, hb]; rfl) fo (fun w' hw' => e2 w' hw') ?_
         exact ih _ e1 (hx1.trans (Ext.put _ _ _)) (Le.refl _) (Sub.refl _) (KR.put hk1 o.dst e3) (hw1.put _ _)
       ·cases hd : dok o.dst n.n with
        | false => rw [hd] at h2; cases h2
        | true =>
         rw [hd] at h2
         refine takeD0 (free_of_stat (hst rfl) (by rw [hops]; exact hrd) (by rw [hops]; exact hb)) (by rw [hops]; exact ho) (fun a ha => .inr ⟨?_, rfl⟩) hd (ih _ h2 (hx1.trans (Ext.put _ _ _)) (Le.refl _) (Sub.refl _) (KR.put hk1 o.dst (v := undA) rfl) (hw1.put _ _))
         rw [hops]; exact wants_sound ha h1
      ·cases h
    ·split at h
     ·split at h
      ·rename_i o ho
       have hr1 : (rdyL (opsAt B p) done == [i] && Nat.blt done.length (opsAt B p).size) = true := by
        rw [hops, hr, hb]; simp
       rcases stepE_ok T C hops ho h hk hw with ⟨h1, h2, h3⟩ | ⟨h1, h2, s', η', m', g1, g2, g3, g4, g5, g6⟩
       ·refine stD2 hr1 hsk (Step.imp h3 ?_)
        rintro κ' w' ⟨s', η', m', g1, g2, g3, g4, g5, g6⟩
        exact ih _ g1 g2 g3 g4 g5 g6
       ·exact skipD hr1 (by rw [hops]; exact ho) (by rw [hops]; exact h1) h2 hsk (ih _ g1 g2 g3 g4 g5 g6)
      ·cases h
     ·rename_i hne
      refine allD2 (i :: rs) (by rw [hops, hr, hb]; simp) hsk (allL_of fun j hj => ?_)
      have h1 := forkL_mem h _ (List.mem_map_of_mem hj)
      split at h1
      ·rename_i o ho
       cases hg : guardT tb ops o s with
       | false => rw [hg] at h1; cases h1
       | true =>
        rw [hg] at h1
        simp only [cond_true] at h1
        have hwt : wants κc ops o = some true := guardT_ok hk hg
        rcases stepE_ok T C hops ho h1 hk hw with ⟨_, h2, h3⟩ | ⟨h2, _⟩
        ·refine Step.imp h3 ?_
         rintro κ' w' ⟨s', η', m', g1, g2, g3, g4, g5, g6⟩
         exact ih _ g1 g2 g3 g4 g5 g6
        ·rw [hwt] at h2; cases h2
      ·cases h1
end
end Go.Proofs.YtkleajhiihbefaaGreatDoor.K.E
set_option linter.unusedVariables false
set_option linter.unusedSimpArgs false
set_option linter.unusedSectionVars false
namespace Go.Proofs.YtkleajhiihbefaaGreatDoor.K
open Go Go.RowKit
def StepP (P : Program) (B : Code) (n : Cx) (p : List Nat) (i : Nat) (κ : Kn) (w : World) (X : Kn → World → Prop) (Y : List PanicEntry → Kn → World → Prop) : Prop :=
 ∀ (Q : Exit → Act → World → Prop) (K : Act → World → Prop), (∀ κ' w' a', X κ' w' → Ag n κ' a' → K a' w') → (∀ ch w' a', Y ch κ w' → Ag n κ a' → Q (.panic ch) a' w') → ∀ a, Ag n κ a →
  ∃ o, (opsAt B p)[i]? = some o ∧ noDefer o = true ∧ Region.wanted o (yielded (opsAt B p) a.tmps) = true ∧ o.wp P a w K Q
section
variable {P : Program} {B : Code} {Q : Exit → Act → World → Prop} {J : Nat → Act → World → Prop} {n : Cx} {p : List Nat} {i : Nat} {k : List It} {κ : Kn} {w w1 : World} {ch : List PanicEntry} {d : Option Nat} {s : Sem Next} {X : Kn → World → Prop} {Y : List PanicEntry → Kn → World → Prop}
theorem StepP.of (h : Step P B n p i κ w X) : StepP P B n p i κ w X Y := fun Q K hX _ => h Q K hX
theorem stP (h : StepP P B n p i κ w (fun κ' w' => R P B Q J n (.op p (i + 1) :: k) κ' w') Y) (hq : ∀ ch w' a', Y ch κ w' → Ag n κ a' → Q (.panic ch) a' w') : R P B Q J n (.op p i :: k) κ w := by
 intro a ha
 have hq' : ∀ ch w' a', Y ch κ w' → Ag n κ a' → Hd P B n.ro Q J k (.panic ch) a' w' := fun ch w' a' hy hd => by rw [Hd_panic]; exact hq ch w' a' hy hd
 obtain ⟨o, ho, _, _, _⟩ := h (Hd P B n.ro Q J k) _ (fun κ' w' a' hx ha' => hx a' ha') hq' a ha
 refine R_op_next ho fun K hK => ?_
 obtain ⟨o', ho', hnd, hw, h2⟩ := h (Hd P B n.ro Q J k) K (fun κ' w' a' hx ha' => hK _ _ (hx a' ha')) hq' a ha
 rw [ho] at ho'
 obtain rfl := Option.some.inj ho'
 rw [hw, if_pos rfl]
 exact wp_fr hnd h2
theorem panicR {v : Value} (ho : fetch B n p i κ = some (d, s)) (hr : s.run P w = .halt (.panic v) w1) (hk : Y [{ v, recovered := false }] κ w1) : StepP P B n p i κ w X Y := by
 intro Q K hX hY a ha
 obtain ⟨o, ho', hnd, rfl, hd, he⟩ := fetch_spec ho
 obtain ⟨h1, h2⟩ := he a ha
 refine ⟨o, ho', hnd, h1, ?_⟩
 simp only [Oper.wp, h2, hr, Oper.upon]
 exact hY _ _ _ hk ha
theorem enterPR {f : FuncId} {args : Array Value} {Φ : Value → World → Prop} (ho : fetch B n p i κ = some (d, s))
  (hr : s.run P w = .ok (.enter f args) w1) (hc : Calls P f args w1 fun e w' => (∃ v, e = .returned v ∧ Φ v w') ∨ (∃ ch, e = .panicked ch ∧ Y ch κ w'))
  (hk : ∀ v w', Φ v w' → X (putk d v κ) w') : StepP P B n p i κ w X Y := by
 intro Q K hX hY a ha
 obtain ⟨o, ho', hnd, rfl, hd, he⟩ := fetch_spec ho
 obtain ⟨h1, h2⟩ := he a ha
 refine ⟨o, ho', hnd, h1, ?_⟩
 simp only [Oper.wp, h2, hr, Oper.upon]
 refine hc.mono ?_
 rintro e w' (⟨v, rfl, hΦ⟩ | ⟨ch, rfl, hy⟩)
 ·exact hX _ _ _ (hk _ _ hΦ) (ha.put _ hd _)
 ·exact hY _ _ _ hy ha
end
end Go.Proofs.YtkleajhiihbefaaGreatDoor.K
namespace Go.Proofs.YtkleajhiihbefaaGreatDoor.K.E
open Go Go.RowKit
def pnE {π A ρ : Type} (x : Option (Sum π A)) (k : A → Option ρ) (kp : π → Option ρ) : Option ρ := x.bind fun yo => match yo with
 | .inr y => k y
 | .inl l => kp l
def oR {A B : Type} : Sum A B → Option B
 | .inr y => some y
 | .inl _ => none
def Pay : Nat → Type
 | 0 => Unit
 | 1 => Int
 | n + 2 => Int × Pay (n + 1)
def Pay.list : (n : Nat) → Pay n → List Int
 | 0, _ => []
 | 1, x => [x]
 | n + 2, x => x.1 :: Pay.list (n + 1) x.2
def Pay.of : (n : Nat) → List Int → Option (Pay n)
 | 0, l => match l with
  | [] => some ()
  | _ => none
 | 1, l => match l with
  | [x] => some x
  | _ => none
 | n + 2, l => match l with
  | x :: r => (Pay.of (n + 1) r).map fun p => (x, p)
  | _ => none
theorem Pay.of_list : ∀ {n : Nat} {l : List Int} {p : Pay n}, Pay.of n l = some p → Pay.list n p = l
 | 0, [], p, _ => rfl
 | 0, x :: r, p, h => by cases h
 | 1, [x], p, h => by cases h; rfl
 | 1, [], p, h => by cases h
 | 1, x :: y :: r, p, h => by cases h
 | n + 2, [], p, h => by cases h
 | n + 2, x :: r, p, h => by
  unfold Pay.of at h
  simp only at h
  cases h2 : Pay.of (n + 1) r with
  | none => rw [h2] at h; cases h
  | some q =>
   rw [h2] at h
   cases h
   show x :: Pay.list (n + 1) q = _
   rw [Pay.of_list h2]
structure ConP (np : Nat) (T : Nat → Type) where
 f : FuncId
 ar : Sh
 os : Sh
 nr : Nat
 bk : List (Nat × TypeId)
 rk : List Nat
 F : ar.ty T → Option (Sum (Pay np) (os.ty T))
def ConP.con {np : Nat} {T : Nat → Type} (c : ConP np T) : Con T := ⟨c.f, c.ar, c.os, c.nr, c.bk, c.rk, fun x => (c.F x).bind oR⟩
def pnV (t : TypeId) (l : List Int) : List PanicEntry := [{ v := .iface t (iV l), recovered := false }]
def intsV : List Value → Option (List Int)
 | [] => some []
 | .int .i64 x :: r => match intsV r with
  | some l => some (x :: l)
  | none => none
 | _ => none
theorem intsV_ok : ∀ {c : List Value} {l : List Int}, intsV c = some l → c = l.map fun x => Value.int .i64 x
 | [], l, h => by simp only [intsV, Option.some.injEq] at h; subst h; rfl
 | v :: r, l, h => by
  unfold intsV at h
  split at h
  ·rename_i e; cases e
  ·rename_i x r' e
   cases e
   split at h
   ·rename_i l' hl
    cases h
    rw [intsV_ok hl]; rfl
   ·cases h
  ·cases h
def ConPOk {np : Nat} (P : Program) (tb : Tab) (pt : TypeId) (cn : ConP np tb.T) : Prop := ∀ (st : Nat) (x : cn.ar.ty tb.T) (yo : Sum (Pay np) (cn.os.ty tb.T)), cn.F x = some yo → ∀ (η : List Value) (m : Mem) (w : World) (F : Nat → Prop) (vals : List Value),
 RL tb η m (up tb st cn.ar x 0).1 vals → η.length = (up tb st cn.ar x 0).2.2 → Has m w → Glob tb m → Sep m w (its tb η (up tb st cn.ar x 0).2.1) F → (∀ k, F k → m k = none) →
 (callFunc cn.f vals.toArray).run P w = .ok (.enter cn.f vals.toArray) w ∧ Calls P cn.f vals.toArray w fun e w' => (∃ y, yo = .inr y ∧ ∃ v, e = .returned v ∧ ∃ (η2 : List Value) (m' : Mem) (rv bv : List Value), v = packV rv ∧ rv.length = cn.nr ∧ RL tb (η ++ η2) m' (up tb st cn.os y η.length).1 (rv ++ bv) ∧ (η ++ η2).length = (up tb st cn.os y η.length).2.2 ∧
  St w F m m' (bkV vals cn.bk bv ++ its tb (η ++ η2) (up tb st cn.os y η.length).2.1) w' ∧ bv.drop cn.bk.length = cn.rk.map (fun j => vals[j]?.getD undef)) ∨ (∃ l, yo = .inl l ∧ e = .panicked (pnV pt (Pay.list np l)) ∧ ∃ m', St w F m m' [] w')
theorem ConPOk.con {np : Nat} {P : Program} {tb : Tab} {pt : TypeId} {cn : ConP np tb.T} (h : ConPOk P tb pt cn) : ConOk P tb cn.con := by
 intro st x y hy η m w F vals h1 h2 h3 h4 h5 h6
 have hy' : cn.F x = some (.inr y) := by
  have hy : (cn.F x).bind oR = some y := hy
  cases hf : cn.F x with
  | none => rw [hf] at hy; cases hy
  | some z => cases z with
   | inl l => rw [hf] at hy; cases hy
   | inr z => rw [hf] at hy; have : z = y := Option.some.inj hy; rw [this]
 obtain ⟨k1, k2⟩ := h st x (.inr y) hy' η m w F vals h1 h2 h3 h4 h5 h6
 refine .inl ⟨k1, k2.mono ?_⟩
 rintro e w' (⟨y', hy2, v, rfl, hr⟩ | ⟨l, hn, _⟩)
 ·cases hy2; exact ⟨v, rfl, hr⟩
 ·cases hn
section
variable (tb : Tab) {np : Nat} {ρ : Type}
def runP (cn : ConP np tb.T) (avs : List (AV tb.T)) (s : S tb.T) (x : cn.ar.ty tb.T) (σ' : Sg tb.T) (k : KO tb.T ρ) (kp : List Int → S tb.T → Option ρ) : Option ρ := pnE (cn.F x) (fun y => split cn.os y fun y => match up tb s.d cn.os y s.c with
 | (as, σo, c') => k (resA (as.take cn.nr)) (backS avs cn.rk (as.drop (cn.nr + cn.bk.length)) { κ := s.κ, σ := bkI avs s.d cn.bk (as.drop cn.nr) ++ (σo ++ σ'), c := c', d := s.d + 1 })) (fun l => kp (Pay.list np l) { s with σ := σ' })
def tryP (f : FuncId) (avs : List (AV tb.T)) (s : S tb.T) (k : KO tb.T ρ) (kp : List Int → S tb.T → Option ρ) : List (ConP np tb.T) → Option ρ
 | [] => none
 | cn :: r => cond (Nat.beq cn.f f) (match prepF0 tb cn.ar 20 avs s with
  | some (avs', s') => match pk tb cn.ar avs' s'.σ with
   | some (x, σ') => runP tb cn avs' s' x σ' k kp
   | none => tryP f avs s k kp r
  | none => tryP f avs s k kp r) (tryP f avs s k kp r)
end
section
variable {P : Program} {tb : Tab} {bs : Bs} {η : List Value} {m : Mem} {s : S tb.T} {w : World} {κc : Kn} {B : Code} {n : Cx} {p : List Nat} {i : Nat} {d : Option Nat} {ρ' : Type} {k : KO tb.T ρ'} {kp : List Int → S tb.T → Option ρ'} {ans : ρ'} {pt : TypeId} {np : Nat}
def YP (pt : TypeId) (tb : Tab) (bs : Bs) (s : S tb.T) (kp : List Int → S tb.T → Option ρ') (ans : ρ') (ch : List PanicEntry) (κ' : Kn) (w' : World) : Prop := ∃ l s' η' m', ch = pnV pt l ∧ kp l s' = some ans ∧ Ext s s' ∧ KR tb η' m' s'.κ κ' ∧ Wd tb bs η' m' s' w'
theorem runP_step (T : TabOk tb) (hw : Wd tb bs η m s w) (hk : KR tb η m s.κ κc) {cn : ConP np tb.T} (hok : ConPOk P tb pt cn) {avs : List (AV tb.T)} {vals : List Value} (fo : fetch B n p i κc = some (d, callFunc cn.f vals.toArray)) (ha : RL tb η m avs vals)
  {x : cn.ar.ty tb.T} {σ' : Sg tb.T} (hp : pk tb cn.ar avs s.σ = some (x, σ')) (h : runP tb cn avs s x σ' k kp = some ans) : StepP P B n p i κc w (YX tb bs η m d s k ans κc) (YP pt tb bs s kp ans) := by
 unfold runP pnE at h
 obtain ⟨yo, hy, h⟩ := bindE h
 cases yo with
 | inr y =>
  refine StepP.of (runC_step T hw hk hok.con fo ha (cn := cn.con) (x := x) hp ?_)
  unfold runC
  show ((cn.F x).bind oR).bind _ = _
  rw [hy]
  exact h
 | inl l =>
  obtain ⟨F, f1, f2, f3⟩ := hw.st.sep
  obtain ⟨η1, e1, e2, F1, F2, e3, e4, e5, e6⟩ := pk_ok T s.d cn.ar hp ha f1 []
  simp only [List.nil_append] at e1 e2 e3
  have H0 : St bs.w0 bs.F0 bs.m0 m (its tb η1 (up tb s.d cn.ar x 0).2.1 ++ its tb η σ') w :=
   ⟨hw.st.kp, hw.st.sub, hw.st.has, hw.st.new, fun k => F1 k ∨ F2 k, Sep.app.2 ⟨F1, F2, e3, e4, e5, fun k => Iff.rfl⟩, fun k e => f2 k (e6 k e), fun k e => f3 k (e6 k e)⟩
  obtain ⟨F', g1, g2, g3⟩ := St.call _ H0
  obtain ⟨r1, r2⟩ := hok s.d x (.inl l) hy η1 m w F' vals e2 e1.symm hw.st.has hw.gl g1 g2
  refine enterPR (Φ := fun _ _ => False) fo r1 (r2.mono ?_) (fun _ _ hf => hf.elim)
  rintro e w' (⟨y, hn, _⟩ | ⟨l', hl, rfl, m', q3⟩)
  ·cases hn
  ·cases hl
   refine .inr ⟨_, rfl, Pay.list np l, { s with σ := σ' }, η, m', rfl, h, ⟨Nat.le_refl _, Nat.le_refl _, fun _ _ _ e _ => e, fun t st v e l => pk_sub cn.ar hp _ _ e⟩, hk.mono (Le.refl _) q3.sub, ?_⟩
   have H2 := g3 m' _ w' q3
   exact ⟨hw.len, hw.le, by simpa using H2, Glob.mono hw.gl q3.sub⟩
theorem tryP_step (T : TabOk tb) (hw : Wd tb bs η m s w) (hk : KR tb η m s.κ κc) {f : FuncId} {avs : List (AV tb.T)} {vals : List Value} (fo : fetch B n p i κc = some (d, callFunc f vals.toArray)) (ha : RL tb η m avs vals) : ∀ (ps : List (ConP np tb.T)), (∀ cn ∈ ps, ConPOk P tb pt cn) → tryP tb f avs s k kp ps = some ans →
  StepP P B n p i κc w (YX tb bs η m d s k ans κc) (YP pt tb bs s kp ans)
 | [], _, h => by cases h
 | cn :: r, hc, h => by
  have next := tryP_step T hw hk fo ha r (fun c hm => hc c (List.mem_cons_of_mem _ hm))
  simp only [tryP] at h
  cases hb : Nat.beq cn.f f with
  | false => rw [hb] at h; exact next h
  | true =>
   have := beq_t hb
   subst this
   rw [hb] at h
   simp only [cond_true] at h
   split at h
   ·rename_i avs' s1 hp
    split at h
    ·rename_i x σ' hpk
     obtain ⟨h1, m1, h2, h3, h4, h5⟩ := prepF0_ok T cn.ar 20 hp hw hk ha
     have hs := runP_step T h4 h3 (hc cn (List.mem_cons_self ..)) fo h5 hpk h
     intro Q K hX hY
     refine hs Q K (fun κ' w' a' hx => hX κ' w' a' (YX.pre h1 h2 _ _ hx)) (fun ch w' a' hy => hY ch w' a' ?_)
     obtain ⟨l, s', η', m', y0, y1, y2, y3⟩ := hy
     exact ⟨l, s', η', m', y0, y1, h1.trans y2, y3⟩
    ·exact next h
   ·exact next h
end
end Go.Proofs.YtkleajhiihbefaaGreatDoor.K.E
set_option linter.unusedVariables false
set_option linter.unusedSimpArgs false
set_option linter.unusedSectionVars false
namespace Go.Proofs.YtkleajhiihbefaaGreatDoor.K.E
open Go Go.RowKit
section
variable (P : Program) (tb : Tab) (cs : List (Con tb.T)) (pt : TypeId) {np : Nat} (ps : List (ConP np tb.T)) {ρ : Type}
noncomputable def lastE (nt : Nat) (ops : Array Oper) (o : Oper) (s : S tb.T) (K : S tb.T → Option ρ) (Kp : List Int → S tb.T → Option ρ) : Option ρ := match o.guard with
 | some _ => stepE P tb cs nt ops o s K
 | none => match o.op with
  | .panic x => cond (fitE tb nt o s) (match evA s.κ x with
   | some (.lit (.iface t (.agg c))) => cond (Nat.beq t pt) (match intsV c.toList with
    | some l => Kp l s
    | none => none) none
   | _ => none) none
  | .call c => match c.callee with
   | .value f => match evA s.κ f, evL (evA s.κ) c.args.toList with
    | some (.fn g l cap), some as => cond (ps.any fun q => Nat.beq q.f g) (cond (fitE tb nt o s) (tryP tb g (l ++ as ++ cap) s (fun v s => K (s.put o.dst v)) Kp ps) none) (stepE P tb cs nt ops o s K)
    | _, _ => none
   | _ => stepE P tb cs nt ops o s K
  | _ => stepE P tb cs nt ops o s K
noncomputable def seqP (nt : Nat) (ops : Array Oper) : List Oper → S tb.T → (S tb.T → Option ρ) → (List Int → S tb.T → Option ρ) → Option ρ
 | [], s, K, _ => K s
 | o :: r, s, K, Kp => lastE P tb cs pt ps nt ops o s (fun s => seqP nt ops r s K Kp) Kp
end
section
variable {P : Program} {tb : Tab} {cs : List (Con tb.T)} {pt : TypeId} {np : Nat} {ps : List (ConP np tb.T)} {bs : Bs} {η : List Value} {m : Mem} {s : S tb.T} {w : World} {κc : Kn} {B : Code} {n : Cx} {p : List Nat} {i : Nat} {o : Oper} {ρ' : Type} {ans : ρ'} {Q : Exit → Act → World → Prop} {J : Nat → Act → World → Prop} {k : List It} {ops : Array Oper}
theorem Nxt.nil {K : S tb.T → Option ρ'} {κ' : Kn} {w' : World} (h : K s = some ans) (hk : KR tb η m s.κ κ') (hw : Wd tb bs η m s w') : Nxt tb bs η m s K ans κ' w' := ⟨s, η, m, h, Ext.refl _, Le.refl _, Sub.refl _, hk, hw⟩
theorem nxt_end (hops : opsAt B p = ops) {j : Nat} (hn : ops[j]? = none) {X : Kn → World → Prop} (hc : ∀ κ' w', X κ' w' → RR P B Q J n k κ' w') {κ' : Kn} {w' : World} (h : X κ' w') : RR P B Q J n (.op p j :: k) κ' w' := by
 have hs : stp P B n (.op p j :: k) κ' = some (k, κ') := by simp only [stp, hops, hn]
 exact stp_sound hs (hc κ' w' h)
theorem lastE_ok (T : TabOk tb) (C : ∀ cn ∈ cs, ConOk P tb cn) (D : ∀ cn ∈ ps, ConPOk P tb pt cn) (hops : opsAt B p = ops) (hi : ops[i]? = some o) {K : S tb.T → Option ρ'} {Kp : List Int → S tb.T → Option ρ'} (h : lastE P tb cs pt ps n.n ops o s K Kp = some ans) (hk : KR tb η m s.κ κc) (hw : Wd tb bs η m s w)
  (hc : ∀ κ' w', Nxt tb bs η m s K ans κ' w' → RR P B Q J n (.op p (i + 1) :: k) κ' w') (hq : ∀ ch w' a', YP pt tb bs s Kp ans ch κc w' → Ag n κc a' → Q (.panic ch) a' w') : RR P B Q J n (.op p i :: k) κc w := by
 have plain : stepE P tb cs n.n ops o s K = some ans → RR P B Q J n (.op p i :: k) κc w := fun h => by
  rcases stepE_ok (p := p) (i := i) (B := B) (bs := bs) (w := w) T C hops hi h hk hw with ⟨h1, h2, h3⟩ | ⟨h1, h2, h3⟩
  ·exact st (Step.imp h3 hc)
  ·have hs : stp P B n (.op p i :: k) κc = some (.op p (i + 1) :: k, putk o.dst undef κc) := by
    simp only [stp, hops, hi, h1, h2, cond_true]
   exact stp_sound hs (hc _ _ h3)
 unfold lastE at h
 split at h
 ·exact plain h
 ·rename_i hg
  have hwn : wants κc ops o = some true := by unfold wants; rw [hg]
  split at h
  ·rename_i x ho
   cases hf : fitE tb n.n o s with
   | false => rw [hf] at h; cases h
   | true =>
    rw [hf] at h
    simp only [cond_true] at h
    have fo := fitE_ok hk hops hi hwn hf
    split at h
    ·rename_i t c hx
     cases hb : Nat.beq t pt with
     | false => rw [hb] at h; cases h
     | true =>
      rw [hb] at h
      simp only [cond_true] at h
      have := beq_t hb
      subst this
      split at h
      ·rename_i l hl
       have hc0 : (Value.agg c) = iV l := by
        unfold iV
        rw [← intsV_ok hl]
       have he : evT κc x = .iface t (.agg c) := hk.ev _ _ hx
       have hr : (execOp (evT κc) o).run P w = .halt (.panic (.iface t (.agg c))) w := by
        unfold execOp
        rw [ho]
        simp only [he]
        rfl
       exact stP (panicR fo hr (Y := YP t tb bs s Kp ans) ⟨l, s, η, m, by unfold pnV; rw [hc0], h, Ext.refl _, hk, hw⟩) hq
      ·cases h
    ·cases h
  ·rename_i c ho
   split at h
   ·rename_i f hcal
    split at h
    ·rename_i g l cap as hf0 has
     cases ha : (ps.any fun q => Nat.beq q.f g) with
     | false => rw [ha] at h; exact plain h
     | true =>
      rw [ha] at h
      simp only [cond_true] at h
      cases hf : fitE tb n.n o s with
      | false => rw [hf] at h; cases h
      | true =>
       rw [hf] at h
       simp only [cond_true] at h
       have fo := fitE_ok hk hops hi hwn hf
       obtain ⟨xs, ys, e1, e2, e3⟩ := hk.ev _ _ hf0
       rw [exec_call ho hcal e1] at fo
       have hs := tryP_step (pt := pt) T hw hk fo ((e2.app (evL_ok hk.ev has)).app e3) ps D h
       refine stP (fun Q K hX hY => hs Q K (fun κ' w' a' hx => hX κ' w' a' ?_) hY) hq
       exact hc _ _ hx.nxt
    ·cases h
   ·exact plain h
  ·exact plain h
theorem seqP_ok (T : TabOk tb) (C : ∀ cn ∈ cs, ConOk P tb cn) (D : ∀ cn ∈ ps, ConPOk P tb pt cn) (hops : opsAt B p = ops) : ∀ (l : List Oper) (i : Nat), ops.toList.drop i = l → ∀ {s : S tb.T} {η : List Value} {m : Mem} {κc : Kn} {w : World} {K : S tb.T → Option ρ'} {Kp : List Int → S tb.T → Option ρ'}, seqP P tb cs pt ps n.n ops l s K Kp = some ans → KR tb η m s.κ κc → Wd tb bs η m s w →
  (∀ κ' w', Nxt tb bs η m s K ans κ' w' → RR P B Q J n k κ' w') → (∀ ch κ' w' a', YP pt tb bs s Kp ans ch κ' w' → Ag n κ' a' → Q (.panic ch) a' w') → RR P B Q J n (.op p i :: k) κc w
 | [], i, hl, s, η, m, κc, w, K, Kp, h, hk, hw, hc, hq => by
  have hn : ops[i]? = none := by
   rw [List.drop_eq_nil_iff] at hl
   exact Array.getElem?_eq_none (by simpa using hl)
  exact nxt_end hops hn hc (Nxt.nil h hk hw)
 | o :: l, i, hl, s, η, m, κc, w, K, Kp, h, hk, hw, hc, hq => by
  have hi : ops[i]? = some o := by
   have h1 : (ops.toList.drop i)[0]? = some o := by rw [hl]; rfl
   rw [List.getElem?_drop] at h1
   simpa using h1
  have hl2 : ops.toList.drop (i + 1) = l := by
   rw [← List.drop_drop, hl]; rfl
  have h : lastE P tb cs pt ps n.n ops o s (fun s => seqP P tb cs pt ps n.n ops l s K Kp) Kp = some ans := h
  refine lastE_ok T C D hops hi h hk hw ?_ (fun ch w' a' => hq ch _ w' a')
  rintro κ' w' ⟨s', η', m', h1, h2, h3, h4, h5, h6⟩
  refine seqP_ok T C D hops l (i + 1) hl2 h1 h5 h6 ?_ ?_
  ·rintro κ2 w2 ⟨s2, η2, m2, k1, k2, k3, k4, k5⟩
   exact hc κ2 w2 ⟨s2, η2, m2, k1, h2.trans k2, h3.trans k3, h4.trans k4, k5⟩
  ·rintro ch κ2 w2 a2 ⟨l2, s2, η2, m2, k0, k1, k2, k3⟩ hd
   exact hq ch κ2 w2 a2 ⟨l2, s2, η2, m2, k0, k1, h2.trans k2, k3⟩ hd
end
end Go.Proofs.YtkleajhiihbefaaGreatDoor.K.E
set_option linter.unusedVariables false
set_option linter.unusedSimpArgs false
set_option linter.unusedSectionVars false
namespace Go.Proofs.YtkleajhiihbefaaGreatDoor.K.E
open Go Go.RowKit
inductive Ann where
 | loop (brk : Nat) (H X : Vw)
 | join (X : Vw)
 | lock (ids : List Nat)
 | lockJ (ids : List Nat) (X : Vw)
inductive Ex where
 | normal
 | exit (id : Nat)
 | ret
 | pan (l : List Int)
abbrev KK (T : Nat → Type) (ρ : Type) := Ex → S T → Option ρ
def ann (l : List (List Nat × Ann)) (p : List Nat) : Option Ann := match l with
 | [] => none
 | (q, a) :: r => cond (q == p) (some a) (ann r p)
section
variable (tb : Tab) {ρ : Type}
def okV (v : Vw) (s : S tb.T) : Bool := v.bs.all fun x => Nat.blt x.1 s.c
def headK {C : Type} (X : Vw) (s : S tb.T) (y : X.sh.ty tb.T) (f : S tb.T → C) : C := split X.sh y fun y => f (headV tb X s y)
theorem headK_eq {C : Type} (X : Vw) (s : S tb.T) (y : X.sh.ty tb.T) (f : S tb.T → C) : headK tb X s y f = f (headV tb X s y) := split_eq ..
def joinE (X : Vw) (s : S tb.T) (K : KK tb.T ρ) (run : KK tb.T (Sum (X.sh.ty tb.T) ρ) → Option (Sum (X.sh.ty tb.T) ρ)) : Option ρ :=
 cond (okV tb X s) (bnd (run fun e s' => match e with
  | .normal => match pkV tb X s' with
   | some (y, s2) => cond (chkV tb X s s2) (some (.inl y)) none
   | none => none
  | e => (K e s').map .inr) (fun y => headK tb X s y fun s => K .normal s)) none
noncomputable def loopE (brk : Nat) (H X : Vw) (s : S tb.T) (K : KK tb.T ρ) (run : KK tb.T (Sum (H.sh.ty tb.T) (Sum (X.sh.ty tb.T) ρ)) → S tb.T → Option (Sum (H.sh.ty tb.T) (Sum (X.sh.ty tb.T) ρ))) : Option ρ :=
 cond (okV tb X s && okV tb H s) (match pkV tb H s with
  | some (x0, s2) => cond (chkV tb H s s2) (bnd (loopO (fun x => headK tb H s x (run (fun e s' => match e with
   | .normal => match pkV tb H s' with
    | some (y, s2) => cond (chkV tb H s s2) (some (.inl y)) none
    | none => none
   | .exit id => cond (Nat.beq id brk) (match pkV tb X s' with
    | some (y, s2) => cond (chkV tb X s s2) (some (.inr (.inl y))) none
    | none => none) ((K (.exit id) s').map fun r => .inr (.inr r))
   | .ret => (K .ret s').map fun r => .inr (.inr r)
   | .pan l => (K (.pan l) s').map fun r => .inr (.inr r)))) x0) (fun y => headK tb X s y fun s => K (.exit brk) s)) none
  | none => none) none
variable (P : Program) (cs : List (Con tb.T)) (an : List (List Nat × Ann)) (pt : TypeId) {np : Nat} (ps : List (ConP np tb.T)) (nt : Nat)
def knowE {T : Nat → Type} (c : Operand) (b : Bool) (s : S T) : S T := match c with
 | .tmp t => s.put (some t) (.bool b)
 | _ => s
noncomputable def regE {ρ : Type} (ops : Array Oper) (d : Bool) (ids : List Nat) (s : S tb.T) (K : S tb.T → Option ρ) (Kp : List Int → S tb.T → Option ρ) : Option ρ := match d with
 | false => seqP P tb cs pt ps nt ops ops.toList s K Kp
 | true => cond (ops.all noDefer) (match lockA ids s with
  | some (s, L) => drawE P tb cs nt ops (statO ops) L (ops.size + 1) [] s (fun s => K (unlockA ids s))
  | none => none) none
noncomputable def codeE : Code → List Nat → (ρ : Type) → KK tb.T ρ → S tb.T → Option ρ
 | .seq a b, p, _, K, s => codeE a (p ++ [0]) _ (fun e s => match e with
  | .normal => codeE b (p ++ [1]) _ K s
  | e => K e s) s
 | .cond c a b, p, _, K, s => 
  let go {ρ : Type} (K : KK tb.T ρ) : Option ρ := match evA s.κ c with
   | some (.bool x) => cond x (codeE a (p ++ [0]) _ K (knowE c true s)) (codeE b (p ++ [1]) _ K (knowE c false s))
   | _ => none
  match ann an p with
  | some (.join X) => joinE tb X s K (fun K => go K)
  | _ => go K
 | .block id a, p, _, K, s => 
  let go {ρ : Type} (K : KK tb.T ρ) : Option ρ := codeE a (p ++ [0]) _ (fun e s => match e with
   | .exit i => cond (Nat.beq i id) (K .normal s) (K (.exit i) s)
   | e => K e s) s
  match ann an p with
  | some (.join X) => joinE tb X s K (fun K => go K)
  | _ => go K
 | .region _ ops d, p, _, K, s => 
  match ann an p with
  | some (.join X) => joinE tb X s K (fun K => regE tb P cs pt ps nt ops d [] s (K .normal) (fun l => K (.pan l)))
  | some (.lock ids) => regE tb P cs pt ps nt ops d ids s (K .normal) (fun l => K (.pan l))
  | some (.lockJ ids X) => joinE tb X s K (fun K => regE tb P cs pt ps nt ops d ids s (K .normal) (fun l => K (.pan l)))
  | _ => regE tb P cs pt ps nt ops d [] s (K .normal) (fun l => K (.pan l))
 | .loop a, p, _, K, s => match ann an p with
  | some (.loop brk H X) => loopE tb brk H X s K (fun K s => codeE a (p ++ [0]) _ K s)
  | _ => none
 | .skip, _, _, K, s => K .normal s
 | .label _, _, _, K, s => K .normal s
 | .scope a, p, _, K, s => codeE a (p ++ [0]) _ K s
 | .exit id, _, _, K, s => K (.exit id) s
 | .ret, _, _, K, s => K .ret s
 | _, _, _, _, _ => none
end
theorem stepR_scope {P : Program} {b : Frame} {a : Act} {k : List Go.Item} {cs : List Frame} {w : World} {c : Code} : step P (lone (b.atR a (.code (.scope c) :: k)) cs w) = .next (lone (b.atR a (.code c :: .inScope c :: k)) cs w) :=
 step_lone_go (by simp [stepG, stepG.exec, Frame.atR])
theorem stepR_inScope {P : Program} {b : Frame} {a : Act} {k : List Go.Item} {cs : List Frame} {w : World} {c : Code} : step P (lone (b.atR a (.inScope c :: k)) cs w) = .next (lone (b.atR a k) cs w) :=
 step_lone_go (by simp [stepG, stepG.exec, Frame.atR])
theorem wpIn_scope {F : Fence} {n : Nat} {P : Program} {Q : Exit → Act → World → Prop} {a : Act} {w : World} {c : Code} (hg : ∀ l a w, ¬ Q (.goto l) a w) (h : c.wpIn F n P Q a w) : (Code.scope c).wpIn F n P Q a w := by
 intro b k cs hro hb hr
 have h0 : (lone (b.atR a (.code (.scope c) :: k)) cs w).fenced P F := fenced_calm hb hr rfl
 obtain ⟨e, a₁, w₁, hq, harr⟩ := h b (.inScope c :: k) cs hro hb hr
 cases e with
 | normal => exact ⟨.normal, a₁, w₁, hq, .head h0 stepR_scope (StepsIn.trans harr (.one (fenced_calm hb hr rfl) stepR_inScope))⟩
 | exit id =>
  have hx : exitTo id (.inScope c :: k) = exitTo id k := by simp [exitTo]
  exact ⟨.exit id, a₁, w₁, hq, fun k' hk => .head h0 stepR_scope (harr.1 k' (by rw [hx]; exact hk)),
   fun hr' hk => let ⟨k₁, h1, h2⟩ := harr.2 hr' (by rw [hx]; exact hk); ⟨k₁, h1, .head h0 stepR_scope h2⟩⟩
 | goto l => exact (hg _ _ _ hq).elim
 | ret => exact ⟨_, a₁, w₁, hq, .of_steps (.one h0 stepR_scope) harr⟩
 | panic ch => exact ⟨_, a₁, w₁, hq, .of_steps (.one h0 stepR_scope) harr⟩
 | outgrown => exact ⟨_, a₁, w₁, hq, .of_steps (.one h0 stepR_scope) harr⟩
class NGo (Q : Exit → Act → World → Prop) : Prop where
 ng : ∀ l a w, ¬ Q (.goto l) a w
instance {P : Program} {fn : Func} {Rp : Ending → World → Prop} : NGo (bodyP P fn Rp) := ⟨fun _ _ _ h => h⟩
theorem Hd_goto {P : Program} {B : Code} {Q : Exit → Act → World → Prop} [NGo Q] {ro : Option Nat} {J : Nat → Act → World → Prop} : ∀ (k : List It) (l : Nat) (a : Act) (w : World), ¬ Hd P B ro Q J k (.goto l) a w
 | [], l, a, w, h => NGo.ng (Q := Q) l a w h
 | .bl id :: k, l, a, w, h => Hd_goto k l a w h
 | .le j :: k, l, a, w, h => Hd_goto k l a w h
 | .co p :: k, l, a, w, h => Hd_goto k l a w h
 | .op p i :: k, l, a, w, h => Hd_goto k l a w h
section
variable {P : Program} {tb : Tab} {cs : List (Con tb.T)} {an : List (List Nat × Ann)} {pt : TypeId} {np : Nat} {ps : List (ConP np tb.T)} {bs : Bs} {η : List Value} {m : Mem} {s : S tb.T} {w : World} {κc : Kn} {B : Code} {n : Cx} {p : List Nat} {ρ' : Type} {ans : ρ'} {Q : Exit → Act → World → Prop} [NPc Q] [NGo Q] {J : Nat → Act → World → Prop} {k : List It} {ops : Array Oper}
structure KOk (pt : TypeId) (P : Program) (B : Code) (Q : Exit → Act → World → Prop) (n : Cx) (tb : Tab) (bs : Bs) {ρ : Type} (K : KK tb.T ρ) (ans : ρ) (s0 : S tb.T) (J : Nat → Act → World → Prop) (k : List It) : Prop where
 nrm : ∀ s κ w, K .normal s = some ans → Ext s0 s → Rl tb bs s κ w → RR P B Q J n k κ w
 ext : ∀ id s κ w, K (.exit id) s = some ans → Ext s0 s → Rl tb bs s κ w → ∃ k', popTo id k = some k' ∧ RR P B Q J n k' κ w
 ret : ∀ s κ w, K .ret s = some ans → Ext s0 s → Rl tb bs s κ w → ∀ J p' k', cAt B p' = .ret → RR P B Q J n (.co p' :: k') κ w
 pan : ∀ l s κ w, K (.pan l) s = some ans → Ext s0 s → Rl tb bs s κ w → ∀ a', Ag n κ a' → Q (.panic (pnV pt l)) a' w
def EOk (pt : TypeId) (P : Program) (tb : Tab) (bs : Bs) (B : Code) (Q : Exit → Act → World → Prop) (n : Cx) (p : List Nat) (run : (ρ : Type) → KK tb.T ρ → S tb.T → Option ρ) : Prop :=
 ∀ (ρ : Type) (K : KK tb.T ρ) (s : S tb.T) (ans : ρ) (κ : Kn) (w : World) (J : Nat → Act → World → Prop) (k : List It), run ρ K s = some ans → Rl tb bs s κ w → KOk pt P B Q n tb bs K ans s J k → RR P B Q J n (.co p :: k) κ w
theorem KOk.base {ρ : Type} {K : KK tb.T ρ} {ans : ρ} {s0 s1 : S tb.T} (h : KOk pt P B Q n tb bs K ans s0 J k) (hx : Ext s0 s1) : KOk pt P B Q n tb bs K ans s1 J k :=
 ⟨fun s κ w e x r => h.nrm s κ w e (hx.trans x) r, fun id s κ w e x r => h.ext id s κ w e (hx.trans x) r, fun s κ w e x r => h.ret s κ w e (hx.trans x) r, fun l s κ w e x r => h.pan l s κ w e (hx.trans x) r⟩
theorem okV_ok {v : Vw} (h : okV tb v s = true) : ∀ id t, (id, t) ∈ v.bs → id < s.c := by
 intro id t hm
 have := List.all_eq_true.1 h _ hm
 simpa [Nat.blt_eq] using this
theorem map_some {α β : Type} {f : α → β} {x : Option α} {y : β} (h : x.map f = some y) : ∃ z, x = some z ∧ y = f z := by
 cases x with
 | none => cases h
 | some z => cases h; exact ⟨z, rfl, rfl⟩
theorem joinE_ok (T : TabOk tb) {X : Vw} {p : List Nat} {run : (ρ : Type) → KK tb.T ρ → S tb.T → Option ρ} (hrun : EOk pt P tb bs B Q n p run) : EOk pt P tb bs B Q n p (fun ρ K s => joinE tb X s K (fun K => run _ K s)) := by
 intro ρ K s ans κ w J k h hr hK
 change joinE tb X s K (fun K => run _ K s) = some ans at h
 unfold joinE at h
 simp only [headK_eq] at h
 cases ho : okV tb X s with
 | false => rw [ho] at h; cases h
 | true =>
  rw [ho] at h
  simp only [cond_true] at h
  obtain ⟨q, h1, h2, h3⟩ := bndE h
  obtain ⟨η0, m0, hk0, hw0⟩ := hr.ex
  refine joinA (topLe k) (I := fun a w' => ∃ y κ', q = .inl y ∧ Rl tb bs (headV tb X s y) κ' w' ∧ Ag n κ' a) (noLe_top k _ (Nat.le_refl _)) ?_ ?_
  ·refine hrun _ _ s q κ w _ _ h1 hr ⟨?_, ?_, ?_, ?_⟩
   ·intro s' κ' w' e hx hr'
    simp only at e
    split at e
    ·rename_i y s2 hp
     cases hc : chkV tb X s s2 with
     | false => rw [hc] at e; cases e
     | true =>
      rw [hc] at e
      simp only [cond_true, Option.some.injEq] at e
      obtain ⟨η, m, hk, hw⟩ := hr'.ex
      obtain ⟨η', m', _, g1, g2⟩ := head_ok T hw0 hk0 hw hk hx hp hc (okV_ok ho)
      exact leA fun a ha => ⟨y, κ', e.symm, ⟨η', m', g1, g2⟩, ha⟩
    ·cases e
   ·intro id s' κ' w' e hx hr'
    obtain ⟨z, e1, rfl⟩ := map_some e
    have := h3 z rfl
    subst this
    obtain ⟨k', g1, g2⟩ := hK.ext id s' κ' w' e1 hx hr'
    exact ⟨k', g1, R_upJ (popTo_noLe g1 (noLe_top k _ (Nat.le_refl _))) g2⟩
   ·intro s' κ' w' e hx hr' J p' k' hc
    obtain ⟨z, e1, rfl⟩ := map_some e
    have := h3 z rfl
    subst this
    exact hK.ret s' κ' w' e1 hx hr' J p' k' hc
   ·intro l' s' κ' w' e hx hr' a' ha'
    obtain ⟨z, e1, rfl⟩ := map_some e
    have := h3 z rfl
    subst this
    exact hK.pan l' s' κ' w' e1 hx hr' a' ha'
  ·rintro a w' ⟨y, κ', rfl, hr', ha⟩
   exact hK.nrm _ κ' w' (h2 y rfl) (head_ext X s y) hr' a ha
theorem loopE_ok (T : TabOk tb) {brk : Nat} {H X : Vw} {p : List Nat} {run : (ρ : Type) → KK tb.T ρ → S tb.T → Option ρ} (hl : isLoop B p = true) (hrun : EOk pt P tb bs B Q n (p ++ [0]) run) : EOk pt P tb bs B Q n p (fun ρ K s => loopE tb brk H X s K (fun K s => run _ K s)) := by
 intro ρ K s ans κ w J k h hr hK
 change loopE tb brk H X s K (fun K s => run _ K s) = some ans at h
 unfold loopE at h
 simp only [headK_eq] at h
 cases ho : (okV tb X s && okV tb H s) with
 | false => rw [ho] at h; cases h
 | true =>
  rw [ho] at h
  rw [Bool.and_eq_true] at ho
  simp only [cond_true] at h
  split at h
  ·rename_i x0 s2 hp0
   cases hc0 : chkV tb H s s2 with
   | false => rw [hc0] at h; cases h
   | true =>
    rw [hc0] at h
    simp only [cond_true] at h
    obtain ⟨q, h1, h2, h3⟩ := bndE h
    obtain ⟨N, h1⟩ := loopO_iff.1 h1
    obtain ⟨η0, m0, hk0, hw0⟩ := hr.ex
    have hno := noLe_top k _ (Nat.le_refl (topLe k))
    obtain ⟨ηa, ma, _, a1, a2⟩ := head_ok T hw0 hk0 hw0 hk0 (Ext.refl s) hp0 hc0 (okV_ok ho.2)
    refine loopA (I := fun N a w' => ∃ x κ', iter _ N x = some q ∧ Rl tb bs (headV tb H s x) κ' w' ∧ Ag n κ' a) (topLe k) N hl hno (fun a ha => ⟨x0, κ, h1, ⟨ηa, ma, a1, a2⟩, ha⟩) ?_
    rintro N a w' ⟨x, κ', hi, hrx, ha⟩
    obtain ⟨N', qq, rfl, b1, b2, b3⟩ := iterE hi
    refine hrun _ _ (headV tb H s x) qq κ' w' _ _ b1 hrx ⟨?_, ?_, ?_, ?_⟩ a ha
    ·intro s' κ2 w2 e hx hr'
     simp only at e
     split at e
     ·rename_i y s3 hp
      cases hc : chkV tb H s s3 with
      | false => rw [hc] at e; cases e
      | true =>
       rw [hc] at e
       simp only [cond_true, Option.some.injEq] at e
       obtain ⟨η, m, hk, hw⟩ := hr'.ex
       obtain ⟨η', m', _, g1, g2⟩ := head_ok T hw0 hk0 hw hk ((head_ext H s x).trans hx) hp hc (okV_ok ho.2)
       exact leA fun a ha => ⟨N', Nat.lt_succ_self _, y, κ2, b2 y e.symm, ⟨η', m', g1, g2⟩, ha⟩
     ·cases e
    ·intro id s' κ2 w2 e hx hr'
     simp only at e
     have hx2 := (head_ext H s x).trans hx
     cases hb : Nat.beq id brk with
     | true =>
      have := beq_t hb
      subst this
      rw [hb] at e
      simp only [cond_true] at e
      split at e
      ·rename_i y s3 hp
       cases hc : chkV tb X s s3 with
       | false => rw [hc] at e; cases e
       | true =>
        rw [hc] at e
        simp only [cond_true, Option.some.injEq] at e
        obtain ⟨η, m, hk, hw⟩ := hr'.ex
        obtain ⟨η', m', _, g1, g2⟩ := head_ok T hw0 hk0 hw hk hx2 hp hc (okV_ok ho.1)
        have hq := b3 _ e.symm
        obtain ⟨k', c1, c2⟩ := hK.ext id (headV tb X s y) κ2 w2 (h2 y hq.symm) (head_ext X s y) ⟨η', m', g1, g2⟩
        exact ⟨k', c1, R_upJ (popTo_noLe c1 hno) c2⟩
      ·cases e
     | false =>
      rw [hb] at e
      simp only [cond_false] at e
      obtain ⟨z, e1, e2⟩ := map_some e
      have hq := b3 _ e2
      have := h3 z hq.symm
      subst this
      obtain ⟨k', c1, c2⟩ := hK.ext id s' κ2 w2 e1 hx2 hr'
      exact ⟨k', c1, R_upJ (popTo_noLe c1 hno) c2⟩
    ·intro s' κ2 w2 e hx hr' J p' k' hc
     obtain ⟨z, e1, e2⟩ := map_some e
     have hq := b3 _ e2
     have := h3 z hq.symm
     subst this
     exact hK.ret s' κ2 w2 e1 ((head_ext H s x).trans hx) hr' J p' k' hc
    ·intro l' s' κ2 w2 e hx hr' a' ha'
     obtain ⟨z, e1, e2⟩ := map_some e
     have hq := b3 _ e2
     have := h3 z hq.symm
     subst this
     exact hK.pan l' s' κ2 w2 e1 ((head_ext H s x).trans hx) hr' a' ha'
  ·cases h
theorem codeE_ok (T : TabOk tb) (C : ∀ cn ∈ cs, ConOk P tb cn) (D : ∀ cn ∈ ps, ConPOk P tb pt cn) (hm : P.follows .mixedOrders = true) : ∀ (c : Code) (p : List Nat), cAt B p = c → EOk pt P tb bs B Q n p (codeE tb P cs an pt ps n.n c p)
 | .seq a b, p, hc => by
  intro ρ K s ans κ w J k h hr hK
  have ha := codeE_ok T C D hm a (p ++ [0]) (by rw [cAt_append, hc]; simp only [cAt])
  have hb := codeE_ok T C D hm b (p ++ [1]) (by rw [cAt_append, hc]; simp only [cAt])
  have hs : stp P B n (.co p :: k) κ = some (.co (p ++ [0]) :: .co (p ++ [1]) :: k, κ) := by simp only [stp, hc]
  refine stp_sound hs (ha _ _ s ans κ w J _ h hr ⟨?_, ?_, ?_, ?_⟩)
  ·intro s' κ' w' e hx hr'
   exact hb _ K s' ans κ' w' J k e hr' (hK.base hx)
  ·intro id s' κ' w' e hx hr'
   exact hK.ext id s' κ' w' e hx hr'
  ·intro s' κ' w' e hx hr'
   exact hK.ret s' κ' w' e hx hr'
  ·intro l' s' κ' w' e hx hr'
   exact hK.pan l' s' κ' w' e hx hr'
 | .cond c a b, p, hc => by
  have ha := codeE_ok T C D hm a (p ++ [0]) (by rw [cAt_append, hc]; simp only [cAt])
  have hb := codeE_ok T C D hm b (p ++ [1]) (by rw [cAt_append, hc]; simp only [cAt])
  have hg : EOk pt P tb bs B Q n p (fun ρ K s => match evA s.κ c with
   | some (.bool x) => cond x (codeE tb P cs an pt ps n.n a (p ++ [0]) _ K (knowE c true s)) (codeE tb P cs an pt ps n.n b (p ++ [1]) _ K (knowE c false s))
   | _ => none) := by
   intro ρ K s ans κ w J k h hr hK
   simp only at h
   split at h
   ·rename_i x hx
    obtain ⟨η, m, hk, hw⟩ := hr.ex
    have he : evT κ c = .bool x := hk.ev _ _ hx
    have hk1 := hk.known hx
    obtain ⟨u, hu⟩ := Option.isSome_iff_exists.1 hk1
    have : u = .bool x := by rw [← he, evT, hu]; rfl
    subst this
    have kn : Ext s (knowE c x s) ∧ Rl tb bs (knowE c x s) κ w := by
     unfold knowE
     split
     ·exact ⟨Ext.put _ _ _, η, m, KR.know hk (show fnd κ _ = some (.bool x) from hu) rfl, hw.put _ _⟩
     ·exact ⟨Ext.refl _, hr⟩
    cases x with
    | true =>
     have hs : stp P B n (.co p :: k) κ = some (.co (p ++ [0]) :: k, κ) := by simp only [stp, hc, hu]
     exact stp_sound hs (ha _ K _ ans κ w J k h kn.2 (hK.base kn.1))
    | false =>
     have hs : stp P B n (.co p :: k) κ = some (.co (p ++ [1]) :: k, κ) := by simp only [stp, hc, hu]
     exact stp_sound hs (hb _ K _ ans κ w J k h kn.2 (hK.base kn.1))
   ·cases h
  intro ρ K s ans κ w J k h hr hK
  simp only [codeE] at h
  split at h
  ·exact joinE_ok T hg ρ K s ans κ w J k h hr hK
  ·exact hg ρ K s ans κ w J k h hr hK
 | .block id a, p, hc => by
  have ha := codeE_ok T C D hm a (p ++ [0]) (by rw [cAt_append, hc]; simp only [cAt])
  have hg : EOk pt P tb bs B Q n p (fun ρ K s => codeE tb P cs an pt ps n.n a (p ++ [0]) _ (fun e s => match e with
   | .exit i => cond (Nat.beq i id) (K .normal s) (K (.exit i) s)
   | e => K e s) s) := by
   intro ρ K s ans κ w J k h hr hK
   have hs : stp P B n (.co p :: k) κ = some (.co (p ++ [0]) :: .bl id :: k, κ) := by simp only [stp, hc]
   refine stp_sound hs (ha _ _ s ans κ w J _ h hr ⟨?_, ?_, ?_, ?_⟩)
   ·intro s' κ' w' e hx hr'
    have hs2 : stp P B n (.bl id :: k) κ' = some (k, κ') := rfl
    exact stp_sound hs2 (hK.nrm s' κ' w' e hx hr')
   ·intro i s' κ' w' e hx hr'
    simp only at e
    simp only [popTo]
    cases hb : Nat.beq i id with
    | true =>
     rw [hb] at e
     have := beq_t hb
     subst this
     rw [Nat.beq_refl]
     exact ⟨k, rfl, hK.nrm s' κ' w' e hx hr'⟩
    | false =>
     rw [hb] at e
     have hb2 : Nat.beq id i = false := by
      cases hb2 : Nat.beq id i with
      | true => have := beq_t hb2; subst this; rw [Nat.beq_refl] at hb; cases hb
      | false => rfl
     rw [hb2]
     exact hK.ext i s' κ' w' e hx hr'
   ·intro s' κ' w' e hx hr'
    exact hK.ret s' κ' w' e hx hr'
   ·intro l' s' κ' w' e hx hr'
    exact hK.pan l' s' κ' w' e hx hr'
  intro ρ K s ans κ w J k h hr hK
  simp only [codeE] at h
  split at h
  ·exact joinE_ok T hg ρ K s ans κ w J k h hr hK
  ·exact hg ρ K s ans κ w J k h hr hK
 | .region id ops d, p, hc => by
  have hops : opsAt B p = ops := by simp [opsAt, hc]
  have hg : ∀ ids, EOk pt P tb bs B Q n p (fun ρ K s => regE tb P cs pt ps n.n ops d ids s (K .normal) (fun l => K (.pan l))) := by
   intro ids ρ K s ans κ w J k h hr hK
   change regE tb P cs pt ps n.n ops d ids s (K .normal) (fun l => K (.pan l)) = some ans at h
   unfold regE at h
   obtain ⟨η, m, hk, hw⟩ := hr.ex
   cases d with
   | false =>
    have hs : stp P B n (.co p :: k) κ = some (.op p 0 :: k, κ) := by simp only [stp, hc]
    refine stp_sound hs (seqP_ok T C D hops ops.toList 0 rfl h hk hw ?_ ?_)
    ·rintro κ' w' ⟨s', η', m', h1, h2, h3, h4, h5, h6⟩
     exact hK.nrm s' κ' w' h1 h2 ⟨η', m', h5, h6⟩
    ·rintro ch κ' w' a' ⟨l', s', η', m', rfl, h1, h2, h3, h4⟩ hd
     exact hK.pan l' s' κ' w' h1 h2 ⟨η', m', h3, h4⟩ a' hd
   | true =>
    simp only at h
    cases hnd : ops.all noDefer with
    | false => rw [hnd] at h; cases h
    | true =>
     rw [hnd] at h
     simp only [cond_true] at h
     split at h
     ·rename_i s1 L hl
      obtain ⟨_, _, _, _, l4⟩ := lockA_ok ids hl hw hk
      refine drawS (fun _ => True) hw.st (by unfold isDraw; rw [hc]; exact hnd) hm ?_
      intro w1 H1
      obtain ⟨η2, _, w2, k2, _⟩ := lockA_ok (w := w1) ids hl (⟨hw.len, hw.le, H1, hw.gl⟩ : Wd tb bs η m s w1) hk
      refine D_mono (fun _ _ => trivial) (drawE_ok T C hops (stat := statO ops) (fun e => ?_) L (ops.size + 1) [] h k2 w2 ?_)
      ·rw [← hops] at e; exact e
      ·rintro κ' w' ⟨s', η', m', h1, h2, h3, h4, h5, h6⟩
       obtain ⟨u1, u2⟩ := unlockA_ok ids h6 h5
       exact hK.nrm _ κ' w' h1 (l4 _ h2) ⟨η', m', u2, u1⟩
     ·cases h
  intro ρ K s ans κ w J k h hr hK
  simp only [codeE] at h
  split at h
  ·exact joinE_ok T (hg []) ρ K s ans κ w J k h hr hK
  ·exact hg _ ρ K s ans κ w J k h hr hK
  ·exact joinE_ok T (hg _) ρ K s ans κ w J k h hr hK
  ·exact hg [] ρ K s ans κ w J k h hr hK
 | .loop a, p, hc => by
  have ha := codeE_ok T C D hm a (p ++ [0]) (by rw [cAt_append, hc]; simp only [cAt])
  intro ρ K s ans κ w J k h hr hK
  simp only [codeE] at h
  split at h
  ·exact loopE_ok T (by unfold isLoop; rw [hc]) ha ρ K s ans κ w J k h hr hK
  ·cases h
 | .skip, p, hc => by
  intro ρ K s ans κ w J k h hr hK
  have hs : stp P B n (.co p :: k) κ = some (k, κ) := by simp only [stp, hc]
  exact stp_sound hs (hK.nrm s κ w h (Ext.refl _) hr)
 | .scope a, p, hc => by
  intro ρ K s ans κ w J k h hr hK
  have h1 := codeE_ok T C D hm a (p ++ [0]) (by rw [cAt_append, hc]; simp only [cAt]) ρ K s ans κ w J k h hr hK
  intro a' ha
  have h2 := h1 a' ha
  simp only [Hd, Exit.then] at h2 ⊢
  rw [hc]
  rw [cAt_append, hc] at h2
  simp only [cAt] at h2
  exact wpIn_scope (fun l a w => Hd_goto k l a w) h2
 | .label l, p, hc => by
  intro ρ K s ans κ w J k h hr hK
  have hs : stp P B n (.co p :: k) κ = some (k, κ) := by simp only [stp, hc]
  exact stp_sound hs (hK.nrm s κ w h (Ext.refl _) hr)
 | .exit id, p, hc => by
  intro ρ K s ans κ w J k h hr hK
  obtain ⟨k', g1, g2⟩ := hK.ext id s κ w h (Ext.refl _) hr
  have hs : stp P B n (.co p :: k) κ = some (k', κ) := by simp only [stp, hc, g1]
  exact stp_sound hs g2
 | .ret, p, hc => by
  intro ρ K s ans κ w J k h hr hK
  exact hK.ret s κ w h (Ext.refl _) hr J p k hc
 | .rangeFunc .., p, hc => by intro ρ K s ans κ w J k h; cases h
 | .goto _, p, hc => by intro ρ K s ans κ w J k h; cases h
 | .refuse _, p, hc => by intro ρ K s ans κ w J k h; cases h
end
end Go.Proofs.YtkleajhiihbefaaGreatDoor.K.E
set_option linter.unusedVariables false
set_option linter.unusedSimpArgs false
set_option linter.unusedSectionVars false
namespace Go.Proofs.YtkleajhiihbefaaGreatDoor.K.E
open Go Go.RowKit
def argS {T : Nat → Type} : List (AV T) → Nat → List (Nat × Nat × AV T)
 | [], _ => []
 | a :: r, i => (i, 0, a) :: argS r (i + 1)
def bkIds {T : Nat → Type} (as : List (AV T)) : List (Nat × TypeId) → Option (List (Nat × TypeId))
 | [] => some []
 | (j, t) :: bk => match as[j]? with
  | some (.ptr id _) => match bkIds as bk with
   | some l => some ((id, t) :: l)
   | none => none
  | _ => none
def rkIds {T : Nat → Type} (as : List (AV T)) : List Nat → Option (List (AV T))
 | [] => some []
 | j :: rk => match as[j]? with
  | some (.row id) => match rkIds as rk with
   | some l => some (.row id :: l)
   | none => none
  | _ => none
section
variable (tb : Tab) (P : Program) (cs : List (Con tb.T)) (an : List (List Nat × Ann))
def resE (s : S tb.T) : List ResultVar → Option (List (AV tb.T))
 | [] => some []
 | .tmp t :: r => match lk s.κ t, resE s r with
  | some (_, v), some l => some (v :: l)
  | _, _ => none
 | .cell a t :: r => match lk s.κ a, resE s r with
  | some (_, .ptr id off), some l => match lk s.σ id with
   | some (_, .blk _ cs) => match getC P tb t cs off with
    | some v => some (v :: l)
    | none => none
   | _ => none
  | _, _ => none
def retV (rs : List ResultVar) (bs : List (Nat × TypeId)) (rx : List (AV tb.T)) (os : Sh) (s : S tb.T) : Option (os.ty tb.T) := match resE tb P s rs, takeB bs s.σ with
 | some as, some (cl, _) => match prepF tb os 20 (as ++ (cl ++ rx)) s with
  | some (_, s) => match resE tb P s rs, takeB bs s.σ with
   | some as, some (cl, σ) => match pk tb os (as ++ (cl ++ rx)) σ with
    | some (x, _) => some x
    | none => none
   | _, _ => none
  | none => none
 | _, _ => none
def retE (rs : List ResultVar) (bs : List (Nat × TypeId)) (rx : List (AV tb.T)) (os : Sh) (e : Ex) (s : S tb.T) : Option (os.ty tb.T) := match e with
 | .exit _ => none
 | .pan _ => none
 | _ => retV tb P rs bs rx os s
def retP (np : Nat) (rs : List ResultVar) (bs : List (Nat × TypeId)) (rx : List (AV tb.T)) (os : Sh) (e : Ex) (s : S tb.T) : Option (Sum (Pay np) (os.ty tb.T)) := match e with
 | .exit _ => none
 | .pan l => (Pay.of np l).map .inl
 | _ => (retV tb P rs bs rx os s).map .inr
noncomputable def fnE (fn : Func) (ar os : Sh) (bk : List (Nat × TypeId)) (rk : List Nat) (x : ar.ty tb.T) : Option (os.ty tb.T) := match up tb 0 ar x 0 with
 | (as, σ, c) => match bkIds as bk, rkIds as rk with
  | some bs, some rx => codeE tb P cs an 0 (np := 0) [] fn.ntmps (bodyOf fn) [] _ (retE tb P fn.results.toList bs rx os) { κ := argS as 0, σ := σ, c := c, d := 1 }
  | _, _ => none
noncomputable def fnP (pt : TypeId) {np : Nat} (ps : List (ConP np tb.T)) (fn : Func) (ar os : Sh) (bk : List (Nat × TypeId)) (rk : List Nat) (x : ar.ty tb.T) : Option (Sum (Pay np) (os.ty tb.T)) := match up tb 0 ar x 0 with
 | (as, σ, c) => match bkIds as bk, rkIds as rk with
  | some bs, some rx => codeE tb P cs an pt ps fn.ntmps (bodyOf fn) [] _ (retP tb P np fn.results.toList bs rx os) { κ := argS as 0, σ := σ, c := c, d := 1 }
  | _, _ => none
end
section
variable {P : Program} {tb : Tab} {cs : List (Con tb.T)} {an : List (List Nat × Ann)} {bs : Bs} {η : List Value} {m : Mem} {s : S tb.T} {w : World} {κc : Kn}
theorem argS_ok : ∀ {as : List (AV tb.T)} {vs : List Value} (i : Nat), RL tb η m as vs → KR tb η m (argS as i) (argK vs i)
 | [], vs, i, h => fun _ _ _ e => by simp only [argS, lk, reduceCtorEq] at e
 | a :: r, vs, i, ⟨v, l, h1, h2, h3⟩ => by
  subst h1
  intro t st v' e
  simp only [argS, lk] at e
  simp only [argK, fnd]
  cases hb : Nat.beq i t with
  | true =>
   rw [hb] at e
   simp only [cond_true, Option.some.injEq, Prod.mk.injEq] at e
   obtain ⟨_, rfl⟩ := e
   exact ⟨v, rfl, h2⟩
  | false => rw [hb] at e; exact argS_ok (i + 1) h3 t st v' e
theorem bk_back {η' : List Value} (hη : Le η η') {as : List (AV tb.T)} {vals : List Value} {w' : World} {m' m0 : Mem} (hr : RL tb η m0 as vals) : ∀ {bk : List (Nat × TypeId)} {l : List (Nat × TypeId)}, bkIds as bk = some l → ∀ {bv : List Value} {F : Nat → Prop}, BqOk η' l bv → Sep m' w' (bqV η' l bv) F → Sep m' w' (bkV vals bk bv) F
 | [], l, h, bv, F, _, hs => by
  simp only [bkIds, Option.some.injEq] at h
  subst h
  cases bv <;> exact hs
 | (j, t) :: bk, l, h, bv, F, hq, hs => by
  simp only [bkIds] at h
  split at h
  ·rename_i id o hj
   split at h
   ·rename_i l' hl
    cases h
    obtain ⟨u, hu, g, e1, e2⟩ := hr.get hj
    cases bv with
    | nil => exact hs
    | cons b bv =>
     obtain ⟨hq0, hqr⟩ := hq
     rcases hq0 with ⟨_, _, cs', rfl⟩ | ⟨⟨_, _, _, hv⟩, _⟩
     ·simp only [bqV, hη _ _ e1, Option.bind_some, ptrOf] at hs
      simp only [bkV, hu, e2, Option.bind_some, ptrOf]
      obtain ⟨F1, F2, k1, k2, k3⟩ := hs
      exact ⟨F1, F2, k1, bk_back hη hr hl hqr k2, k3⟩
     ·rw [hη _ _ e1] at hv
      cases hv
   ·cases h
  ·cases h
theorem rkIds_ok {η' : List Value} {m m' : Mem} (hη : Le η η') {as : List (AV tb.T)} {vals : List Value} (hr : RL tb η m as vals) : ∀ {rk : List Nat} {l : List (AV tb.T)}, rkIds as rk = some l → RL tb η' m' l (rk.map fun j => vals[j]?.getD undef)
 | [], l, h => by
  simp only [rkIds, Option.some.injEq] at h
  subst h
  rfl
 | j :: rk, l, h => by
  simp only [rkIds] at h
  split at h
  ·rename_i id hj
   split at h
   ·rename_i l' hl
    cases h
    obtain ⟨u, hu, e1, e2⟩ := hr.get hj
    refine ⟨u, _, by rw [List.map_cons, hu]; rfl, ⟨hη _ _ e1, e2⟩, rkIds_ok hη hr hl⟩
   ·cases h
  ·cases h
theorem bkIds_len : ∀ {as : List (AV tb.T)} {bk l : List (Nat × TypeId)}, bkIds as bk = some l → l.length = bk.length
 | as, [], l, h => by simp only [bkIds, Option.some.injEq] at h; subst h; rfl
 | as, (j, t) :: bk, l, h => by
  simp only [bkIds] at h
  split at h
  ·split at h
   ·rename_i l' hl; cases h; rw [List.length_cons, List.length_cons, bkIds_len hl]
   ·cases h
  ·cases h
theorem takeB_len : ∀ {l : List (Nat × TypeId)} {σ σ' : Sg tb.T} {cl : List (AV tb.T)}, takeB l σ = some (cl, σ') → cl.length = l.length
 | [], σ, σ', cl, h => by simp only [takeB, Option.some.injEq, Prod.mk.injEq] at h; obtain ⟨rfl, rfl⟩ := h; rfl
 | (id, t) :: r, σ, σ', cl, h => by
  simp only [takeB] at h
  split at h
  ·rename_i st t' c hl
   cases hb : Nat.beq t' t with
   | false => rw [hb] at h; cases h
   | true =>
    rw [hb] at h
    simp only [cond_true] at h
    split at h
    ·rename_i l2 σ1 hr
     cases h
     rw [List.length_cons, List.length_cons, takeB_len hr]
    ·cases h
  ·rename_i st nn t' l0 hl
   cases hb : Nat.beq t' t with
   | false => rw [hb] at h; cases h
   | true =>
    rw [hb] at h
    simp only [cond_true] at h
    split at h
    ·rename_i l2 σ1 hr
     cases h
     rw [List.length_cons, List.length_cons, takeB_len hr]
    ·cases h
  ·cases h
theorem bkV_app (vs xs : List Value) : ∀ (bk : List (Nat × TypeId)) (bv : List Value), bv.length = bk.length → bkV vs bk (bv ++ xs) = bkV vs bk bv
 | [], bv, h => by
  have : bv = [] := List.eq_nil_of_length_eq_zero (by simpa using h)
  subst this
  cases xs <;> rfl
 | (j, t) :: bk, [], h => by simp at h
 | (j, t) :: bk, b :: bv, h => by
  have ih := bkV_app vs xs bk bv (by simpa using h)
  simp only [List.cons_append, bkV]
  split
  ·rw [ih]
  ·exact ih
theorem resE_ok (hw : Wd tb bs η m s w) (hk : KR tb η m s.κ κc) : ∀ {rs : List ResultVar} {as : List (AV tb.T)}, resE tb P s rs = some as → ∃ vs, RL tb η m as vs ∧ ResOk P κc w rs vs ∧ vs.length = rs.length
 | [], as, h => by simp only [resE, Option.some.injEq] at h; subst h; exact ⟨[], rfl, trivial, rfl⟩
 | .tmp t :: r, as, h => by
  simp only [resE] at h
  split at h
  ·rename_i st v l hl hr
   cases h
   obtain ⟨u, e1, e2⟩ := hk _ _ _ hl
   obtain ⟨vs, e3, e4, e5⟩ := resE_ok hw hk hr
   exact ⟨u :: vs, ⟨u, vs, rfl, e2, e3⟩, ⟨e1, e4⟩, by rw [List.length_cons, List.length_cons, e5]⟩
  ·cases h
 | .cell a t :: r, as, h => by
  simp only [resE] at h
  split at h
  ·rename_i st id off l hl hr
   split at h
   ·rename_i st2 t2 cs hb
    split at h
    ·rename_i v hv
     cases h
     obtain ⟨u, e1, g, e2, e3⟩ := hk _ _ _ hl
     obtain ⟨vs, q1, q2, q3⟩ := resE_ok hw hk hr
     obtain ⟨g', us, g1, g2, H⟩ := hw.blk hb
     rw [e2] at g1
     cases g1
     obtain ⟨x, k1, k2⟩ := getC_ok (P := P) (ad := ⟨g, 0, none⟩) (w := w) hv g2 (fun j u hj => by rw [Addr.add_lit, Nat.zero_add]; exact H.cellB 0 rfl hj)
     rw [Addr.add_lit, Nat.zero_add] at k1
     refine ⟨x :: vs, ⟨x, vs, rfl, k2, q1⟩, ⟨⟨_, by rw [e1, e3], ?_⟩, q2⟩, by rw [List.length_cons, List.length_cons, q3]⟩
     have h1 : ∀ (s : Sem Value), (vS s).run P w = .ok (.value x) w → s.run P w = .ok x w := by
      intro s hs
      simp only [vS, Sem.run_bind] at hs
      cases hr : s.run P w with
      | ok v w' => rw [hr] at hs; simp only [Result.andThen_ok, Sem.run_pure, Result.ok.injEq, Next.value.injEq] at hs; rw [hs.1, hs.2]
      | halt x w' => rw [hr] at hs; cases hs
     have h2 := h1 _ k1
     simpa only [Instr.loadAt, Instr.sureAddr, Sem.run_bind, Sem.run_pure, Result.andThen_ok] using h2
    ·cases h
   ·cases h
  ·cases h
theorem endC {P : Program} {B : Code} {J : Nat → Act → World → Prop} {N : Nat} {fn : Func} {Rp : Ending → World → Prop} {κ : Kn} {w : World} (vs : List Value) (hr : ResOk P κ w fn.results.toList vs) (h : Rp (.returned (packV vs)) w) : RR P B (bodyP P fn Rp) J ⟨N, none, [], []⟩ [] κ w := by
 intro a ha
 show LeavesInM (Fr none) 0 P fn a.tmps Rp a.defers .returning w
 rw [ha.defers]
 exact leavesM (ds := []) ⟨_, resultsC_run ha hr, h⟩
theorem fn_ok (T : TabOk tb) (C : ∀ cn ∈ cs, ConOk P tb cn) (hm : P.follows .mixedOrders = true) {cn : Con tb.T} {fn : Func} (hf : P.funcs[cn.f]? = some fn) (hb : fn.body.isSome = true) (hcall : ∀ args w, (callFunc cn.f args).run P w = .ok (.enter cn.f args) w)
  (hn : ∀ x, Nat.ble (up tb 0 cn.ar x 0).1.length fn.ntmps = true) (hnr : fn.results.toList.length = cn.nr) (hE : ∀ x, fnE tb P cs an fn cn.ar cn.os cn.bk cn.rk x = cn.F x) : ConOk P tb cn := by
 intro st x y hy η m w F vals hr hlen has gl hs hd
 obtain ⟨j, j1, j2, j3⟩ := upsh T st 0 cn.ar x 0 0
 obtain ⟨k1, k2⟩ := j3 η η (fun _ _ e => e)
 have hr0 := k1 m vals hr
 have hs0 := k2 m w F hs
 have hl0 : η.length = (up tb 0 cn.ar x 0).2.2 := by omega
 have hN := hn x
 refine .inl ⟨hcall _ _, ?_⟩
 have hEx := hE x
 rw [hy] at hEx
 unfold fnE at hEx
 generalize up tb 0 cn.ar x 0 = u at hEx hr0 hs0 hl0 hN
 obtain ⟨as, σ, c⟩ := u
 simp only at hEx hr0 hs0 hl0 hN
 split at hEx
 ·rename_i l rx hbk hrx
  refine callsR hf hb (by simpa [hr0.len] using hN) ?_
  let bs : Bs := ⟨w, F, m, η⟩
  have post : ∀ {s' : S tb.T} {κ' : Kn} {w' : World}, retV tb P fn.results.toList l rx cn.os s' = some y → Rl tb bs s' κ' w' → ∃ vs, ResOk P κ' w' fn.results.toList vs ∧ ∃ v, Ending.returned (packV vs) = .returned v ∧ ∃ (η2 : List Value) (m' : Mem) (rv bv : List Value), v = packV rv ∧ rv.length = cn.nr ∧ RL tb (η ++ η2) m' (up tb st cn.os y η.length).1 (rv ++ bv) ∧ (η ++ η2).length = (up tb st cn.os y η.length).2.2 ∧
     St w F m m' (bkV vals cn.bk bv ++ its tb (η ++ η2) (up tb st cn.os y η.length).2.1) w' ∧ bv.drop cn.bk.length = cn.rk.map (fun j => vals[j]?.getD undef) := by
   intro s' κ' w' h hrl
   unfold retV at h
   obtain ⟨η', m', hk, hw⟩ := hrl.ex
   split at h
   ·rename_i as0 cl0 σ00 hs0 ht0
    split at h
    ·rename_i as1 s1 hpr
     obtain ⟨vs0, r0, _⟩ := resE_ok hw hk hs0
     obtain ⟨F00, f00, _⟩ := hw.st.sep
     obtain ⟨bv0, _, _, r1, _⟩ := takeB_ok (w := w') l ht0 f00
     have r2 : RL tb η' m' rx _ := rkIds_ok hw.le hr0 hrx
     obtain ⟨x1, m1, x2, k1, w1, _⟩ := prepF_ok T cn.os 20 hpr hw hk (r0.app (r1.app r2))
     split at h
     ·rename_i as2 cl σ1 hs1 ht1
      split at h
      ·rename_i y2 σ2 hpk
       cases h
       obtain ⟨vs, q1, q2, q3⟩ := resE_ok w1 k1 hs1
       obtain ⟨Fw, f1, f2, f3⟩ := w1.st.sep
       obtain ⟨bv, G1, G2, g1, gq, g2, g3, g4, g5, g6⟩ := takeB_ok (w := w') l ht1 f1
       have r3 : RL tb η' m1 rx _ := rkIds_ok w1.le hr0 hrx
       obtain ⟨η2, e1, e2, F1, F2, e3, e4, e5, e6⟩ := pk_ok T st cn.os hpk (q1.app (g1.app r3)) g3 η
       have hlb : bv.length = cn.bk.length := by rw [g1.len, takeB_len ht1, bkIds_len hbk]
       refine ⟨vs, q2, _, rfl, η2, m1, vs, bv ++ cn.rk.map (fun j => vals[j]?.getD undef), rfl, by rw [q3]; exact hnr, e2, e1.symm, ⟨w1.st.kp, w1.st.sub, w1.st.has, w1.st.new, fun k => G1 k ∨ F1 k, ?_, ?_, ?_⟩, List.drop_left' hlb⟩
       ·rw [bkV_app _ _ _ _ hlb]
        exact Sep.app.2 ⟨G1, F1, bk_back w1.le hr0 hbk gq g2, e3, fun k a b => g4 k a (e6 k (.inl b)), fun k => Iff.rfl⟩
       ·exact fun k e => f2 k (g5 k (e.elim .inl (fun e => .inr (e6 k (.inl e)))))
       ·exact fun k e => f3 k (g5 k (e.elim .inl (fun e => .inr (e6 k (.inl e)))))
      ·cases h
     ·cases h
    ·cases h
   ·cases h
  refine codeE_ok (bs := bs) (n := ⟨fn.ntmps, none, [], []⟩) T C (pt := 0) (np := 0) (ps := []) (fun _ h => by cases h) hm (bodyOf fn) [] (by simp only [cAt]) _ _ _ y _ w _ [] hEx ?_ ⟨?_, ?_, ?_, ?_⟩
  ·exact ⟨η, m, by simpa using argS_ok 0 hr0, hl0, Le.refl _, St.start has hs0 hd, gl⟩
  ·intro s' κ' w' e hx hrl
   obtain ⟨vs, h1, h2⟩ := post e hrl
   exact endC vs h1 h2
  ·intro id s' κ' w' e hx hrl
   cases e
  ·intro s' κ' w' e hx hrl J p' k' hc
   obtain ⟨vs, h1, h2⟩ := post e hrl
   refine retC vs ?_ h1 h2
   unfold isRet; rw [hc]
  ·intro l' s' κ' w' e
   cases e
 ·cases hEx
theorem fnP_ok (T : TabOk tb) (C : ∀ cn ∈ cs, ConOk P tb cn) (hm : P.follows .mixedOrders = true) {np : Nat} {pt : TypeId} {ps : List (ConP np tb.T)} (D : ∀ cn ∈ ps, ConPOk P tb pt cn) {cn : ConP np tb.T} {fn : Func} (hf : P.funcs[cn.f]? = some fn) (hb : fn.body.isSome = true) (hcall : ∀ args w, (callFunc cn.f args).run P w = .ok (.enter cn.f args) w)
  (hn : ∀ x, Nat.ble (up tb 0 cn.ar x 0).1.length fn.ntmps = true) (hnr : fn.results.toList.length = cn.nr) (hE : ∀ x, fnP tb P cs an pt ps fn cn.ar cn.os cn.bk cn.rk x = cn.F x) : ConPOk P tb pt cn := by
 intro st x yo hy η m w F vals hr hlen has gl hs hd
 obtain ⟨j, j1, j2, j3⟩ := upsh T st 0 cn.ar x 0 0
 obtain ⟨k1, k2⟩ := j3 η η (fun _ _ e => e)
 have hr0 := k1 m vals hr
 have hs0 := k2 m w F hs
 have hl0 : η.length = (up tb 0 cn.ar x 0).2.2 := by omega
 have hN := hn x
 refine ⟨hcall _ _, ?_⟩
 have hEx := hE x
 rw [hy] at hEx
 unfold fnP at hEx
 generalize up tb 0 cn.ar x 0 = u at hEx hr0 hs0 hl0 hN
 obtain ⟨as, σ, c⟩ := u
 simp only at hEx hr0 hs0 hl0 hN
 split at hEx
 ·rename_i l rx hbk hrx
  refine callsR hf hb (by simpa [hr0.len] using hN) ?_
  let bs : Bs := ⟨w, F, m, η⟩
  have post : ∀ {y : cn.os.ty tb.T} {s' : S tb.T} {κ' : Kn} {w' : World}, retV tb P fn.results.toList l rx cn.os s' = some y → Rl tb bs s' κ' w' → ∃ vs, ResOk P κ' w' fn.results.toList vs ∧ ∃ v, Ending.returned (packV vs) = .returned v ∧ ∃ (η2 : List Value) (m' : Mem) (rv bv : List Value), v = packV rv ∧ rv.length = cn.nr ∧ RL tb (η ++ η2) m' (up tb st cn.os y η.length).1 (rv ++ bv) ∧ (η ++ η2).length = (up tb st cn.os y η.length).2.2 ∧
     St w F m m' (bkV vals cn.bk bv ++ its tb (η ++ η2) (up tb st cn.os y η.length).2.1) w' ∧ bv.drop cn.bk.length = cn.rk.map (fun j => vals[j]?.getD undef) := by
   intro y s' κ' w' h hrl
   unfold retV at h
   obtain ⟨η', m', hk, hw⟩ := hrl.ex
   split at h
   ·rename_i as0 cl0 σ00 hs0 ht0
    split at h
    ·rename_i as1 s1 hpr
     obtain ⟨vs0, r0, _⟩ := resE_ok hw hk hs0
     obtain ⟨F00, f00, _⟩ := hw.st.sep
     obtain ⟨bv0, _, _, r1, _⟩ := takeB_ok (w := w') l ht0 f00
     have r2 : RL tb η' m' rx _ := rkIds_ok hw.le hr0 hrx
     obtain ⟨x1, m1, x2, k1, w1, _⟩ := prepF_ok T cn.os 20 hpr hw hk (r0.app (r1.app r2))
     split at h
     ·rename_i as2 cl σ1 hs1 ht1
      split at h
      ·rename_i y2 σ2 hpk
       cases h
       obtain ⟨vs, q1, q2, q3⟩ := resE_ok w1 k1 hs1
       obtain ⟨Fw, f1, f2, f3⟩ := w1.st.sep
       obtain ⟨bv, G1, G2, g1, gq, g2, g3, g4, g5, g6⟩ := takeB_ok (w := w') l ht1 f1
       have r3 : RL tb η' m1 rx _ := rkIds_ok w1.le hr0 hrx
       obtain ⟨η2, e1, e2, F1, F2, e3, e4, e5, e6⟩ := pk_ok T st cn.os hpk (q1.app (g1.app r3)) g3 η
       have hlb : bv.length = cn.bk.length := by rw [g1.len, takeB_len ht1, bkIds_len hbk]
       refine ⟨vs, q2, _, rfl, η2, m1, vs, bv ++ cn.rk.map (fun j => vals[j]?.getD undef), rfl, by rw [q3]; exact hnr, e2, e1.symm, ⟨w1.st.kp, w1.st.sub, w1.st.has, w1.st.new, fun k => G1 k ∨ F1 k, ?_, ?_, ?_⟩, List.drop_left' hlb⟩
       ·rw [bkV_app _ _ _ _ hlb]
        exact Sep.app.2 ⟨G1, F1, bk_back w1.le hr0 hbk gq g2, e3, fun k a b => g4 k a (e6 k (.inl b)), fun k => Iff.rfl⟩
       ·exact fun k e => f2 k (g5 k (e.elim .inl (fun e => .inr (e6 k (.inl e)))))
       ·exact fun k e => f3 k (g5 k (e.elim .inl (fun e => .inr (e6 k (.inl e)))))
      ·cases h
     ·cases h
    ·cases h
   ·cases h
  refine codeE_ok (bs := bs) (n := ⟨fn.ntmps, none, [], []⟩) T C D hm (bodyOf fn) [] (by simp only [cAt]) _ _ _ yo _ w _ [] hEx ?_ ⟨?_, ?_, ?_, ?_⟩
  ·exact ⟨η, m, by simpa using argS_ok 0 hr0, hl0, Le.refl _, St.start has hs0 hd, gl⟩
  ·intro s' κ' w' e hx hrl
   obtain ⟨y, e2, rfl⟩ := map_some e
   obtain ⟨vs, h1, h2⟩ := post e2 hrl
   exact endC vs h1 (.inl ⟨y, rfl, h2⟩)
  ·intro id s' κ' w' e hx hrl
   cases e
  ·intro s' κ' w' e hx hrl J p' k' hc
   obtain ⟨y, e2, rfl⟩ := map_some e
   obtain ⟨vs, h1, h2⟩ := post e2 hrl
   refine retC vs ?_ h1 (.inl ⟨y, rfl, h2⟩)
   unfold isRet; rw [hc]
  ·intro l' s' κ' w' e hx hrl a' hd'
   obtain ⟨q, e2, rfl⟩ := map_some e
   have e3 := Pay.of_list e2
   subst e3
   show LeavesInM (Fr none) 0 P fn a'.tmps _ a'.defers (.panicking (pnV pt (Pay.list np q))) w'
   rw [hd'.defers]
   obtain ⟨η', m', _, hrw⟩ := hrl.ex
   exact .inr ⟨q, rfl, rfl, m', by simpa using hrw.st.takeN 0⟩
 ·cases hEx
end
end Go.Proofs.YtkleajhiihbefaaGreatDoor.K.E
set_option linter.unusedVariables false
set_option linter.unusedSimpArgs false
set_option linter.unusedSectionVars false
namespace Go.Proofs.YtkleajhiihbefaaGreatDoor.K
open Go Go.RowKit
section
variable {P : Program} {B : Code} {Q : Exit → Act → World → Prop} {J : Nat → Act → World → Prop} {p : List Nat} {i : Nat} {k : List It} {κ : Kn} {w : World}
theorem deferR {N : Nat} {df : List Deferred} {c : Call} {o : Oper} {d : Deferred} (ho : (opsAt B p)[i]? = some o) (hop : o.op = .defer c) (hg : o.guard = none) (hd : dok o.dst N = true)
  (hr : ∀ a, Ag ⟨N, none, [], df⟩ κ a → (resolve a.eval c o.type).run P w = .ok d w) (hk : R P B Q J ⟨N, none, [], d :: df⟩ (.op p (i + 1) :: k) (putk o.dst undef κ) w) : R P B Q J ⟨N, none, [], df⟩ (.op p i :: k) κ w := by
 intro a ha
 refine R_op_next ho fun K hK => ?_
 have hw : Region.wanted o (yielded (opsAt B p) a.tmps) = true := by simp [Region.wanted, hg]
 rw [if_pos hw]
 refine ⟨fun _ _ => trivial, ?_⟩
 have h0 : (o.semAt (Fr none).round a.eval).run P w = .ok (.defer d) w := by
  simp [Oper.semAt, Fr, execOp, hop, hr a ha]
 rw [h0, Oper.uponIn_defer]
 have h1 : Ag ⟨N, none, [], d :: df⟩ κ { a with defers := d :: a.defers } := ⟨by show d :: a.defers = _; rw [ha.defers]; rfl, ha.size, ha.get⟩
 exact hK _ _ (hk _ (h1.put _ hd _))
theorem leave1 {fn : Func} {tmps : Array Value} {Rp : Ending → World → Prop} {u : FrameMode} {d : Deferred} {fv : Fn} {cap : Array Value} {f : FuncId} {args : Array Value} (hu : u ≠ .run) (ht : d.target = .fn fv cap) (hi : (invoke d.target d.args).run P w = .ok (.enter f args) w)
  (hc : CallsDIn (Fr none) 0 P f args u w fun e u' w' => e = .returned (.tuple #[]) ∧ LeavesInM (Fr none) 0 P fn tmps Rp [] (settle u') w') : LeavesInM (Fr none) 0 P fn tmps Rp [d] u w := by
 refine ⟨hu, .inr ⟨fun h => (by cases h), fv, cap, f, args, ht, hi, fun _ _ => trivial, hc.mono ?_⟩⟩
 rintro e u' w' ⟨rfl, h⟩
 exact h
end
end Go.Proofs.YtkleajhiihbefaaGreatDoor.K
namespace Go.Proofs.YtkleajhiihbefaaGreatDoor.K
open Go Go.RowKit
section
variable {w0 : World} {F0 : Nat → Prop} {m0 m : Mem} {σ : List Item} {w : World}
theorem St.setc (H : St w0 F0 m0 m σ w) (n' : Nat) {g off : Nat} {cs : List Value} {t : TypeId} (v : Value) (hn : σ[n']? = some (blkI g cs t)) : St w0 F0 m0 m (σ.set n' (blkI g (cs.set off v) t)) (w.setCell ⟨g, off, none⟩ v) := by
 obtain ⟨F, h1, h2, h3⟩ := H.upd n' hn
 have hg := h1.1
 refine h3 _ (blkI g (cs.set off v) t) (fun k => k = g) ?_ ⟨?_, fun _ => Iff.rfl⟩ (fun k e => .inl ((h1.2 k).2 e))
 ·refine ⟨rfl, rfl, rfl, ?_, fun k hk hF => ?_, Nat.le_refl _⟩
  ·simp [World.setCell]
  ·exact heap_setCell_other _ _ _ _ (fun e => hF ((h1.2 k).2 e))
 ·rw [heap_setCell_same w g off _ _ v hg]; simp
end
end Go.Proofs.YtkleajhiihbefaaGreatDoor.K
namespace Go.Proofs.YtkleajhiihbefaaGreatDoor.K.E
open Go Go.RowKit
inductive CV where
 | nil
 | num (x : Int)
def CV.v : CV → Value
 | .nil => .slice none 0 0
 | .num x => .int .i64 x
def CV.a {T : Nat → Type} : CV → AV T
 | .nil => .nils
 | .num x => .i64 x
theorem CV.ok {tb : Tab} {η : List Value} {m : Mem} (c : CV) : R tb η m (c.a : AV tb.T) c.v := by cases c <;> rfl
structure Cat where
 f : FuncId
 k : Nat
 n : Nat
 sets : List Int → List (Nat × CV)
def setV : List (Nat × CV) → List Value → World → World
 | [], _, w => w
 | (j, c) :: r, vals, w => setV r vals (match vals[j]? with
  | some (.pointer (some a)) => w.setCell a c.v
  | _ => w)
def CellsV : List (Nat × CV) → List Value → World → Prop
 | [], _, _ => True
 | (j, _) :: r, vals, w => (∃ a x, vals[j]? = some (.pointer (some a)) ∧ w.cell? a = some x ∧ w.frozen? a = false ∧ a.block < w.heap.size ∧ ∀ jc ∈ r, ∀ b, vals[jc.1]? = some (.pointer (some b)) → b.block ≠ a.block) ∧ CellsV r vals w
structure CatOk (P : Program) (pt : TypeId) (ct : Cat) : Prop where
 call : ∀ args w, (callFunc ct.f args).run P w = .ok (.enter ct.f args) w
 idle : ∀ (vals : List Value) (w : World), vals.length = ct.k → CallsDIn (Fr none) 0 P ct.f vals.toArray .returning w fun e u' w' => e = .returned (.tuple #[]) ∧ u' = .returning ∧ w' = w
 catch_ : ∀ (l : List Int) (vals : List Value) (w : World), vals.length = ct.k → l.length = ct.n → CellsV (ct.sets l) vals w → CallsDIn (Fr none) 0 P ct.f vals.toArray (.panicking (pnV pt l)) w fun e u' w' => e = .returned (.tuple #[]) ∧ settle u' = .returning ∧ ∃ w1, K.Ex w w1 ∧ w' = setV (ct.sets l) vals w1
def apartB {T : Nat → Type} (avs : List (AV T)) (s : S T) (id : Nat) (q : Nat × CV) : Bool := match avs[q.1]? with
 | some (.ptr id' _) => match lk s.σ id' with
  | some (_, .blk _ _) => !(Nat.beq id' id)
  | _ => false
 | _ => false
def setE {T : Nat → Type} (avs : List (AV T)) : List (Nat × CV) → S T → Option (S T)
 | [], s => some s
 | (j, c) :: r, s => match avs[j]? with
  | some (.ptr id off) => match lk s.σ id with
   | some (_, .blk t cs) => cond (Nat.blt off cs.length && r.all (apartB avs s id)) (setE avs r { s with σ := sto s.σ id s.d (.blk t (cs.set off c.a)), d := s.d + 1 }) none
   | _ => none
  | _ => none
section
variable {P : Program} {tb : Tab} {cs : List (Con tb.T)} {an : List (List Nat × Ann)} {bs : Bs} {η : List Value} {m : Mem} {s : S tb.T} {w : World} {κc : Kn}
theorem blk_apart (hw : Wd tb bs η m s w) {id id' st st' t t' : Nat} {c c' : List (AV tb.T)} (h : lk s.σ id = some (st, .blk t c)) (h' : lk s.σ id' = some (st', .blk t' c')) (hn : id' ≠ id) {g g' : Nat} (hg : η[id]? = some (.pointer (some ⟨g, 0, none⟩))) (hg' : η[id']? = some (.pointer (some ⟨g', 0, none⟩))) : g' ≠ g := by
 obtain ⟨F, h1, _⟩ := hw.st.sep
 obtain ⟨F1, F2, ⟨g1, cs1, e1, _, e2⟩, h3, h4, _⟩ := Sep_lk h h1
 have h5 : lk (del s.σ id) id' = some (st', .blk t' c') := lk_del_ne hn h'
 obtain ⟨G1, G2, ⟨g2, cs2, e3, _, e4⟩, _, _, h6⟩ := Sep_lk h5 h3
 rw [hg] at e1
 rw [hg'] at e3
 cases e1
 cases e3
 rintro rfl
 exact h4 g' ((e2.2 g').2 rfl) (h6 g' (.inl ((e4.2 g').2 rfl)))
theorem CellsV.of_set {a : Addr} {v : Value} {vals : List Value} : ∀ {l : List (Nat × CV)}, (∀ jc ∈ l, ∀ b, vals[jc.1]? = some (.pointer (some b)) → b.block ≠ a.block) → CellsV l vals (w.setCell a v) → CellsV l vals w
 | [], _, _ => trivial
 | (j, c) :: r, hn, ⟨⟨b, x, h1, h2, h3, h4, h5⟩, h6⟩ => by
  have hne : b ≠ a := fun e => hn (j, c) (List.mem_cons_self ..) b h1 (by rw [e])
  refine ⟨⟨b, x, h1, ?_, ?_, ?_, h5⟩, CellsV.of_set (fun jc hm => hn jc (List.mem_cons_of_mem _ hm)) h6⟩
  ·rw [World.cell?_setCell_other (h := by first | exact hne | exact fun e => hne e.symm)] at h2; exact h2
  ·rw [World.frozen?_setCell] at h3; exact h3
  ·simpa [World.setCell] using h4
theorem setE_ok {avs : List (AV tb.T)} {vals : List Value} (hp : ∀ (j id off : Nat), avs[j]? = some (.ptr id off) → ∃ g, η[id]? = some (.pointer (some ⟨g, 0, none⟩)) ∧ vals[j]? = some (.pointer (some ⟨g, off, none⟩))) : ∀ {l : List (Nat × CV)} {s s' : S tb.T} {w : World}, setE avs l s = some s' → Wd tb bs η m s w → KR tb η m s.κ κc →
  CellsV l vals w ∧ Ext s s' ∧ KR tb η m s'.κ κc ∧ Wd tb bs η m s' (setV l vals w)
 | [], s, s', w, h, hw, hk => by
  simp only [setE, Option.some.injEq] at h
  subst h
  exact ⟨trivial, Ext.refl _, hk, hw⟩
 | (j, c) :: r, s, s', w, h, hw, hk => by
  unfold setE at h
  split at h
  ·rename_i id off hj
   split at h
   ·rename_i st t cl hl
    cases hb : (Nat.blt off cl.length && r.all (apartB avs s id)) with
    | false => rw [hb] at h; cases h
    | true =>
     rw [hb] at h
     rw [Bool.and_eq_true] at hb
     simp only [cond_true] at h
     have hlt : off < cl.length := by simpa [Nat.blt_eq] using hb.1
     obtain ⟨g, hg, hv⟩ := hp _ _ _ hj
     obtain ⟨g', vs, hg', hr, H⟩ := hw.blk hl
     rw [hg] at hg'
     cases hg'
     have hap : ∀ jc ∈ r, ∀ b, vals[jc.1]? = some (.pointer (some b)) → b.block ≠ g := by
      intro jc hm b hb2
      have h2 := List.all_eq_true.1 hb.2 jc hm
      unfold apartB at h2
      split at h2
      ·rename_i id' off' hj'
       obtain ⟨g2, hg2, hv2⟩ := hp _ _ _ hj'
       rw [hv2] at hb2
       cases hb2
       split at h2
       ·rename_i st' t' cs' hl'
        have hne : id' ≠ id := fun e => by subst e; rw [Nat.beq_refl] at h2; cases h2
        exact blk_apart hw hl hl' hne hg hg2
       ·cases h2
      ·cases h2
     have H1 := H.setc 0 (g := g) (off := off) (cs := vs) (t := t) c.v rfl
     obtain ⟨k1, k2⟩ := hw.sto hl (x := .blk t (cl.set off c.a)) (St_conv H1 (fun F hF => ⟨g, _, hg, hr.set (CV.ok c), hF⟩) (fun _ e => e))
     obtain ⟨i1, i2, i3, i4⟩ := setE_ok hp h k2 hk
     have hcell : w.heap[g]? = some (.cells vs.toArray t (0, 0)) := (H.blk 0 rfl)
     have hlen : off < vs.length := by rw [hr.len]; exact hlt
     refine ⟨⟨⟨⟨g, off, none⟩, vs[off], hv, H.cellB 0 rfl (List.getElem?_eq_getElem hlen), ?_, blk_lt hcell, hap⟩, CellsV.of_set hap i1⟩, k1.trans i2, i3, ?_⟩
     ·simp [World.frozen?, hcell]
     ·simp only [setV, hv]
      exact i4
   ·cases h
  ·cases h
end
section
variable (P : Program) (tb : Tab) (cs : List (Con tb.T)) (an : List (List Nat × Ann)) {ρ : Type}
noncomputable def defS (f : FuncId) (nt : Nat) (ops : Array Oper) : List Oper → S tb.T → (List (AV tb.T) → S tb.T → Option ρ) → Option ρ
 | [], _, _ => none
 | [o], s, K => match o.guard, o.op with
  | none, .defer c => match c.callee with
   | .value f' => match evA s.κ f', evL (evA s.κ) c.args.toList with
    | some (.fn g l cap), some as => cond (Nat.beq g f && dok o.dst nt) (K (l ++ as ++ cap) (s.put o.dst undA)) none
    | _, _ => none
   | _ => none
  | _, _ => none
 | o :: o2 :: r, s, K => stepE P tb cs nt ops o s (fun s => defS f nt ops (o2 :: r) s K)
noncomputable def fnD (pt : TypeId) {np : Nat} (ps : List (ConP np tb.T)) (ct : Cat) (fn : Func) (ar os : Sh) (bk : List (Nat × TypeId)) (rk : List Nat) (x : ar.ty tb.T) : Option (os.ty tb.T) := match up tb 0 ar x 0 with
 | (as, σ, c) => match bkIds as bk, rkIds as rk with
  | some bs, some rx => match bodyOf fn with
   | .seq A (.seq (.region _ ops false) C) => codeE tb P cs an 0 (np := 0) [] fn.ntmps A [0] (os.ty tb.T) (fun e s => match e with
    | .normal => defS P tb cs ct.f fn.ntmps ops ops.toList s fun avs s => cond (Nat.beq avs.length ct.k) (codeE tb P cs an pt ps fn.ntmps C [1, 1] (os.ty tb.T) (fun e s => match e with
     | .exit _ => none
     | .pan l => cond (Nat.beq l.length ct.n) (match setE avs (ct.sets l) s with
      | some s => retV tb P fn.results.toList bs rx os s
      | none => none) none
     | _ => retV tb P fn.results.toList bs rx os s) s) none
    | _ => none) { κ := argS as 0, σ := σ, c := c, d := 1 }
   | _ => none
  | _, _ => none
end
theorem evL_known {tb : Tab} {η : List Value} {m : Mem} {s : S tb.T} {κc : Kn} (hk : KR tb η m s.κ κc) : ∀ {l : List Operand} {as : List (AV tb.T)}, evL (evA s.κ) l = some as → ∀ z ∈ l, (K.ev κc z).isSome = true
 | [], as, h, z, hz => by cases hz
 | x :: r, as, h, z, hz => by
  simp only [evL] at h
  cases h1 : evA s.κ x with
  | none => rw [h1] at h; cases h
  | some a =>
   rw [h1] at h
   simp only at h
   cases h2 : evL (evA s.κ) r with
   | none => rw [h2] at h; cases h
   | some l' =>
    rcases List.mem_cons.1 hz with rfl | hz
    ·exact hk.known h1
    ·exact evL_known hk h2 z hz
section
variable {P : Program} {tb : Tab} {cs : List (Con tb.T)} {an : List (List Nat × Ann)} {bs : Bs} {B : Code} {Q : Exit → Act → World → Prop} [NPc Q] [NGo Q] {J : Nat → Act → World → Prop} {p : List Nat} {k : List It} {ops : Array Oper} {ρ' : Type} {ans : ρ'}
theorem defS_ok (T : TabOk tb) (C : ∀ cn ∈ cs, ConOk P tb cn) (hops : opsAt B p = ops) {f : FuncId} {N : Nat} {K : List (AV tb.T) → S tb.T → Option ρ'} {s0 : S tb.T} {η0 : List Value} (hc : ∀ (avs : List (AV tb.T)) (vals : List Value) (s' : S tb.T) (η' : List Value) (m' : Mem) (κ' : Kn) (w' : World) (l cap : Array Value), K avs s' = some ans → Ext s0 s' → Le η0 η' → RL tb η' m' avs vals → l ++ cap = vals.toArray →
   KR tb η' m' s'.κ κ' → Wd tb bs η' m' s' w' → RR P B Q J ⟨N, none, [], [⟨.fn (.func f) cap, l⟩]⟩ k κ' w') : ∀ (l : List Oper) (i : Nat), ops.toList.drop i = l → ∀ {s : S tb.T} {η : List Value} {m : Mem} {κc : Kn} {w : World}, Ext s0 s → Le η0 η → defS P tb cs f N ops l s K = some ans → KR tb η m s.κ κc → Wd tb bs η m s w →
  RR P B Q J ⟨N, none, [], []⟩ (.op p i :: k) κc w
 | [], i, hl, s, η, m, κc, w, x0, le0, h, hk, hw => by cases h
 | [o], i, hl, s, η, m, κc, w, x0, le0, h, hk, hw => by
  have hi : ops[i]? = some o := by
   have h1 : (ops.toList.drop i)[0]? = some o := by rw [hl]; rfl
   rw [List.getElem?_drop] at h1
   simpa using h1
  have hn : ops[i + 1]? = none := by
   have h1 : (ops.toList.drop i)[1]? = none := by rw [hl]; rfl
   rw [List.getElem?_drop] at h1
   simpa using h1
  unfold defS at h
  split at h
  ·rename_i c hg ho
   split at h
   ·rename_i f' hcal
    split at h
    ·rename_i g l cap as hf has
     cases hb : (Nat.beq g f && dok o.dst N) with
     | false => rw [hb] at h; cases h
     | true =>
      rw [hb] at h
      rw [Bool.and_eq_true] at hb
      have := beq_t hb.1
      subst this
      simp only [cond_true] at h
      obtain ⟨xs, ys, e1, e2, e3⟩ := hk.ev _ _ hf
      have e4 := evL_ok hk.ev has
      refine deferR (d := ⟨.fn (.func g) ys.toArray, (xs ++ c.args.toList.map (evT κc)).toArray⟩) (by rw [hops]; exact hi) ho hg hb.2 (fun a ha => ?_) (nxt_end (n := ⟨N, none, [], _⟩) hops hn (X := fun κ' w' => KR tb η m (s.put o.dst undA).κ κ' ∧ Wd tb bs η m (s.put o.dst undA) w') ?_ ⟨?_, hw.put _ _⟩)
      ·have q1 : a.eval f' = .func (.func g) xs.toArray ys.toArray := by rw [ha.evT (hk.known hf)]; exact e1
       have q2 : c.args.map a.eval = (c.args.toList.map (evT κc)).toArray := by
        have : ∀ z ∈ c.args.toList, a.eval z = evT κc z := fun z hz => ha.evT (evL_known hk has z hz)
        have h3 : c.args.toList.map a.eval = c.args.toList.map (evT κc) := List.map_congr_left this
        rw [← h3]
        apply Array.ext'
        simp
       simp [resolve, hcal, q1, q2, Deferred.ofValue]
      ·rintro κ' w' ⟨h1, h2⟩
       exact hc _ (xs ++ c.args.toList.map (evT κc) ++ ys) _ η m κ' w' _ _ h (x0.trans (Ext.put _ _ _)) le0 ((e2.app e4).app e3) (by simp) h1 h2
      ·exact KR.put hk _ rfl
    ·cases h
   ·cases h
  ·cases h
 | o :: o2 :: l, i, hl, s, η, m, κc, w, x0, le0, h, hk, hw => by
  have hi : ops[i]? = some o := by
   have h1 : (ops.toList.drop i)[0]? = some o := by rw [hl]; rfl
   rw [List.getElem?_drop] at h1
   simpa using h1
  have hl2 : ops.toList.drop (i + 1) = o2 :: l := by
   rw [← List.drop_drop, hl]; rfl
  have go : ∀ κ' w', Nxt tb bs η m s (fun s => defS P tb cs f N ops (o2 :: l) s K) ans κ' w' → RR P B Q J ⟨N, none, [], []⟩ (.op p (i + 1) :: k) κ' w' := by
   rintro κ' w' ⟨s', η', m', h1, h2, h3, h4, h5, h6⟩
   exact defS_ok T C hops hc (o2 :: l) (i + 1) hl2 (x0.trans h2) (le0.trans h3) h1 h5 h6
  have h : stepE P tb cs N ops o s (fun s => defS P tb cs f N ops (o2 :: l) s K) = some ans := h
  rcases stepE_ok (n := ⟨N, none, [], []⟩) T C hops hi h hk hw with ⟨h1, h2, h3⟩ | ⟨h1, h2, h3⟩
  ·exact st (Step.imp h3 go)
  ·have hs : stp P B ⟨N, none, [], []⟩ (.op p i :: k) κc = some (.op p (i + 1) :: k, putk o.dst undef κc) := by
    simp only [stp, hops, hi, h1, h2, cond_true]
   exact stp_sound hs (go _ _ h3)
end
section
variable {P : Program} {tb : Tab} {cs : List (Con tb.T)} {an : List (List Nat × Ann)}
theorem fnD_ok (T : TabOk tb) (C : ∀ cn ∈ cs, ConOk P tb cn) (hm : P.follows .mixedOrders = true) {pt : TypeId} {np : Nat} {ps : List (ConP np tb.T)} (D : ∀ cn ∈ ps, ConPOk P tb pt cn) {ct : Cat} (hct : CatOk P pt ct) {cn : Con tb.T} {fn : Func} (hf : P.funcs[cn.f]? = some fn) (hb : fn.body.isSome = true) (hcall : ∀ args w, (callFunc cn.f args).run P w = .ok (.enter cn.f args) w)
  (hn : ∀ x, Nat.ble (up tb 0 cn.ar x 0).1.length fn.ntmps = true) (hnr : fn.results.toList.length = cn.nr) (hE : ∀ x, fnD P tb cs an pt ps ct fn cn.ar cn.os cn.bk cn.rk x = cn.F x) : ConOk P tb cn := by
 intro st x y hy η m w F vals hr hlen has gl hs hd
 obtain ⟨j, j1, j2, j3⟩ := upsh T st 0 cn.ar x 0 0
 obtain ⟨k1, k2⟩ := j3 η η (fun _ _ e => e)
 have hr0 := k1 m vals hr
 have hs0 := k2 m w F hs
 have hl0 : η.length = (up tb 0 cn.ar x 0).2.2 := by omega
 have hN := hn x
 refine .inl ⟨hcall _ _, ?_⟩
 have hEx := hE x
 rw [hy] at hEx
 unfold fnD at hEx
 generalize up tb 0 cn.ar x 0 = u at hEx hr0 hs0 hl0 hN
 obtain ⟨as, σ, c⟩ := u
 simp only at hEx hr0 hs0 hl0 hN
 split at hEx
 ·rename_i l rx hbk hrx
  split at hEx
  ·rename_i A ids ops Cc hbody
   refine callsR hf hb (by simpa [hr0.len] using hN) ?_
   have post : ∀ {η1 : List Value} (hle : Le η η1) {s' : S tb.T} {κ' : Kn} {w' : World}, retV tb P fn.results.toList l rx cn.os s' = some y → Rl tb ⟨w, F, m, η1⟩ s' κ' w' → ∃ vs, ResOk P κ' w' fn.results.toList vs ∧ ∃ v, Ending.returned (packV vs) = .returned v ∧ ∃ (η2 : List Value) (m' : Mem) (rv bv : List Value), v = packV rv ∧ rv.length = cn.nr ∧ RL tb (η ++ η2) m' (up tb st cn.os y η.length).1 (rv ++ bv) ∧ (η ++ η2).length = (up tb st cn.os y η.length).2.2 ∧
     St w F m m' (bkV vals cn.bk bv ++ its tb (η ++ η2) (up tb st cn.os y η.length).2.1) w' ∧ bv.drop cn.bk.length = cn.rk.map (fun j => vals[j]?.getD undef) := by
    intro η1 hle s' κ' w' h hrl
    unfold retV at h
    obtain ⟨η', m', hk, hw⟩ := hrl.ex
    split at h
    ·rename_i as0 cl0 σ00 hs0 ht0
     split at h
     ·rename_i as1 s1 hpr
      obtain ⟨vs0, r0, _⟩ := resE_ok hw hk hs0
      obtain ⟨F00, f00, _⟩ := hw.st.sep
      obtain ⟨bv0, _, _, r1, _⟩ := takeB_ok (w := w') l ht0 f00
      have r2 : RL tb η' m' rx _ := rkIds_ok (hle.trans hw.le) hr0 hrx
      obtain ⟨x1, m1, x2, k1, w1, _⟩ := prepF_ok T cn.os 20 hpr hw hk (r0.app (r1.app r2))
      split at h
      ·rename_i as2 cl σ1 hs1 ht1
       split at h
       ·rename_i y2 σ2 hpk
        cases h
        obtain ⟨vs, q1, q2, q3⟩ := resE_ok w1 k1 hs1
        obtain ⟨Fw, f1, f2, f3⟩ := w1.st.sep
        obtain ⟨bv, G1, G2, g1, gq, g2, g3, g4, g5, g6⟩ := takeB_ok (w := w') l ht1 f1
        have r3 : RL tb η' m1 rx _ := rkIds_ok (hle.trans w1.le) hr0 hrx
        obtain ⟨η2, e1, e2, F1, F2, e3, e4, e5, e6⟩ := pk_ok T st cn.os hpk (q1.app (g1.app r3)) g3 η
        have hlb : bv.length = cn.bk.length := by rw [g1.len, takeB_len ht1, bkIds_len hbk]
        refine ⟨vs, q2, _, rfl, η2, m1, vs, bv ++ cn.rk.map (fun j => vals[j]?.getD undef), rfl, by rw [q3]; exact hnr, e2, e1.symm, ⟨w1.st.kp, w1.st.sub, w1.st.has, w1.st.new, fun k => G1 k ∨ F1 k, ?_, ?_, ?_⟩, List.drop_left' hlb⟩
        ·rw [bkV_app _ _ _ _ hlb]
         exact Sep.app.2 ⟨G1, F1, bk_back (hle.trans w1.le) hr0 hbk gq g2, e3, fun k a b => g4 k a (e6 k (.inl b)), fun k => Iff.rfl⟩
        ·exact fun k e => f2 k (g5 k (e.elim .inl (fun e => .inr (e6 k (.inl e)))))
        ·exact fun k e => f3 k (g5 k (e.elim .inl (fun e => .inr (e6 k (.inl e)))))
       ·cases h
      ·cases h
     ·cases h
    ·cases h
   have s1 : stp P (bodyOf fn) ⟨fn.ntmps, none, [], []⟩ [.co []] (argK vals.toArray.toList 0) = some ([.co [0], .co [1]], argK vals.toArray.toList 0) := by simp only [stp, hbody, cAt, List.nil_append]
   refine stp_sound s1 ?_
   let bs : Bs := ⟨w, F, m, η⟩
   refine codeE_ok (bs := bs) (n := ⟨fn.ntmps, none, [], []⟩) T C (pt := 0) (np := 0) (ps := []) (fun _ h => by cases h) hm A [0] (by rw [hbody]; simp only [cAt]) _ _ _ y _ w (fun _ _ _ => False) _ hEx ?_ ⟨?_, ?_, ?_, ?_⟩
   ·exact ⟨η, m, by simpa using argS_ok 0 hr0, hl0, Le.refl _, St.start has hs0 hd, gl⟩
   ·intro s' κ' w' e hx hrl
    simp only at e
    have s2 : stp P (bodyOf fn) ⟨fn.ntmps, none, [], []⟩ [.co [1]] κ' = some ([.co [1, 0], .co [1, 1]], κ') := by simp only [stp, hbody, cAt]; rfl
    have s3 : stp P (bodyOf fn) ⟨fn.ntmps, none, [], []⟩ [.co [1, 0], .co [1, 1]] κ' = some ([.op [1, 0] 0, .co [1, 1]], κ') := by simp only [stp, hbody, cAt]
    refine stp_sound s2 (stp_sound s3 ?_)
    obtain ⟨η', m', hk, hw⟩ := hrl.ex
    refine defS_ok (bs := bs) T C (ops := ops) (by simp [opsAt, hbody, cAt]) (f := ct.f) (N := fn.ntmps) (s0 := s') (η0 := η') ?_ ops.toList 0 rfl (Ext.refl _) (Le.refl _) e hk hw
    intro avs dv s2 η2 m2 κ2 w2 dl dcap e2 x2 le2 hra hdv hk2 hw2
    cases hkl : Nat.beq avs.length ct.k with
    | false => rw [hkl] at e2; cases e2
    | true =>
     rw [hkl] at e2
     simp only [cond_true] at e2
     have hkl2 : dv.length = ct.k := by rw [hra.len]; exact beq_t hkl
     have hcat : ∀ w0, (invoke (.fn (.func ct.f) dcap) dl).run P w0 = .ok (.enter ct.f dv.toArray) w0 := fun w0 => by
      show (callFunc ct.f (dl ++ dcap)).run P w0 = _
      rw [hdv]; exact hct.call _ _
     have leη : Le η η2 := hw2.le
     have post2 : ∀ {s' : S tb.T} {κ' : Kn} {w' : World}, retV tb P fn.results.toList l rx cn.os s' = some y → Rl tb ⟨w, F, m, η2⟩ s' κ' w' → _ := fun h h' => post leη h h'
     have fin : ∀ {s' : S tb.T} {κ' : Kn} {w' : World} {a' : Act}, retV tb P fn.results.toList l rx cn.os s' = some y → Rl tb ⟨w, F, m, η2⟩ s' κ' w' → Ag ⟨fn.ntmps, none, [], [⟨.fn (.func ct.f) dcap, dl⟩]⟩ κ' a' → LeavesInM (Fr none) 0 P fn a'.tmps (fun e w' => ∃ v, e = .returned v ∧ ∃ (η2 : List Value) (m' : Mem) (rv bv : List Value), v = packV rv ∧ rv.length = cn.nr ∧ RL tb (η ++ η2) m' (up tb st cn.os y η.length).1 (rv ++ bv) ∧ (η ++ η2).length = (up tb st cn.os y η.length).2.2 ∧
     St w F m m' (bkV vals cn.bk bv ++ its tb (η ++ η2) (up tb st cn.os y η.length).2.1) w' ∧ bv.drop cn.bk.length = cn.rk.map (fun j => vals[j]?.getD undef)) [] .returning w' := by
      intro s' κ' w' a' h h' ha
      obtain ⟨vs, h1, h2⟩ := post2 h h'
      exact leavesM (ds := []) ⟨_, resultsC_run ha h1, h2⟩
     have fin2 : ∀ {s' : S tb.T} {κ' : Kn} {w' : World} {a' : Act}, retV tb P fn.results.toList l rx cn.os s' = some y → Rl tb ⟨w, F, m, η2⟩ s' κ' w' → Ag ⟨fn.ntmps, none, [], [⟨.fn (.func ct.f) dcap, dl⟩]⟩ κ' a' → LeavesInM (Fr none) 0 P fn a'.tmps (fun e w' => ∃ v, e = .returned v ∧ ∃ (η2 : List Value) (m' : Mem) (rv bv : List Value), v = packV rv ∧ rv.length = cn.nr ∧ RL tb (η ++ η2) m' (up tb st cn.os y η.length).1 (rv ++ bv) ∧ (η ++ η2).length = (up tb st cn.os y η.length).2.2 ∧
     St w F m m' (bkV vals cn.bk bv ++ its tb (η ++ η2) (up tb st cn.os y η.length).2.1) w' ∧ bv.drop cn.bk.length = cn.rk.map (fun j => vals[j]?.getD undef)) a'.defers .returning w' := by
      intro s' κ' w' a' h h' ha
      rw [ha.defers]
      refine leave1 (d := ⟨.fn (.func ct.f) dcap, dl⟩) (by simp) rfl (hcat w') ((hct.idle dv w' hkl2).mono ?_)
      rintro e u' w3 ⟨rfl, rfl, rfl⟩
      exact ⟨rfl, fin h h' ha⟩
     refine codeE_ok (bs := ⟨w, F, m, η2⟩) (n := ⟨fn.ntmps, none, [], [⟨.fn (.func ct.f) dcap, dl⟩]⟩) T C D hm Cc [1, 1] (by rw [hbody]; simp only [cAt]) _ _ _ y _ w2 _ [] e2 ?_ ⟨?_, ?_, ?_, ?_⟩
     ·exact ⟨η2, m2, hk2, hw2.len, Le.refl _, hw2.st, hw2.gl⟩
     ·intro s3 κ3 w3 e3 x3 hr3 a3 ha3
      exact fin2 e3 hr3 ha3
     ·intro id s3 κ3 w3 e3 x3 hr3
      cases e3
     ·intro s3 κ3 w3 e3 x3 hr3 J p' k' hc a3 ha3
      show Hd P (bodyOf fn) none _ J (.co p' :: k') .normal a3 w3
      simp only [Hd, Exit.then]
      rw [hc]
      refine wpIn_ret (Hd_ret a3 w3 ?_ k')
      exact fin2 e3 hr3 ha3
     ·intro l' s3 κ3 w3 e3 x3 hr3 a3 ha3
      show LeavesInM (Fr none) 0 P fn a3.tmps _ a3.defers (.panicking (pnV pt l')) w3
      rw [ha3.defers]
      simp only at e3
      cases hln : Nat.beq l'.length ct.n with
      | false => rw [hln] at e3; cases e3
      | true =>
      rw [hln] at e3
      simp only [cond_true] at e3
      split at e3
      ·rename_i s4 hs4
       obtain ⟨η3, m3, hk3, hw3⟩ := hr3.ex
       have hp : ∀ (j id off : Nat), avs[j]? = some (.ptr id off) → ∃ g, η3[id]? = some (.pointer (some ⟨g, 0, none⟩)) ∧ dv[j]? = some (.pointer (some ⟨g, off, none⟩)) := by
        intro j id off hj
        obtain ⟨u, hu, g, q1, q2⟩ := hra.get hj
        exact ⟨g, hw3.le _ _ q1, by rw [hu, q2]⟩
       obtain ⟨c1, _, _, _⟩ := setE_ok (bs := ⟨w, F, m, η2⟩) hp hs4 hw3 hk3
       refine leave1 (d := ⟨.fn (.func ct.f) dcap, dl⟩) (by simp) rfl (hcat w3) ((hct.catch_ l' dv w3 hkl2 (beq_t hln) c1).mono ?_)
       rintro e u' w4 ⟨rfl, hset, w5, hex, rfl⟩
       refine ⟨rfl, ?_⟩
       rw [hset]
       have hw5 : Wd tb ⟨w, F, m, η2⟩ η3 m3 s3 w5 := ⟨hw3.len, hw3.le, hw3.st.ex hex, hw3.gl⟩
       obtain ⟨_, _, c3, c4⟩ := setE_ok hp hs4 hw5 hk3
       exact fin e3 ⟨η3, m3, c3, c4⟩ ha3
      ·cases e3
   ·intro id s' κ' w' e hx hrl
    cases e
   ·intro s' κ' w' e hx hrl
    cases e
   ·intro l' s' κ' w' e
    cases e
  ·cases hEx
 ·cases hEx
end
end Go.Proofs.YtkleajhiihbefaaGreatDoor.K.E
