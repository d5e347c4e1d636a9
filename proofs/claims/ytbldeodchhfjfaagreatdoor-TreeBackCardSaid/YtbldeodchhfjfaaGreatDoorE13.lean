/- E, part 13: regions that draw their order. -/
import Derived.Test.YtbldeodchhfjfaaGreatDoorE12
set_option linter.unusedVariables false
set_option linter.unusedSimpArgs false
set_option linter.unusedSectionVars false
namespace Go.Proofs.YtbldeodchhfjfaaGreatDoor.K.E
open Go Go.RowKit

noncomputable def forkL {ρ : Type} : List (Option ρ) → Option ρ
  | [] => none
  | [x] => x
  | x :: y :: r => fork x (forkL (y :: r))
theorem forkL_mem {ρ : Type} {a : ρ} : ∀ {l : List (Option ρ)}, forkL l = some a → ∀ x ∈ l, x = some a
  | [], h, _, _ => by cases h
  | [x], h, y, hy => by rw [List.mem_singleton] at hy; subst hy; exact h
  | x :: y :: r, h, z, hz => by
    simp only [forkL] at h
    obtain ⟨h1, h2⟩ := fork_some h
    rcases List.mem_cons.1 hz with rfl | hz
    · exact h1
    · exact forkL_mem h2 z hz

def statO (ops : Array Oper) : Bool := Region.noSelect ops && ((List.range ops.size).all fun i => (List.range ops.size).all fun j => Nat.beq j i || match ops[i]?, ops[j]? with
  | some oi, some oj => edgeTo oj i || edgeTo oi j || oi.apart ops oj
  | _, _ => true)
/-! ### Blocks that nothing turns while a region is carried out -/
abbrev Lk := List (Nat × TypeId × Nat)
def lock1 {T : Nat → Type} (id : Nat) (s : S T) : Option (S T × (Nat × TypeId × Nat)) := match lk s.σ id with
  | some (st, .blk t c) => some ({ s with σ := (id, st, .kep t c s.c) :: del s.σ id, c := s.c + 1 }, (id, t, s.c))
  | _ => none
def lockA {T : Nat → Type} : List Nat → S T → Option (S T × Lk)
  | [], s => some (s, [])
  | id :: r, s => match lock1 id s with
    | some (s, x) => match lockA r s with
      | some (s, l) => some (s, x :: l)
      | none => none
    | none => none
def unlock1 {T : Nat → Type} (id : Nat) (s : S T) : S T := match lk s.σ id with
  | some (st, .kep t c _) => { s with σ := (id, st, .blk t c) :: del s.σ id }
  | _ => s
def unlockA {T : Nat → Type} : List Nat → S T → S T
  | [], s => s
  | id :: r, s => unlock1 id (unlockA r s)
def lockedB {T : Nat → Type} (L : Lk) (s : S T) : Bool := L.all fun x => match lk s.σ x.1 with
  | some (_, .kep t _ j) => Nat.beq t x.2.1 && Nat.beq j x.2.2
  | _ => false
/-- What holds as long as they are. -/
def SK (η : List Value) (m : Mem) (L : Lk) (w : World) : Prop := Has m w ∧ ∀ x ∈ L, ∀ (g : Nat) (cs : List Value), η[x.1]? = some (.pointer (some ⟨g, 0, none⟩)) → η[x.2.2]? = some (.agg cs.toArray) → w.heap[g]? = some (.cells cs.toArray x.2.1 (0, 0))
section
variable {tb : Tab} {bs : Bs} {η η' : List Value} {m m' : Mem} {s s' : S tb.T} {w : World} {κc : Kn}
theorem SK.mono {L : Lk} (hη : Le η η') (hm : Sub m m') (h : SK η' m' L w) : SK η m L w := ⟨h.1.sub hm, fun x hx g cs h1 h2 => h.2 x hx g cs (hη _ _ h1) (hη _ _ h2)⟩
theorem locked_ok {L : Lk} (h : lockedB L s = true) (hw : Wd tb bs η m s w) : SK η m L w := by
  refine ⟨hw.st.has, fun x hx g cs h1 h2 => ?_⟩
  have h3 := List.all_eq_true.1 h x hx
  split at h3
  · rename_i st t c j hl
    rw [Bool.and_eq_true] at h3
    obtain ⟨g', cs', ⟨e1, e2⟩, _, H⟩ := hw.kep hl
    rw [h1] at e1
    cases e1
    rw [beq_t h3.2, h2] at e2
    have e3 : cs = cs' := by
      have := Option.some.inj e2
      simpa using this
    subst e3
    rw [← beq_t h3.1]
    exact H.blk 0 rfl
  · cases h3
theorem lock1_ok {id : Nat} {x : Nat × TypeId × Nat} (h : lock1 id s = some (s', x)) (hw : Wd tb bs η m s w) (hk : KR tb η m s.κ κc) : ∃ η', Le η η' ∧ Wd tb bs η' m s' w ∧ KR tb η' m s'.κ κc ∧ ∀ s'', Ext s' s'' → Ext s (unlock1 id s'') := by
  unfold lock1 at h
  split at h
  · rename_i st t c hl
    simp only [Option.some.injEq, Prod.mk.injEq] at h
    obtain ⟨rfl, rfl⟩ := h
    obtain ⟨g, cs, h1, h2, H⟩ := hw.blk hl
    refine ⟨η ++ [.agg cs.toArray], Le.app _ _, ⟨by rw [List.length_append, hw.len]; rfl, hw.le.trans (Le.app _ _), ?_, hw.gl⟩, hk.mono (Le.app _ _) (Sub.refl _), ?_⟩
    · exact St_conv H (fun F hF => ⟨g, cs, ⟨Le.app _ _ _ _ h1, at_new hw _⟩, RL.mono (Le.app _ _) (Sub.refl _) c h2, hF⟩) (fun F hF => its_le (Le.app _ _) _ hF)
    · intro s'' hx
      have hσ : ∀ t' st' v', lk s''.σ t' = some (st', v') → st' < s.d → (t' = id ∧ st' = st ∧ v' = .kep t c s.c) ∨ (t' ≠ id ∧ lk s.σ t' = some (st', v')) := by
        intro t' st' v' e l
        have := hx.σ t' st' v' e l
        simp only [lk] at this
        cases hb : Nat.beq id t' with
        | true => rw [hb] at this; have hb := beq_t hb; subst hb; cases this; exact .inl ⟨rfl, rfl, rfl⟩
        | false => rw [hb] at this; exact .inr ⟨(beq_ne hb).symm, (lk_del this).2⟩
      have hc : s.c ≤ s''.c := Nat.le_trans (Nat.le_succ _) hx.c
      unfold unlock1
      split
      · rename_i st2 t2 c2 j2 hl2
        refine ⟨hc, hx.d, hx.κ, fun t' st' v' e l => ?_⟩
        simp only [lk] at e
        cases hb : Nat.beq id t' with
        | true =>
          rw [hb] at e
          have hb := beq_t hb
          subst hb
          cases e
          rcases hσ _ _ _ hl2 l with ⟨_, rfl, e2⟩ | ⟨e2, _⟩
          · cases e2; exact hl
          · exact absurd rfl e2
        | false =>
          rw [hb] at e
          rcases hσ _ _ _ (lk_del e).2 l with ⟨e2, _⟩ | ⟨_, e2⟩
          · exact absurd e2.symm (beq_ne hb)
          · exact e2
      · rename_i hne
        refine ⟨hc, hx.d, hx.κ, fun t' st' v' e l => ?_⟩
        rcases hσ _ _ _ e l with ⟨rfl, rfl, rfl⟩ | ⟨_, e2⟩
        · exact absurd e (hne _ _ _ _)
        · exact e2
  · cases h
theorem unlock1_ok (id : Nat) (hw : Wd tb bs η m s w) (hk : KR tb η m s.κ κc) : Wd tb bs η m (unlock1 id s) w ∧ KR tb η m (unlock1 id s).κ κc := by
  unfold unlock1
  split
  · rename_i st t c j hl
    obtain ⟨g, cs, ⟨h1, _⟩, h2, H⟩ := hw.kep hl
    exact ⟨⟨hw.len, hw.le, St_conv H (fun F hF => ⟨g, cs, h1, h2, hF⟩) (fun _ e => e), hw.gl⟩, hk⟩
  · exact ⟨hw, hk⟩
theorem unlockA_ok : ∀ (l : List Nat) {s : S tb.T}, Wd tb bs η m s w → KR tb η m s.κ κc → Wd tb bs η m (unlockA l s) w ∧ KR tb η m (unlockA l s).κ κc
  | [], s, hw, hk => ⟨hw, hk⟩
  | id :: r, s, hw, hk => let ⟨h1, h2⟩ := unlockA_ok r hw hk; unlock1_ok id h1 h2
theorem lockA_ok : ∀ (l : List Nat) {s s' : S tb.T} {η : List Value} {L : Lk}, lockA l s = some (s', L) → Wd tb bs η m s w → KR tb η m s.κ κc → ∃ η', Le η η' ∧ Wd tb bs η' m s' w ∧ KR tb η' m s'.κ κc ∧ ∀ s'', Ext s' s'' → Ext s (unlockA l s'')
  | [], s, s', η, L, h, hw, hk => by
    simp only [lockA, Option.some.injEq, Prod.mk.injEq] at h
    obtain ⟨rfl, rfl⟩ := h
    exact ⟨η, Le.refl _, hw, hk, fun _ hx => hx⟩
  | id :: r, s, s', η, L, h, hw, hk => by
    simp only [lockA] at h
    split at h
    · rename_i s1 x h1
      split at h
      · rename_i s2 l h2
        cases h
        obtain ⟨η1, e1, e2, e3, e4⟩ := lock1_ok h1 hw hk
        obtain ⟨η2, k1, k2, k3, k4⟩ := lockA_ok r h2 e2 e3
        exact ⟨η2, e1.trans k1, k2, k3, fun s'' hx => e4 _ (k4 s'' hx)⟩
      · cases h
    · cases h
end
section
variable (P : Program) (tb : Tab) (cs : List (Con tb.T)) {ρ : Type}
/-- It leaves memory as it is, and asks nothing of what is owned. -/
def loadK (L : Lk) (t : TypeId) (a : AV tb.T) (s : S tb.T) : Option (AV tb.T) := match a with
  | .ptr id off => match lk s.σ id with
    | some (_, .kep e c j) => cond (L.any fun x => Nat.beq x.1 id && (Nat.beq x.2.1 e && Nat.beq x.2.2 j)) (getC P tb t c off) none
    | _ => none
  | _ => none
def opQ (L : Lk) (o : Oper) (s : S tb.T) (k : AV tb.T → Option ρ) : Option ρ := match o.op with
  | .load t x => match evA s.κ x with
    | some a => match loadK P tb L t a s with
      | some v => k v
      | none => opB P tb (evA s.κ) o k
    | none => none
  | _ => opB P tb (evA s.κ) o k
def quietE (s : S tb.T) (o : Oper) : Bool := match o.op with
  | .alloc _ => false
  | .box _ _ => false
  | .buildSlice _ _ _ => false
  | .makeSlice _ _ _ => false
  | .store _ _ _ => false
  | .load _ x => match evA s.κ x with
    | some (.ptr id _) => match lk s.σ id with
      | some (_, .kep _ _ _) => true
      | _ => false
    | some a => !memA a
    | none => false
  | .indexAddr _ x _ => match evA s.κ x with
    | some a => !(memA a || isCells a)
    | none => false
  | .slice _ x _ _ none => match evA s.κ x with
    | some a => !memA a
    | none => false
  | .convert _ d x => match evA s.κ x with
    | some a => !(memA a || (isStrA a && (slcE P d).isSome))
    | none => false
  | .call c => match c.callee with
    | .builtin .append => false
    | .builtin .len => match evL (evA s.κ) c.args.toList with
      | some [a] => !memA a
      | _ => false
    | .builtin _ => true
    | _ => false
  | _ => true
def firstQ (ops : Array Oper) (s : S tb.T) : List Nat → Option Nat
  | [] => none
  | i :: r => match ops[i]? with
    | some o => cond (!isGen P tb o s && quietE P tb s o) (some i) (firstQ ops s r)
    | none => firstQ ops s r
/-- Is the operation wanted, for all that is known? -/
def guardT (ops : Array Oper) (o : Oper) (s : S tb.T) : Bool := match o.guard with
  | none => true
  | some (j, want) => match ops[j]? with
    | none => false
    | some oj => match oj.dst with
      | none => false
      | some d => match lk s.κ d with
        | some (_, .bool b) => cond want b (!b)
        | _ => false
noncomputable def drawE (nt : Nat) (ops : Array Oper) (stat : Bool) (L : Lk) : Nat → List Nat → S tb.T → (S tb.T → Option ρ) → Option ρ
  | 0, _, _, _ => none
  | f + 1, done, s, K => cond (lockedB L s) (match rdyL ops done with
    | [] => K s
    | i :: rs => cond (Nat.blt done.length ops.size) (match cond stat (firstQ P tb ops s (i :: rs)) none with
      | some j => match ops[j]? with
        | some o => guardE tb ops o s (fun s => cond (fitE tb nt o s) (opQ P tb L o s (fun v => drawE nt ops stat L f (done ++ [j]) (s.put o.dst v) K)) none) (fun s => cond (dok o.dst nt) (drawE nt ops stat L f (done ++ [j]) (s.put o.dst undA) K) none)
        | none => none
      | none => match rs with
        | [] => match ops[i]? with
          | some o => stepE P tb cs nt ops o s (fun s => drawE nt ops stat L f (done ++ [i]) s K)
          | none => none
        | _ => forkL ((i :: rs).map fun j => match ops[j]? with
          | some o => cond (guardT tb ops o s) (stepE P tb cs nt ops o s (fun s => drawE nt ops stat L f (done ++ [j]) s K)) none
          | none => none)) none) none
end
section
variable {P : Program} {tb : Tab} {cs : List (Con tb.T)} {bs : Bs} {η : List Value} {m : Mem} {s : S tb.T} {w : World} {κc : Kn} {B : Code} {n : Cx} {p : List Nat} {i : Nat} {o : Oper} {ρ' : Type} {ans : ρ'} {Q : Exit → Act → World → Prop} [NPc Q] {J : Nat → Act → World → Prop} {k : List It} {ops : Array Oper}
omit [NPc Q] in
theorem wpAnyH_mono {S S' : World → Prop} (hS : ∀ w, S' w → S w) {ops : Array Oper} : ∀ (f : Nat) (l : Array Bool) (a : Act) (w : World), wpAnyH P .any ops Q S' f l a w → wpAnyH P .any ops Q S f l a w
  | 0, _, _, _, h => h
  | f + 1, l, a, w, h => ⟨h.1, fun i hi => wpOp_mono (fun a' w' h' => ⟨hS _ h'.1, wpAnyH_mono hS f _ a' w' h'.2⟩) (h.2 i hi)⟩
omit [NPc Q] in
theorem D_mono {S S' : World → Prop} {done : List Nat} (hS : ∀ w, S' w → S w) (h : D P B Q J n p k S' done κc w) : D P B Q J n p k S done κc w :=
  ⟨hS _ h.1, fun a ha => wpAnyH_mono hS _ _ _ _ (h.2 a ha)⟩
/-- One that is not wanted. -/
theorem skipD {S : World → Prop} {done : List Nat} (hr : (rdyL (opsAt B p) done == [i] && Nat.blt done.length (opsAt B p).size) = true) (ho : (opsAt B p)[i]? = some o) (hw : wants κc (opsAt B p) o = some false) (hd : dok o.dst n.n = true) (hS : S w)
    (h : D P B Q J n p k S (done ++ [i]) (putk o.dst undef κc) w) : D P B Q J n p k S done κc w := by
  simp only [Bool.and_eq_true, beq_iff_eq] at hr
  refine ⟨hS, fun a ha => ?_⟩
  have hlt : done.length < (opsAt B p).size := by simpa [Nat.blt_eq] using hr.2
  obtain ⟨f, hf⟩ : ∃ f, (opsAt B p).size - done.length = f + 1 := ⟨(opsAt B p).size - done.length - 1, by omega⟩
  rw [hf]
  refine wpAnyH_all (show Region.ready .any (opsAt B p) (listedOf (opsAt B p).size done) = [i] from by rw [rdy_eq]; exact hr.1) (by simp) ?_
  intro j hj
  rw [List.mem_singleton] at hj
  subst hj
  unfold wpOp
  rw [ho]
  simp only [wants_sound ha hw, Bool.false_eq_true, if_false]
  have := h.2 (a.put o.dst undef) (ha.put _ hd _)
  rw [listedOf_snoc, List.length_append, List.length_singleton, show (opsAt B p).size - (done.length + 1) = f by omega] at this
  exact ⟨hS, this⟩
omit [NPc Q] in
theorem firstQ_ok : ∀ {l : List Nat} {j : Nat}, firstQ P tb ops s l = some j → j ∈ l
  | [], _, h => by cases h
  | i :: r, j, h => by
    simp only [firstQ] at h
    split at h
    · rename_i o _
      cases hq : (!isGen P tb o s && quietE P tb s o) with
      | true => rw [hq] at h; cases h; exact List.mem_cons_self ..
      | false => rw [hq] at h; exact List.mem_cons_of_mem _ (firstQ_ok h)
    · exact List.mem_cons_of_mem _ (firstQ_ok h)
omit [NPc Q] in
theorem allL_of {Q : Nat → Prop} : ∀ {l : List Nat}, (∀ i ∈ l, Q i) → AllL Q l
  | [], _ => trivial
  | i :: r, h => ⟨h i (List.mem_cons_self ..), allL_of fun j hj => h j (List.mem_cons_of_mem _ hj)⟩
omit [NPc Q] in
theorem opQ_ok (T : TabOk tb) {L : Lk} {k : AV tb.T → Option ρ'} (hk : KR tb η m s.κ κc) (hw : Wd tb bs η m s w) (h : opQ P tb L o s k = some ans) : ∃ v u, k v = some ans ∧ (∀ w', SK η m L w' → (execOp (evT κc) o).run P w' = .ok (.value u) w') ∧ R tb η m v u := by
  have base : opB P tb (evA s.κ) o k = some ans → ∃ v u, k v = some ans ∧ (∀ w', SK η m L w' → (execOp (evT κc) o).run P w' = .ok (.value u) w') ∧ R tb η m v u := by
    intro h
    obtain ⟨v, e1, u, e2, e3⟩ := opB_ok T hw.gl hk.ev h
    exact ⟨v, u, e1, fun w' hs => e2 w' hs.1, e3⟩
  unfold opQ at h
  split at h
  · rename_i t x ho
    split at h
    · rename_i a ha
      split at h
      · rename_i v hv
        unfold loadK at hv
        split at hv
        · rename_i id off
          split at hv
          · rename_i st e c j hl
            cases hb : (L.any fun x => Nat.beq x.1 id && (Nat.beq x.2.1 e && Nat.beq x.2.2 j)) with
            | false => rw [hb] at hv; cases hv
            | true =>
              rw [hb] at hv
              obtain ⟨y, hy, hyy⟩ := List.any_eq_true.1 hb
              simp only [Bool.and_eq_true] at hyy
              obtain ⟨g, cs, ⟨h1, h2⟩, h3, H⟩ := hw.kep hl
              obtain ⟨g', e1, e2⟩ := hk.ev _ _ ha
              rw [h1] at e1
              cases e1
              obtain ⟨u, q1, q2⟩ := getC_all (P := P) (ad := ⟨g, 0, none⟩) hv h3
              refine ⟨v, u, h, fun w' hs => ?_, q2⟩
              rw [exec_load ho, e2]
              have hcell := hs.2 y hy g cs (by rw [beq_t hyy.1]; exact h1) (by rw [beq_t hyy.2.2]; exact h2)
              have := q1 w' (fun i u hi => by rw [Addr.add_lit, Nat.zero_add]; exact blk_cell hcell (by simpa using hi))
              rw [Addr.add_lit, Nat.zero_add] at this
              exact this
          · cases hv
        · cases hv
      · exact base h
    · cases h
  · exact base h
theorem guardT_ok (hk : KR tb η m s.κ κc) (h : guardT tb ops o s = true) : wants κc ops o = some true := by
  unfold guardT at h
  unfold wants
  cases hg : o.guard with
  | none => rfl
  | some g =>
    obtain ⟨j, want⟩ := g
    rw [hg] at h
    simp only at h ⊢
    cases hj : ops[j]? with
    | none => rw [hj] at h; cases h
    | some oj =>
      rw [hj] at h
      simp only at h ⊢
      cases hd : oj.dst with
      | none => rw [hd] at h; cases h
      | some d =>
        rw [hd] at h
        simp only at h ⊢
        split at h
        · rename_i st b hl
          obtain ⟨u, e1, e2⟩ := hk _ _ _ hl
          have e2 : u = .bool b := e2
          subst e2
          rw [e1]
          cases want <;> cases b <;> first | rfl | cases h
        · cases h
theorem drawE_ok (T : TabOk tb) (C : ∀ cn ∈ cs, ConOk P tb cn) (hops : opsAt B p = ops) {stat : Bool} (hst : stat = true → statB B p = true) (L : Lk) : ∀ (f : Nat) (done : List Nat) {s : S tb.T} {η : List Value} {m : Mem} {κc : Kn} {w : World} {K : S tb.T → Option ρ'}, drawE P tb cs n.n ops stat L f done s K = some ans → KR tb η m s.κ κc → Wd tb bs η m s w →
    (∀ κ' w', Nxt tb bs η m s K ans κ' w' → RR P B Q J n k κ' w') → D P B Q J n p k (SK η m L) done κc w
  | 0, done, s, η, m, κc, w, K, h, hk, hw, hc => by cases h
  | f + 1, done, s, η, m, κc, w, K, h, hk, hw, hc => by
    have ih := fun (done : List Nat) {s' : S tb.T} {η' : List Value} {m' : Mem} {κ' : Kn} {w' : World} (h : drawE P tb cs n.n ops stat L f done s' K = some ans) (h2 : Ext s s') (h3 : Le η η') (h4 : Sub m m') (hk : KR tb η' m' s'.κ κ') (hw : Wd tb bs η' m' s' w') =>
      D_mono (fun _ e => SK.mono h3 h4 e) (drawE_ok T C hops hst L f done h hk hw (by
        rintro κ2 w2 ⟨s2, η2, m2, k1, k2, k3, k4, k5⟩
        exact hc κ2 w2 ⟨s2, η2, m2, k1, h2.trans k2, h3.trans k3, h4.trans k4, k5⟩))
    simp only [drawE] at h
    cases hlb : lockedB L s with
    | false => rw [hlb] at h; cases h
    | true =>
    rw [hlb] at h
    simp only [cond_true] at h
    have hsk := locked_ok hlb hw
    split at h
    · rename_i hr
      refine endD2 ?_ hsk (hc κc w ⟨s, η, m, h, Ext.refl _, Le.refl _, Sub.refl _, hk, hw⟩)
      rw [hops, hr]; rfl
    · rename_i i rs hr
      cases hb : Nat.blt done.length ops.size with
      | false => rw [hb] at h; cases h
      | true =>
        rw [hb] at h
        simp only [cond_true] at h
        split at h
        · rename_i j hj
          cases stat with
          | false => cases hj
          | true =>
            simp only [cond_true] at hj
            have hmem := firstQ_ok hj
            rw [← hr] at hmem
            have hrd : rdy1 ops done j = true := (List.mem_filter.1 hmem).2
            split at h
            · rename_i o ho
              obtain ⟨s1, hx1, hk1, hw1, h⟩ := guardE_ok hk hw h
              rcases h with ⟨h1, h2⟩ | ⟨h1, h2⟩
              · cases hf : fitE tb n.n o s1 with
                | false => rw [hf] at h2; cases h2
                | true =>
                  rw [hf] at h2
                  have fo := fitE_ok (i := j) hk1 hops ho h1 hf
                  obtain ⟨v, u, e1, e2, e3⟩ := opQ_ok T hk1 hw1 h2
                  refine takeD2 (hst rfl) (by rw [rdyB, hops, hrd, hb]; rfl) fo (fun w' hw' => e2 w' hw') ?_
                  exact ih _ e1 (hx1.trans (Ext.put _ _ _)) (Le.refl _) (Sub.refl _) (KR.put hk1 o.dst e3) (hw1.put _ _)
              · cases hd : dok o.dst n.n with
                | false => rw [hd] at h2; cases h2
                | true =>
                  rw [hd] at h2
                  refine takeD0 (free_of_stat (hst rfl) (by rw [hops]; exact hrd) (by rw [hops]; exact hb)) (by rw [hops]; exact ho) (fun a ha => .inr ⟨?_, rfl⟩) hd (ih _ h2 (hx1.trans (Ext.put _ _ _)) (Le.refl _) (Sub.refl _) (KR.put hk1 o.dst (v := undA) rfl) (hw1.put _ _))
                  rw [hops]; exact wants_sound ha h1
            · cases h
        · split at h
          · split at h
            · rename_i o ho
              have hr1 : (rdyL (opsAt B p) done == [i] && Nat.blt done.length (opsAt B p).size) = true := by
                rw [hops, hr, hb]; simp
              rcases stepE_ok T C hops ho h hk hw with ⟨h1, h2, h3⟩ | ⟨h1, h2, s', η', m', g1, g2, g3, g4, g5, g6⟩
              · refine stD2 hr1 hsk (Step.imp h3 ?_)
                rintro κ' w' ⟨s', η', m', g1, g2, g3, g4, g5, g6⟩
                exact ih _ g1 g2 g3 g4 g5 g6
              · exact skipD hr1 (by rw [hops]; exact ho) (by rw [hops]; exact h1) h2 hsk (ih _ g1 g2 g3 g4 g5 g6)
            · cases h
          · rename_i hne
            refine allD2 (i :: rs) (by rw [hops, hr, hb]; simp) hsk (allL_of fun j hj => ?_)
            have h1 := forkL_mem h _ (List.mem_map_of_mem hj)
            split at h1
            · rename_i o ho
              cases hg : guardT tb ops o s with
              | false => rw [hg] at h1; cases h1
              | true =>
                rw [hg] at h1
                simp only [cond_true] at h1
                have hwt : wants κc ops o = some true := guardT_ok hk hg
                rcases stepE_ok T C hops ho h1 hk hw with ⟨_, h2, h3⟩ | ⟨h2, _⟩
                · refine Step.imp h3 ?_
                  rintro κ' w' ⟨s', η', m', g1, g2, g3, g4, g5, g6⟩
                  exact ih _ g1 g2 g3 g4 g5 g6
                · rw [hwt] at h2; cases h2
            · cases h1
end
end Go.Proofs.YtbldeodchhfjfaaGreatDoor.K.E
