/- Memory of one's own, part 4: a range over a function; rounds. -/
import Derived.Test.YtbldeodchhfjfaaGreatDoorM2
set_option linter.unusedVariables false
set_option linter.unusedSimpArgs false
set_option linter.unusedSectionVars false
namespace Go.Proofs.YtbldeodchhfjfaaGreatDoor.K
open Go Go.RowKit

/-! ### Items of items -/
def bigI (its : List Item) : Item where
  P m w F := Sep m w its F
  loc h hk := Sep.loc h hk
  mono hs h := Sep.mono hs h
  dom h := Sep.dom h
def exI {β : Type} (f : β → Item) : Item where
  P m w F := ∃ b, (f b).P m w F
  loc := fun ⟨b, h⟩ hk => ⟨b, (f b).loc h hk⟩
  mono hs := fun ⟨b, h⟩ => ⟨b, (f b).mono hs h⟩
  dom := fun ⟨b, h⟩ => (f b).dom h
/-- Nothing owned, but a fact. -/
def facI (p : Prop) : Item where
  P _ _ F := p ∧ ∀ k, ¬ F k
  loc h _ := h
  mono _ h := h
  dom h k hk := (h.2 k hk).elim
def slI {α : Type} (r : Rep α) (A : Option Addr) (c : Nat) (l : List α) : Item where
  P m _ F := SlI r m A c l ∧ ∀ k, ¬ F k
  loc h _ := h
  mono hs h := ⟨h.1.mono hs, h.2⟩
  dom h k hk := (h.2 k hk).elim
section
variable {w0 : World} {F0 : Nat → Prop} {m0 m : Mem} {σ τ : List Item} {w w1 : World}
theorem St.sepr (H : St w0 F0 m0 m σ w) (h : ∀ F, Sep m w σ F → Sep m w τ F) : St w0 F0 m0 m τ w := by
  obtain ⟨F, h1, h2⟩ := H.sep
  exact ⟨H.kp, H.sub, H.has, H.new, F, h F h1, h2⟩
theorem St.big (its : List Item) (H : St w0 F0 m0 m (its ++ σ) w) : St w0 F0 m0 m (bigI its :: σ) w := H.sepr fun F h => Sep.app.1 h
theorem St.unbig {its : List Item} (H : St w0 F0 m0 m (bigI its :: σ) w) : St w0 F0 m0 m (its ++ σ) w := H.sepr fun F h => Sep.app.2 h
theorem St.exi {β : Type} {f : β → Item} (b : β) (H : St w0 F0 m0 m (f b :: σ) w) : St w0 F0 m0 m (exI f :: σ) w :=
  H.sepr fun F ⟨F1, F2, h1, h2⟩ => ⟨F1, F2, ⟨b, h1⟩, h2⟩
theorem St.unex {β : Type} {f : β → Item} (H : St w0 F0 m0 m (exI f :: σ) w) : ∃ b, St w0 F0 m0 m (f b :: σ) w := by
  obtain ⟨F, ⟨F1, F2, ⟨b, h1⟩, h2⟩, h3⟩ := H.sep
  exact ⟨b, H.kp, H.sub, H.has, H.new, F, ⟨F1, F2, h1, h2⟩, h3⟩
theorem St.swap (H : St w0 F0 m0 m (σ ++ τ) w) : St w0 F0 m0 m (τ ++ σ) w := H.sepr fun F h => by
  obtain ⟨F1, F2, h1, h2, h3, h4⟩ := Sep.app.1 h
  exact Sep.app.2 ⟨F2, F1, h2, h1, fun k a b => h3 k b a, fun k => (h4 k).trans Or.comm⟩
theorem St.obj {g : Nat} {o : Obj} (H : St w0 F0 m0 m (objI g o :: σ) w) : w.heap[g]? = some o := by
  obtain ⟨F, h1, _⟩ := H.upd 0 rfl
  exact h1.1
theorem kp_putObj (w : World) (g : Nat) (o : Obj) : Kp (fun k => k = g) w (w.putObj g o) :=
  ⟨rfl, rfl, rfl, by simp, fun k _ hk => World.putObj_heap_other hk, Nat.le_refl _⟩
theorem St.putObj {g : Nat} {o : Obj} (o' : Obj) (H : St w0 F0 m0 m (objI g o :: σ) w) : St w0 F0 m0 m (objI g o' :: σ) (w.putObj g o') := by
  obtain ⟨F, h1, h2, h3⟩ := H.upd 0 rfl
  exact h3 _ (objI g o') (fun k => k = g) ((kp_putObj w g o').mono (fun k _ e => (h1.2 k).2 e)) ⟨World.putObj_heap_same (blk_lt h1.1), fun k => Iff.rfl⟩ (fun k e => .inl ((h1.2 k).2 e))
theorem ex_allocO (w : World) (o : Obj) : Ex w (w.alloc o) := ⟨rfl, rfl, rfl, by simp, fun k hk _ => Below.heap_alloc w o k hk, Nat.le_refl _⟩
theorem St.allocO (H : St w0 F0 m0 m σ w) (o : Obj) : St w0 F0 m0 m (objI w.heap.size o :: σ) (w.alloc o) :=
  H.add (ex_allocO w o) (j := objI w.heap.size o) (G := fun k => k = w.heap.size) ⟨World.alloc_heap_new w o, fun k => Iff.rfl⟩ (fun k e => by omega)
/-- A mark is taken up. -/
theorem St.mark {D : Nat} (H : St w0 F0 m0 m (objI D (.deferred (some [])) :: σ) w) : w.heap[D]? = some (.deferred (some [])) ∧ St w0 F0 m0 m σ (w.putObj D (.deferred none)) :=
  ⟨H.obj, (H.putObj _).drop0⟩
end

/-! ### Rounds -/
/-- What a loop's body promises the function that is ranged over. -/
def Yld {α σs ρs : Type} (P : Program) (l : Nat) (m : Mem) (im : Mem → Array Value → α → Prop) (X : σs → Item) (Y : ρs → Item) (bd : σs → α → Option (Sum σs ρs)) : Prop :=
  ∀ (s : σs) (x : α) (y : Sum σs ρs) (args : Array Value) (m1 : Mem) (W : World) (F : Nat → Prop), Sub m m1 → Has m1 W → im m1 args x → Sep m1 W [X s] F → (∀ k, F k → m1 k = none) → bd s x = some y →
    ∃ fn tmps assign body, (Instr.yield l args).run P W = .ok (.round l fn tmps assign body) W ∧
      RoundIn (Fr none) 0 P l fn tmps assign body W fun e W' => ∃ m2, e = .returned (.bool y.isLeft) ∧ St W F m1 m2 [Sum.elim X Y y] W'
theorem Yld.sub {α σs ρs : Type} {P : Program} {l : Nat} {m m' : Mem} {im : Mem → Array Value → α → Prop} {X : σs → Item} {Y : ρs → Item} {bd : σs → α → Option (Sum σs ρs)} (h : Yld P l m im X Y bd) (hs : Sub m m') : Yld P l m' im X Y bd :=
  fun s x y args m1 W F h1 => h s x y args m1 W F (hs.trans h1)
def callSem (v : Value) (args : Array Value) (t : TypeId) : Sem Next := .pure .skip

section
variable {P : Program} {B : Code} {n : Cx} {p : List Nat} {i : Nat} {κ : Kn} {w : World} {Z : Kn → World → Prop} {w0 : World} {F0 : Nat → Prop} {m0 m m1 : Mem} {σ : List Item}
/-- A call of yield. -/
theorem yldS {α σs ρs : Type} {im : Mem → Array Value → α → Prop} {X : σs → Item} {Y : ρs → Item} {bd : σs → α → Option (Sum σs ρs)} (d : Option Nat) (l : Nat) (args : Array Value) (s : σs) (x : α) (y : Sum σs ρs)
    (hY : Yld P l m im X Y bd) (H : St w0 F0 m0 m1 (X s :: σ) w) (hsub : Sub m m1) (him : im m1 args x) (hbd : bd s x = some y) (ho : fetch B n p i κ = some (d, Instr.yield l args))
    (hk : ∀ m2 w1, Sub m1 m2 → St w0 F0 m0 m2 (Sum.elim X Y y :: σ) w1 → Z (putk d (.bool y.isLeft) κ) w1) : StepIn P B n p i κ w Z := by
  intro Q K hK a ha
  obtain ⟨o, ho', hnd, rfl, hd, he⟩ := fetch_spec ho
  obtain ⟨h1, h2⟩ := he a ha
  refine ⟨o, ho', h1, fun _ _ => trivial, ?_⟩
  rw [Oper.semAt_eq _ _ _ (noDefer_ne hnd), h2]
  obtain ⟨F, hs, hF, hcl⟩ := St.call [X s] (σ := σ) H
  obtain ⟨fn, tmps, assign, body, hy, hR⟩ := hY s x y args m1 w F hsub H.has him hs hF hbd
  rw [hy]
  refine ⟨fun e => (by cases e), ?_⟩
  have hR' : RoundIn (Fr n.ro) 0 P l fn tmps assign body w fun e W' => ∃ m2, e = .returned (.bool y.isLeft) ∧ St w F m1 m2 [Sum.elim X Y y] W' := hR
  refine hR'.mono ?_
  rintro e W' ⟨m2, rfl, hS⟩
  exact hK _ _ _ (hk m2 W' hS.sub (hcl _ _ _ hS)) (ha.put _ hd _)
end

/-- The slots of a round. -/
def setK : List Nat → List Value → Kn → Kn
  | p :: ps, v :: vs, κ => setK ps vs ((p, v) :: κ)
  | _, _, κ => κ
theorem Ag.setK {N : Nat} {ro : Option Nat} : ∀ {ps : List Nat} {vs : List Value} {κ : Kn} {t : Array Value}, Ag ⟨N, ro, [], []⟩ κ { tmps := t, defers := [] } → ps.all (fun p => Nat.blt p N) = true →
    Ag ⟨N, ro, [], []⟩ (K.setK ps vs κ) { tmps := (ps.zip vs).foldl (fun t (p, v) => t.setIfInBounds p v) t, defers := [] }
  | [], vs, κ, t, h, _ => by simpa [K.setK] using h
  | p :: ps, [], κ, t, h, _ => by simpa [K.setK] using h
  | p :: ps, v :: vs, κ, t, h, hp => by
    simp only [List.all_cons, Bool.and_eq_true] at hp
    have := h.put (some p) (show dok (some p) N = true from hp.1) v
    simp only [K.setK, List.zip_cons_cons, List.foldl_cons]
    exact Ag.setK (ps := ps) (vs := vs) this hp.2
/-- The assignment to the loop's variables. -/
def asgQ (n : Cx) (κ : Kn) (W : World) : Exit → Act → World → Prop
  | .normal, a, w => w = W ∧ Ag n κ a
  | _, _, _ => False
/-- How a round may be left. -/
def rndQ {σs ρs β γ : Type} (W : World) (F : Nat → Prop) (m1 : Mem) (its : σs → β → List Item) (itsY : ρs → γ → List Item) (jmp : ρs → Code) (y : Sum σs ρs) : Exit → Act → World → Prop
  | .normal, _, w => ∃ s b m2, y = .inl s ∧ St W F m1 m2 (its s b) w
  | .ret, _, w => ∃ r c m2, y = .inr r ∧ jmp r = .ret ∧ St W F m1 m2 (itsY r c) w
  | .exit id, _, w => ∃ r c m2, y = .inr r ∧ jmp r = .exit id ∧ St W F m1 m2 (itsY r c) w
  | _, _, _ => False
def noJ : Nat → Act → World → Prop := fun _ _ _ => False
def isRF (B : Code) (p : List Nat) (g : Nat) (ps : List Nat) : Bool := match cAt B p with
  | .rangeFunc (.tmp g') ps' _ _ => Nat.beq g' g && (ps'.toList == ps)
  | _ => false
/-- On behind a jump that a round has left pending. -/
def RC (P : Program) (B : Code) (Q : Exit → Act → World → Prop) (J : Nat → Act → World → Prop) (n : Cx) (c : Code) (k : List It) (κ : Kn) (w : World) : Prop := ∀ a, Ag n κ a → c.wpIn (Fr n.ro) 0 P (Hd P B n.ro Q J k) a w

section
variable {P : Program} {B : Code} {Q : Exit → Act → World → Prop} {J : Nat → Act → World → Prop} {N : Nat} {ds : List Nat} {p : List Nat} {k : List It} {κ : Kn} {w : World} {w0 : World} {F0 : Nat → Prop} {m0 m : Mem} {σ : List Item}
theorem rangeR {α σs ρs β γ : Type} (its : σs → β → List Item) (itsY : ρs → γ → List Item) (jmp : ρs → Code) (bd : σs → α → Option (Sum σs ρs)) (im : Mem → Array Value → α → Prop) (ps : List Nat) (g : Nat) (gf : FuncId) (lb : Array Value) (own : List Item) (s0 : σs) (b0 : β) (r : Sum σs ρs)
    (hc : isRF B p g ps = true) (hps : ps.all (fun q => Nat.blt q N) = true) (hg : fnd κ g = some (.func (.func gf) #[] lb)) (eg : ∀ args w, (callFunc gf args).run P w = .ok (.enter gf args) w) (him : ∀ m1 args x, im m1 args x → args.size = ps.length)
    (H : St w0 F0 m0 m (its s0 b0 ++ (own ++ σ)) w)
    (hit : ∀ (l : Nat) (X : σs → Item) (Y : ρs → Item) (W : World) (F : Nat → Prop), Has m W → Yld P l m im X Y bd → Sep m W (X s0 :: own) F → (∀ k, F k → m k = none) →
      Calls P gf (#[.func (.yield l) #[] #[]] ++ lb) W fun e W' => ∃ v, e = .returned v ∧ ∃ m', St W F m m' [Sum.elim X Y r] W')
    (hround : ∀ (l : Nat) (s : σs) (b : β) (x : α) (y : Sum σs ρs) (args : Array Value) (m1 : Mem) (F : Nat → Prop) (W : World), Sub m m1 → im m1 args x → bd s x = some y → St W F m1 m1 (its s b) W →
      ∃ κ2, (∀ W', R P B (asgQ ⟨N, some l, [], []⟩ κ2 W') noJ ⟨N, some l, [], []⟩ [.co (p ++ [0])] (setK ps args.toList κ) W') ∧
        R P B (rndQ W F m1 its itsY jmp y) noJ ⟨N, some l, [], []⟩ [.co (p ++ [1])] κ2 W)
    (hdone : ∀ s b m' D w', r = .inl s → Sub m m' → St w0 F0 m0 m' (objI D (.deferred (some [])) :: (its s b ++ σ)) w' → R P B Q J ⟨N, none, D :: ds, []⟩ k κ w')
    (hstop : ∀ q c m' D w', r = .inr q → Sub m m' → St w0 F0 m0 m' (objI D (.deferred (some [])) :: (itsY q c ++ σ)) w' → RC P B Q J ⟨N, none, D :: ds, []⟩ (jmp q) k κ w') :
    R P B Q J ⟨N, none, ds, []⟩ (.co p :: k) κ w := by
  intro a ha
  obtain ⟨pa, assign, body, hc1, hc2⟩ : ∃ pa assign body, cAt B p = .rangeFunc (.tmp g) pa assign body ∧ pa.toList = ps := by
    unfold isRF at hc
    split at hc
    · rename_i g' ps' x y heq
      simp only [Bool.and_eq_true, beq_iff_eq] at hc
      have := Nat.eq_of_beq_eq_true hc.1
      subst this
      exact ⟨_, _, _, heq, hc.2⟩
    · cases hc
  simp only [Hd, Exit.then]
  rw [hc1]
  refine wpIn_rangeFunc ?_
  intro fn _
  have hag : a.eval (.tmp g) = .func (.func gf) #[] lb := ha.get _ _ hg
  obtain ⟨rec, hrec⟩ : ∃ rec : LoopState → Option Code → Loop, rec = fun st pe => { state := st, pending := pe, fn, tmps := a.tmps, params := pa, assign, body, defers := w.heap.size } := ⟨_, rfl⟩
  obtain ⟨W1, hW1⟩ : ∃ W1, (w.alloc (.deferred (some []))).alloc (.loop (rec .ready none)) = W1 := ⟨_, rfl⟩
  have H1 : St w0 F0 m0 m (objI (w.heap.size + 1) (.loop (rec .ready none)) :: objI w.heap.size (.deferred (some [])) :: (its s0 b0 ++ (own ++ σ))) W1 := by
    rw [← hW1]
    have := (H.allocO (.deferred (some []))).allocO (.loop (rec .ready none))
    rwa [World.size_alloc] at this
  obtain ⟨X, hX⟩ : ∃ X : σs → Item, X = fun s => exI fun b => bigI (objI (w.heap.size + 1) (.loop (rec .ready none)) :: objI w.heap.size (.deferred (some [])) :: its s b) := ⟨_, rfl⟩
  obtain ⟨Y, hYd⟩ : ∃ Y : ρs → Item, Y = fun q => exI fun c => bigI (objI (w.heap.size + 1) (.loop (rec .done (some (jmp q)))) :: objI w.heap.size (.deferred (some [])) :: itsY q c) := ⟨_, rfl⟩
  have H2 : St w0 F0 m0 m ((X s0 :: own) ++ σ) W1 := by
    rw [hX]
    exact St.exi b0 (St.big (objI (w.heap.size + 1) (.loop (rec .ready none)) :: objI w.heap.size (.deferred (some [])) :: its s0 b0) (σ := own ++ σ) H1)
  obtain ⟨F, hs, hF, hcl⟩ := St.call (X s0 :: own) H2
  refine ⟨w.heap.size + 1, [mkD w.heap.size], W1, { target := .fn (.func gf) lb, args := #[.func (.yield (w.heap.size + 1)) #[] #[]] }, W1, gf, #[.func (.yield (w.heap.size + 1)) #[] #[]] ++ lb, W1, ?_, ?_, fun _ _ => trivial, ?_, fun e => (by cases e), fr_calls ?_⟩
  · rw [← hW1, hrec]; exact run_enterLoop_outer _ _ _ _ _
  · simp only [resolve, hag]
    simp [go_sem]
  · simp [invoke, go_sem, eg]
  · refine (hit (w.heap.size + 1) X Y W1 F H2.has ?_ hs hF).mono ?_
    · -- one round
      intro s x y args m1 W F' hsub hhas hi hSX hF' hbd
      have Ha : St W F' m1 m1 [X s] W := St.start hhas hSX hF'
      rw [hX] at Ha
      obtain ⟨b, Hb⟩ := Ha.unex
      have Hc := Hb.unbig
      rw [List.append_nil] at Hc
      have hl := Hc.obj
      have hsz : args.size = pa.size := by rw [him _ _ _ hi, ← hc2]; simp
      have hy := run_yield (P := P) (args := args) hl (by rw [hrec]; exact hsz)
      refine ⟨fn, _, assign, body, by rw [hrec] at hy; exact hy, ?_⟩
      have hbusy := Hc.putObj (.loop { rec .ready none with state := .busy })
      obtain ⟨W2, hW2⟩ : ∃ W2, W.putObj (w.heap.size + 1) (.loop { rec .ready none with state := .busy }) = W2 := ⟨_, rfl⟩
      rw [hW2] at hbusy
      have Hd_ := St.swap (σ := [objI (w.heap.size + 1) (.loop { rec .ready none with state := .busy }), objI w.heap.size (.deferred (some []))]) (τ := its s b) hbusy
      obtain ⟨F2, hs2, hF2, hcl2⟩ := St.call (its s b) Hd_
      have He : St W2 F2 m1 m1 (its s b) W2 := St.start Hd_.has hs2 hF2
      obtain ⟨κ2, hasg, hbody⟩ := hround (w.heap.size + 1) s b x y args m1 F2 W2 hsub hi hbd He
      refine roundIn_of_wpIn trivial ?_
      have ha0 : Ag ⟨N, some (w.heap.size + 1), [], []⟩ κ { tmps := a.tmps, defers := [] } := ⟨rfl, ha.size, ha.get⟩
      have ha1 := Ag.setK (ps := ps) (vs := args.toList) ha0 hps
      have hz : (pa.zip args).foldl (fun t (p, v) => t.setIfInBounds p v) a.tmps = (ps.zip args.toList).foldl (fun t (p, v) => t.setIfInBounds p v) a.tmps := by
        rw [← hc2, ← Array.foldl_toList, Array.toList_zip]
      have h1 := hasg W _ ha1
      simp only [Hd, Exit.then, cAt_append, hc1, cAt] at h1
      rw [hz]
      refine wpIn_mono h1 ?_
      intro e a1 w1 hq
      cases e with
      | normal =>
        obtain ⟨rfl, ha2⟩ := hq
        refine ⟨W2, by rw [← hW2]; exact run_beginRound hl (by rw [hrec]), ?_⟩
        have h2 := hbody a1 ha2
        simp only [Hd, Exit.then, cAt_append, hc1, cAt] at h2
        refine wpIn_mono h2 ?_
        intro e a3 w3 hq
        have fin : ∀ (jump : Option Code) (m2 : Mem) (σ2 : List Item), St W2 F2 m1 m2 σ2 w3 →
            (Instr.endRound (w.heap.size + 1) jump).run P w3 = .ok (.bool jump.isNone) (w3.putObj (w.heap.size + 1) (.loop (rec (if jump.isNone then .ready else .done) jump))) ∧
            St w1 F' m1 m2 (objI (w.heap.size + 1) (.loop (rec (if jump.isNone then .ready else .done) jump)) :: objI w.heap.size (.deferred (some [])) :: σ2) (w3.putObj (w.heap.size + 1) (.loop (rec (if jump.isNone then .ready else .done) jump))) := by
          intro jump m2 σ2 hS
          have Hf := St.swap (hcl2 _ _ _ hS)
          have hl3 := St.obj Hf
          refine ⟨?_, Hf.putObj _⟩
          have := run_endRound (P := P) jump hl3
          rw [hrec] at this ⊢
          exact this
        cases e with
        | normal =>
          obtain ⟨s', b', m2, rfl, hS⟩ := hq
          obtain ⟨g1, g2⟩ := fin none m2 _ hS
          refine ⟨_, _, g1, m2, rfl, ?_⟩
          show St w1 F' m1 m2 [X s'] _
          rw [hX]
          refine St.exi b' (St.big (σ := []) _ ?_)
          rw [List.append_nil]
          exact g2
        | ret =>
          obtain ⟨q, c, m2, rfl, hj, hS⟩ := hq
          obtain ⟨g1, g2⟩ := fin (some .ret) m2 _ hS
          refine ⟨_, _, g1, m2, rfl, ?_⟩
          show St w1 F' m1 m2 [Y q] _
          rw [hYd]
          refine St.exi c (St.big (σ := []) _ ?_)
          rw [List.append_nil, hj]
          exact g2
        | exit id =>
          obtain ⟨q, c, m2, rfl, hj, hS⟩ := hq
          obtain ⟨g1, g2⟩ := fin (some (.exit id)) m2 _ hS
          refine ⟨_, _, g1, m2, rfl, ?_⟩
          show St w1 F' m1 m2 [Y q] _
          rw [hYd]
          refine St.exi c (St.big (σ := []) _ ?_)
          rw [List.append_nil, hj]
          exact g2
        | goto t => exact hq.elim
        | panic ch => exact hq.elim
        | outgrown => exact hq.elim
      | exit id => exact hq.elim
      | goto t => exact hq.elim
      | ret => exact hq.elim
      | panic ch => exact hq.elim
      | outgrown => exact hq.elim
    · -- behind the iterator
      rintro e W2 ⟨v, rfl, m', hS⟩
      have HS := hcl _ _ _ hS
      have ha' : ∀ D, Ag ⟨N, none, D :: ds, []⟩ κ { a with defers := [mkD D] ++ a.defers } := fun D => ⟨by rw [ha.defers]; rfl, ha.size, ha.get⟩
      cases r with
      | inl s' =>
        have HS' : St w0 F0 m0 m' (X s' :: σ) W2 := HS
        rw [hX] at HS'
        obtain ⟨b', Hb⟩ := HS'.unex
        have Hc := Hb.unbig
        have hl := St.obj Hc
        refine ⟨none, _, by have := run_endLoop (P := P) hl (by rw [hrec]; simp); rw [hrec] at this; exact this, ?_⟩
        exact hdone s' b' m' _ _ rfl hS.sub (Hc.putObj _).drop0 _ (ha' _)
      | inr q =>
        have HS' : St w0 F0 m0 m' (Y q :: σ) W2 := HS
        rw [hYd] at HS'
        obtain ⟨c', Hb⟩ := HS'.unex
        have Hc := Hb.unbig
        have hl := St.obj Hc
        refine ⟨some (jmp q), _, by have := run_endLoop (P := P) hl (by rw [hrec]; simp); rw [hrec] at this; exact this, ?_⟩
        exact hstop q c' m' _ _ rfl hS.sub (Hc.putObj _).drop0 _ (ha' _)
end
/-! ### Words, steps -/
def outS {σ : Type} : Sum σ Empty → σ
  | .inl s => s
theorem mapOut {σ : Type} {o : Option (Sum σ Empty)} {y : σ} (h : o.map outS = some y) : o = some (.inl y) := by
  obtain ⟨r, h1, h2⟩ := Option.map_eq_some_iff.1 h
  cases r with
  | inl s => rw [h1, ← h2]; rfl
  | inr q => exact q.elim
theorem mapInl {σ ρ : Type} {o : Option σ} {y : Sum σ ρ} (h : o.map Sum.inl = some y) : ∃ s, o = some s ∧ y = .inl s := by
  obtain ⟨s, h1, h2⟩ := Option.map_eq_some_iff.1 h
  exact ⟨s, h1, h2.symm⟩
theorem sumE {σ ρ α : Type} {f : σ → α} {g : ρ → α} {y : Sum σ ρ} {r : α} (h : Sum.elim f g y = r) : (∃ s, y = .inl s ∧ f s = r) ∨ ∃ q, y = .inr q ∧ g q = r := by
  cases y with
  | inl s => exact .inl ⟨s, rfl, h⟩
  | inr q => exact .inr ⟨q, rfl, h⟩
section
variable {w0 : World} {F0 : Nat → Prop} {m0 m : Mem} {σ : List Item} {w : World}
theorem St.fac {p : Prop} (hp : p) (H : St w0 F0 m0 m σ w) : St w0 F0 m0 m (facI p :: σ) w :=
  H.sepr fun F h => ⟨fun _ => False, F, ⟨hp, fun _ e => e⟩, h, fun _ e => e.elim, fun k => ⟨.inr, fun e => e.elim False.elim id⟩⟩
theorem St.unfac {p : Prop} (H : St w0 F0 m0 m (facI p :: σ) w) : p ∧ St w0 F0 m0 m σ w := by
  obtain ⟨F, h1, _⟩ := H.upd 0 rfl
  exact ⟨h1.1, H.drop0⟩
theorem St.sl {α : Type} {r : Rep α} {A : Option Addr} {c : Nat} {l : List α} (hs : SlI r m A c l) (H : St w0 F0 m0 m σ w) : St w0 F0 m0 m (slI r A c l :: σ) w :=
  H.sepr fun F h => ⟨fun _ => False, F, ⟨hs, fun _ e => e⟩, h, fun _ e => e.elim, fun k => ⟨.inr, fun e => e.elim False.elim id⟩⟩
theorem St.unsl {α : Type} {r : Rep α} {A : Option Addr} {c : Nat} {l : List α} (H : St w0 F0 m0 m (slI r A c l :: σ) w) : SlI r m A c l ∧ St w0 F0 m0 m σ w := by
  obtain ⟨F, h1, _⟩ := H.upd 0 rfl
  exact ⟨h1.1, H.drop0⟩
variable {P : Program} {B : Code} {J : Nat → Act → World → Prop} {n : Cx} {κ : Kn}
theorem rndEnd {σs ρs β γ : Type} {W : World} {F : Nat → Prop} {m1 : Mem} {its : σs → β → List Item} {itsY : ρs → γ → List Item} {jmp : ρs → Code} {y : Sum σs ρs} (s : σs) (b : β) (m2 : Mem) (hy : y = .inl s) (H : St W F m1 m2 (its s b) w) : R P B (rndQ W F m1 its itsY jmp y) J n [] κ w :=
  fun a ha => ⟨s, b, m2, hy, H⟩
theorem asgEnd : R P B (asgQ n κ w) J n [] κ w := fun a ha => ⟨rfl, ha⟩
theorem retR1 {N D : Nat} {fn : Func} {Rp : Ending → World → Prop} {p : List Nat} {k : List It} (ts : List Nat) (vs : List Value) (hc : isRet B p = true) (hr : resTs fn.results.toList = some ts)
    (hv : getL κ ts = some vs) (hm : w.heap[D]? = some (.deferred (some []))) (h : Rp (.returned (packV vs)) (w.putObj D (.deferred none))) : R P B (bodyP P fn Rp) J ⟨N, none, [D], []⟩ (.co p :: k) κ w := retM (n := ⟨N, none, [D], []⟩) ts vs hc hr hv ⟨hm, h⟩
theorem endR1 {N D : Nat} {fn : Func} {Rp : Ending → World → Prop} (ts : List Nat) (vs : List Value) (hr : resTs fn.results.toList = some ts)
    (hv : getL κ ts = some vs) (hm : w.heap[D]? = some (.deferred (some []))) (h : Rp (.returned (packV vs)) (w.putObj D (.deferred none))) : R P B (bodyP P fn Rp) J ⟨N, none, [D], []⟩ [] κ w := endM (n := ⟨N, none, [D], []⟩) ts vs hr hv ⟨hm, h⟩
end
end Go.Proofs.YtbldeodchhfjfaaGreatDoor.K
