/- E, part 15: functions by their contracts. -/
import Derived.Test.YtbldeodchhfjfaaGreatDoorE14
set_option linter.unusedVariables false
set_option linter.unusedSimpArgs false
set_option linter.unusedSectionVars false
namespace Go.Proofs.YtbldeodchhfjfaaGreatDoor.K.E
open Go Go.RowKit

def argS {T : Nat → Type} : List (AV T) → Nat → List (Nat × Nat × AV T)
  | [], _ => []
  | a :: r, i => (i, 0, a) :: argS r (i + 1)
def bkIds {T : Nat → Type} (as : List (AV T)) : List (Nat × TypeId) → Option (List (Nat × TypeId))
  | [] => some []
  | (j, t) :: bk => match as[j]? with
    | some (.ptr id _) => match bkIds as bk with
      | some l => some ((id, t) :: l)
      | none => none
    | _ => none
/-- Rows that go back. -/
def rkIds {T : Nat → Type} (as : List (AV T)) : List Nat → Option (List (AV T))
  | [] => some []
  | j :: rk => match as[j]? with
    | some (.row id) => match rkIds as rk with
      | some l => some (.row id :: l)
      | none => none
    | _ => none
section
variable (tb : Tab) (P : Program) (cs : List (Con tb.T)) (an : List (List Nat × Ann))
/-- The results, as the function has them. -/
def resE (s : S tb.T) : List ResultVar → Option (List (AV tb.T))
  | [] => some []
  | .tmp t :: r => match lk s.κ t, resE s r with
    | some (_, v), some l => some (v :: l)
    | _, _ => none
  | .cell a t :: r => match lk s.κ a, resE s r with
    | some (_, .ptr id off), some l => match lk s.σ id with
      | some (_, .blk _ cs) => match getC P tb t cs off with
        | some v => some (v :: l)
        | none => none
      | _ => none
    | _, _ => none
def retV (rs : List ResultVar) (bs : List (Nat × TypeId)) (rx : List (AV tb.T)) (os : Sh) (s : S tb.T) : Option (os.ty tb.T) := match resE tb P s rs, takeB bs s.σ with
  | some as, some (cl, _) => match prepF tb os 20 (as ++ (cl ++ rx)) s with
    | some (_, s) => match resE tb P s rs, takeB bs s.σ with
      | some as, some (cl, σ) => match pk tb os (as ++ (cl ++ rx)) σ with
        | some (x, _) => some x
        | none => none
      | _, _ => none
    | none => none
  | _, _ => none
def retE (rs : List ResultVar) (bs : List (Nat × TypeId)) (rx : List (AV tb.T)) (os : Sh) (e : Ex) (s : S tb.T) : Option (os.ty tb.T) := match e with
  | .exit _ => none
  | .pan _ => none
  | _ => retV tb P rs bs rx os s
/-- .. of a function that may panic. -/
def retP (np : Nat) (rs : List ResultVar) (bs : List (Nat × TypeId)) (rx : List (AV tb.T)) (os : Sh) (e : Ex) (s : S tb.T) : Option (Sum (Pay np) (os.ty tb.T)) := match e with
  | .exit _ => none
  | .pan l => (Pay.of np l).map .inl
  | _ => (retV tb P rs bs rx os s).map .inr
noncomputable def fnE (fn : Func) (ar os : Sh) (bk : List (Nat × TypeId)) (rk : List Nat) (x : ar.ty tb.T) : Option (os.ty tb.T) := match up tb 0 ar x 0 with
  | (as, σ, c) => match bkIds as bk, rkIds as rk with
    | some bs, some rx => codeE tb P cs an 0 (np := 0) [] fn.ntmps (bodyOf fn) [] _ (retE tb P fn.results.toList bs rx os) { κ := argS as 0, σ := σ, c := c, d := 1 }
    | _, _ => none
noncomputable def fnP (pt : TypeId) {np : Nat} (ps : List (ConP np tb.T)) (fn : Func) (ar os : Sh) (bk : List (Nat × TypeId)) (rk : List Nat) (x : ar.ty tb.T) : Option (Sum (Pay np) (os.ty tb.T)) := match up tb 0 ar x 0 with
  | (as, σ, c) => match bkIds as bk, rkIds as rk with
    | some bs, some rx => codeE tb P cs an pt ps fn.ntmps (bodyOf fn) [] _ (retP tb P np fn.results.toList bs rx os) { κ := argS as 0, σ := σ, c := c, d := 1 }
    | _, _ => none
end
section
variable {P : Program} {tb : Tab} {cs : List (Con tb.T)} {an : List (List Nat × Ann)} {bs : Bs} {η : List Value} {m : Mem} {s : S tb.T} {w : World} {κc : Kn}
theorem argS_ok : ∀ {as : List (AV tb.T)} {vs : List Value} (i : Nat), RL tb η m as vs → KR tb η m (argS as i) (argK vs i)
  | [], vs, i, h => fun _ _ _ e => by simp only [argS, lk, reduceCtorEq] at e
  | a :: r, vs, i, ⟨v, l, h1, h2, h3⟩ => by
    subst h1
    intro t st v' e
    simp only [argS, lk] at e
    simp only [argK, fnd]
    cases hb : Nat.beq i t with
    | true =>
      rw [hb] at e
      simp only [cond_true, Option.some.injEq, Prod.mk.injEq] at e
      obtain ⟨_, rfl⟩ := e
      exact ⟨v, rfl, h2⟩
    | false => rw [hb] at e; exact argS_ok (i + 1) h3 t st v' e
theorem bk_back {η' : List Value} (hη : Le η η') {as : List (AV tb.T)} {vals : List Value} {w' : World} {m' m0 : Mem} (hr : RL tb η m0 as vals) : ∀ {bk : List (Nat × TypeId)} {l : List (Nat × TypeId)}, bkIds as bk = some l → ∀ {bv : List Value} {F : Nat → Prop}, Sep m' w' (bqV η' l bv) F → Sep m' w' (bkV vals bk bv) F
  | [], l, h, bv, F, hs => by
    simp only [bkIds, Option.some.injEq] at h
    subst h
    cases bv <;> exact hs
  | (j, t) :: bk, l, h, bv, F, hs => by
    simp only [bkIds] at h
    split at h
    · rename_i id o hj
      split at h
      · rename_i l' hl
        cases h
        obtain ⟨u, hu, g, e1, e2⟩ := hr.get hj
        cases bv with
        | nil => exact hs
        | cons b bv =>
          simp only [bqV, hη _ _ e1, Option.bind_some, ptrOf] at hs
          simp only [bkV, hu, e2, Option.bind_some, ptrOf]
          cases b with
          | agg cs' =>
            obtain ⟨F1, F2, k1, k2, k3⟩ := hs
            exact ⟨F1, F2, k1, bk_back hη hr hl k2, k3⟩
          | _ => exact bk_back hη hr hl hs
      · cases h
    · cases h
theorem rkIds_ok {η' : List Value} {m m' : Mem} (hη : Le η η') {as : List (AV tb.T)} {vals : List Value} (hr : RL tb η m as vals) : ∀ {rk : List Nat} {l : List (AV tb.T)}, rkIds as rk = some l → RL tb η' m' l (rk.map fun j => vals[j]?.getD undef)
  | [], l, h => by
    simp only [rkIds, Option.some.injEq] at h
    subst h
    rfl
  | j :: rk, l, h => by
    simp only [rkIds] at h
    split at h
    · rename_i id hj
      split at h
      · rename_i l' hl
        cases h
        obtain ⟨u, hu, e1, e2⟩ := hr.get hj
        refine ⟨u, _, by rw [List.map_cons, hu]; rfl, ⟨hη _ _ e1, e2⟩, rkIds_ok hη hr hl⟩
      · cases h
    · cases h
theorem bkIds_len : ∀ {as : List (AV tb.T)} {bk l : List (Nat × TypeId)}, bkIds as bk = some l → l.length = bk.length
  | as, [], l, h => by simp only [bkIds, Option.some.injEq] at h; subst h; rfl
  | as, (j, t) :: bk, l, h => by
    simp only [bkIds] at h
    split at h
    · split at h
      · rename_i l' hl; cases h; rw [List.length_cons, List.length_cons, bkIds_len hl]
      · cases h
    · cases h
theorem takeB_len : ∀ {l : List (Nat × TypeId)} {σ σ' : Sg tb.T} {cl : List (AV tb.T)}, takeB l σ = some (cl, σ') → cl.length = l.length
  | [], σ, σ', cl, h => by simp only [takeB, Option.some.injEq, Prod.mk.injEq] at h; obtain ⟨rfl, rfl⟩ := h; rfl
  | (id, t) :: r, σ, σ', cl, h => by
    simp only [takeB] at h
    split at h
    · rename_i st t' c hl
      cases hb : Nat.beq t' t with
      | false => rw [hb] at h; cases h
      | true =>
        rw [hb] at h
        simp only [cond_true] at h
        split at h
        · rename_i l2 σ1 hr
          cases h
          rw [List.length_cons, List.length_cons, takeB_len hr]
        · cases h
    · cases h
theorem bkV_app (vs xs : List Value) : ∀ (bk : List (Nat × TypeId)) (bv : List Value), bv.length = bk.length → bkV vs bk (bv ++ xs) = bkV vs bk bv
  | [], bv, h => by
    have : bv = [] := List.eq_nil_of_length_eq_zero (by simpa using h)
    subst this
    cases xs <;> rfl
  | (j, t) :: bk, [], h => by simp at h
  | (j, t) :: bk, b :: bv, h => by
    have ih := bkV_app vs xs bk bv (by simpa using h)
    simp only [List.cons_append, bkV]
    split
    · rw [ih]
    · exact ih
theorem resE_ok (hw : Wd tb bs η m s w) (hk : KR tb η m s.κ κc) : ∀ {rs : List ResultVar} {as : List (AV tb.T)}, resE tb P s rs = some as → ∃ vs, RL tb η m as vs ∧ ResOk P κc w rs vs ∧ vs.length = rs.length
  | [], as, h => by simp only [resE, Option.some.injEq] at h; subst h; exact ⟨[], rfl, trivial, rfl⟩
  | .tmp t :: r, as, h => by
    simp only [resE] at h
    split at h
    · rename_i st v l hl hr
      cases h
      obtain ⟨u, e1, e2⟩ := hk _ _ _ hl
      obtain ⟨vs, e3, e4, e5⟩ := resE_ok hw hk hr
      exact ⟨u :: vs, ⟨u, vs, rfl, e2, e3⟩, ⟨e1, e4⟩, by rw [List.length_cons, List.length_cons, e5]⟩
    · cases h
  | .cell a t :: r, as, h => by
    simp only [resE] at h
    split at h
    · rename_i st id off l hl hr
      split at h
      · rename_i st2 t2 cs hb
        split at h
        · rename_i v hv
          cases h
          obtain ⟨u, e1, g, e2, e3⟩ := hk _ _ _ hl
          obtain ⟨vs, q1, q2, q3⟩ := resE_ok hw hk hr
          obtain ⟨g', us, g1, g2, H⟩ := hw.blk hb
          rw [e2] at g1
          cases g1
          obtain ⟨x, k1, k2⟩ := getC_ok (P := P) (ad := ⟨g, 0, none⟩) (w := w) hv g2 (fun j u hj => by rw [Addr.add_lit, Nat.zero_add]; exact H.cellB 0 rfl hj)
          rw [Addr.add_lit, Nat.zero_add] at k1
          refine ⟨x :: vs, ⟨x, vs, rfl, k2, q1⟩, ⟨⟨_, by rw [e1, e3], ?_⟩, q2⟩, by rw [List.length_cons, List.length_cons, q3]⟩
          have h1 : ∀ (s : Sem Value), (vS s).run P w = .ok (.value x) w → s.run P w = .ok x w := by
            intro s hs
            simp only [vS, Sem.run_bind] at hs
            cases hr : s.run P w with
            | ok v w' => rw [hr] at hs; simp only [Result.andThen_ok, Sem.run_pure, Result.ok.injEq, Next.value.injEq] at hs; rw [hs.1, hs.2]
            | halt x w' => rw [hr] at hs; cases hs
          have h2 := h1 _ k1
          simpa only [Instr.loadAt, Instr.sureAddr, Sem.run_bind, Sem.run_pure, Result.andThen_ok] using h2
        · cases h
      · cases h
    · cases h
theorem endC {P : Program} {B : Code} {J : Nat → Act → World → Prop} {N : Nat} {fn : Func} {Rp : Ending → World → Prop} {κ : Kn} {w : World} (vs : List Value) (hr : ResOk P κ w fn.results.toList vs) (h : Rp (.returned (packV vs)) w) : RR P B (bodyP P fn Rp) J ⟨N, none, [], []⟩ [] κ w := by
  intro a ha
  show LeavesInM (Fr none) 0 P fn a.tmps Rp a.defers .returning w
  rw [ha.defers]
  exact leavesM (ds := []) ⟨_, resultsC_run ha hr, h⟩
theorem fn_ok (T : TabOk tb) (C : ∀ cn ∈ cs, ConOk P tb cn) (hm : P.follows .mixedOrders = true) {cn : Con tb.T} {fn : Func} (hf : P.funcs[cn.f]? = some fn) (hb : fn.body.isSome = true) (hcall : ∀ args w, (callFunc cn.f args).run P w = .ok (.enter cn.f args) w)
    (hn : ∀ x, Nat.ble (up tb 0 cn.ar x 0).1.length fn.ntmps = true) (hnr : fn.results.toList.length = cn.nr) (hE : ∀ x, fnE tb P cs an fn cn.ar cn.os cn.bk cn.rk x = cn.F x) : ConOk P tb cn := by
  intro st x y hy η m w F vals hr hlen has gl hs hd
  obtain ⟨j, j1, j2, j3⟩ := upsh T st 0 cn.ar x 0 0
  obtain ⟨k1, k2⟩ := j3 η η (fun _ _ e => e)
  have hr0 := k1 m vals hr
  have hs0 := k2 m w F hs
  have hl0 : η.length = (up tb 0 cn.ar x 0).2.2 := by omega
  have hN := hn x
  refine .inl ⟨hcall _ _, ?_⟩
  have hEx := hE x
  rw [hy] at hEx
  unfold fnE at hEx
  generalize up tb 0 cn.ar x 0 = u at hEx hr0 hs0 hl0 hN
  obtain ⟨as, σ, c⟩ := u
  simp only at hEx hr0 hs0 hl0 hN
  split at hEx
  · rename_i l rx hbk hrx
    refine callsR hf hb (by simpa [hr0.len] using hN) ?_
    let bs : Bs := ⟨w, F, m, η⟩
    have post : ∀ {s' : S tb.T} {κ' : Kn} {w' : World}, retV tb P fn.results.toList l rx cn.os s' = some y → Rl tb bs s' κ' w' → ∃ vs, ResOk P κ' w' fn.results.toList vs ∧ ∃ v, Ending.returned (packV vs) = .returned v ∧ ∃ (η2 : List Value) (m' : Mem) (rv bv : List Value), v = packV rv ∧ rv.length = cn.nr ∧ RL tb (η ++ η2) m' (up tb st cn.os y η.length).1 (rv ++ bv) ∧ (η ++ η2).length = (up tb st cn.os y η.length).2.2 ∧
          St w F m m' (bkV vals cn.bk bv ++ its tb (η ++ η2) (up tb st cn.os y η.length).2.1) w' ∧ bv.drop cn.bk.length = cn.rk.map (fun j => vals[j]?.getD undef) := by
      intro s' κ' w' h hrl
      unfold retV at h
      obtain ⟨η', m', hk, hw⟩ := hrl.ex
      split at h
      · rename_i as0 cl0 σ00 hs0 ht0
        split at h
        · rename_i as1 s1 hpr
          obtain ⟨vs0, r0, _⟩ := resE_ok hw hk hs0
          obtain ⟨F00, f00, _⟩ := hw.st.sep
          obtain ⟨bv0, _, _, r1, _⟩ := takeB_ok (w := w') l ht0 f00
          have r2 : RL tb η' m' rx _ := rkIds_ok hw.le hr0 hrx
          obtain ⟨x1, m1, x2, k1, w1, _⟩ := prepF_ok T cn.os 20 hpr hw hk (r0.app (r1.app r2))
          split at h
          · rename_i as2 cl σ1 hs1 ht1
            split at h
            · rename_i y2 σ2 hpk
              cases h
              obtain ⟨vs, q1, q2, q3⟩ := resE_ok w1 k1 hs1
              obtain ⟨Fw, f1, f2, f3⟩ := w1.st.sep
              obtain ⟨bv, G1, G2, g1, g2, g3, g4, g5, g6⟩ := takeB_ok (w := w') l ht1 f1
              have r3 : RL tb η' m1 rx _ := rkIds_ok w1.le hr0 hrx
              obtain ⟨η2, e1, e2, F1, F2, e3, e4, e5, e6⟩ := pk_ok T st cn.os hpk (q1.app (g1.app r3)) g3 η
              have hlb : bv.length = cn.bk.length := by rw [g1.len, takeB_len ht1, bkIds_len hbk]
              refine ⟨vs, q2, _, rfl, η2, m1, vs, bv ++ cn.rk.map (fun j => vals[j]?.getD undef), rfl, by rw [q3]; exact hnr, e2, e1.symm, ⟨w1.st.kp, w1.st.sub, w1.st.has, w1.st.new, fun k => G1 k ∨ F1 k, ?_, ?_, ?_⟩, List.drop_left' hlb⟩
              · rw [bkV_app _ _ _ _ hlb]
                exact Sep.app.2 ⟨G1, F1, bk_back w1.le hr0 hbk g2, e3, fun k a b => g4 k a (e6 k (.inl b)), fun k => Iff.rfl⟩
              · exact fun k e => f2 k (g5 k (e.elim .inl (fun e => .inr (e6 k (.inl e)))))
              · exact fun k e => f3 k (g5 k (e.elim .inl (fun e => .inr (e6 k (.inl e)))))
            · cases h
          · cases h
        · cases h
      · cases h
    refine codeE_ok (bs := bs) (n := ⟨fn.ntmps, none, [], []⟩) T C (pt := 0) (np := 0) (ps := []) (fun _ h => by cases h) hm (bodyOf fn) [] (by simp only [cAt]) _ _ _ y _ w _ [] hEx ?_ ⟨?_, ?_, ?_, ?_⟩
    · exact ⟨η, m, by simpa using argS_ok 0 hr0, hl0, Le.refl _, St.start has hs0 hd, gl⟩
    · intro s' κ' w' e hx hrl
      obtain ⟨vs, h1, h2⟩ := post e hrl
      exact endC vs h1 h2
    · intro id s' κ' w' e hx hrl
      cases e
    · intro s' κ' w' e hx hrl J p' k' hc
      obtain ⟨vs, h1, h2⟩ := post e hrl
      refine retC vs ?_ h1 h2
      unfold isRet; rw [hc]
    · intro l' s' κ' w' e
      cases e
  · cases hEx
/-- .. of one that may panic. -/
theorem fnP_ok (T : TabOk tb) (C : ∀ cn ∈ cs, ConOk P tb cn) (hm : P.follows .mixedOrders = true) {np : Nat} {pt : TypeId} {ps : List (ConP np tb.T)} (D : ∀ cn ∈ ps, ConPOk P tb pt cn) {cn : ConP np tb.T} {fn : Func} (hf : P.funcs[cn.f]? = some fn) (hb : fn.body.isSome = true) (hcall : ∀ args w, (callFunc cn.f args).run P w = .ok (.enter cn.f args) w)
    (hn : ∀ x, Nat.ble (up tb 0 cn.ar x 0).1.length fn.ntmps = true) (hnr : fn.results.toList.length = cn.nr) (hE : ∀ x, fnP tb P cs an pt ps fn cn.ar cn.os cn.bk cn.rk x = cn.F x) : ConPOk P tb pt cn := by
  intro st x yo hy η m w F vals hr hlen has gl hs hd
  obtain ⟨j, j1, j2, j3⟩ := upsh T st 0 cn.ar x 0 0
  obtain ⟨k1, k2⟩ := j3 η η (fun _ _ e => e)
  have hr0 := k1 m vals hr
  have hs0 := k2 m w F hs
  have hl0 : η.length = (up tb 0 cn.ar x 0).2.2 := by omega
  have hN := hn x
  refine ⟨hcall _ _, ?_⟩
  have hEx := hE x
  rw [hy] at hEx
  unfold fnP at hEx
  generalize up tb 0 cn.ar x 0 = u at hEx hr0 hs0 hl0 hN
  obtain ⟨as, σ, c⟩ := u
  simp only at hEx hr0 hs0 hl0 hN
  split at hEx
  · rename_i l rx hbk hrx
    refine callsR hf hb (by simpa [hr0.len] using hN) ?_
    let bs : Bs := ⟨w, F, m, η⟩
    have post : ∀ {y : cn.os.ty tb.T} {s' : S tb.T} {κ' : Kn} {w' : World}, retV tb P fn.results.toList l rx cn.os s' = some y → Rl tb bs s' κ' w' → ∃ vs, ResOk P κ' w' fn.results.toList vs ∧ ∃ v, Ending.returned (packV vs) = .returned v ∧ ∃ (η2 : List Value) (m' : Mem) (rv bv : List Value), v = packV rv ∧ rv.length = cn.nr ∧ RL tb (η ++ η2) m' (up tb st cn.os y η.length).1 (rv ++ bv) ∧ (η ++ η2).length = (up tb st cn.os y η.length).2.2 ∧
          St w F m m' (bkV vals cn.bk bv ++ its tb (η ++ η2) (up tb st cn.os y η.length).2.1) w' ∧ bv.drop cn.bk.length = cn.rk.map (fun j => vals[j]?.getD undef) := by
      intro y s' κ' w' h hrl
      unfold retV at h
      obtain ⟨η', m', hk, hw⟩ := hrl.ex
      split at h
      · rename_i as0 cl0 σ00 hs0 ht0
        split at h
        · rename_i as1 s1 hpr
          obtain ⟨vs0, r0, _⟩ := resE_ok hw hk hs0
          obtain ⟨F00, f00, _⟩ := hw.st.sep
          obtain ⟨bv0, _, _, r1, _⟩ := takeB_ok (w := w') l ht0 f00
          have r2 : RL tb η' m' rx _ := rkIds_ok hw.le hr0 hrx
          obtain ⟨x1, m1, x2, k1, w1, _⟩ := prepF_ok T cn.os 20 hpr hw hk (r0.app (r1.app r2))
          split at h
          · rename_i as2 cl σ1 hs1 ht1
            split at h
            · rename_i y2 σ2 hpk
              cases h
              obtain ⟨vs, q1, q2, q3⟩ := resE_ok w1 k1 hs1
              obtain ⟨Fw, f1, f2, f3⟩ := w1.st.sep
              obtain ⟨bv, G1, G2, g1, g2, g3, g4, g5, g6⟩ := takeB_ok (w := w') l ht1 f1
              have r3 : RL tb η' m1 rx _ := rkIds_ok w1.le hr0 hrx
              obtain ⟨η2, e1, e2, F1, F2, e3, e4, e5, e6⟩ := pk_ok T st cn.os hpk (q1.app (g1.app r3)) g3 η
              have hlb : bv.length = cn.bk.length := by rw [g1.len, takeB_len ht1, bkIds_len hbk]
              refine ⟨vs, q2, _, rfl, η2, m1, vs, bv ++ cn.rk.map (fun j => vals[j]?.getD undef), rfl, by rw [q3]; exact hnr, e2, e1.symm, ⟨w1.st.kp, w1.st.sub, w1.st.has, w1.st.new, fun k => G1 k ∨ F1 k, ?_, ?_, ?_⟩, List.drop_left' hlb⟩
              · rw [bkV_app _ _ _ _ hlb]
                exact Sep.app.2 ⟨G1, F1, bk_back w1.le hr0 hbk g2, e3, fun k a b => g4 k a (e6 k (.inl b)), fun k => Iff.rfl⟩
              · exact fun k e => f2 k (g5 k (e.elim .inl (fun e => .inr (e6 k (.inl e)))))
              · exact fun k e => f3 k (g5 k (e.elim .inl (fun e => .inr (e6 k (.inl e)))))
            · cases h
          · cases h
        · cases h
      · cases h
    refine codeE_ok (bs := bs) (n := ⟨fn.ntmps, none, [], []⟩) T C D hm (bodyOf fn) [] (by simp only [cAt]) _ _ _ yo _ w _ [] hEx ?_ ⟨?_, ?_, ?_, ?_⟩
    · exact ⟨η, m, by simpa using argS_ok 0 hr0, hl0, Le.refl _, St.start has hs0 hd, gl⟩
    · intro s' κ' w' e hx hrl
      obtain ⟨y, e2, rfl⟩ := map_some e
      obtain ⟨vs, h1, h2⟩ := post e2 hrl
      exact endC vs h1 (.inl ⟨y, rfl, h2⟩)
    · intro id s' κ' w' e hx hrl
      cases e
    · intro s' κ' w' e hx hrl J p' k' hc
      obtain ⟨y, e2, rfl⟩ := map_some e
      obtain ⟨vs, h1, h2⟩ := post e2 hrl
      refine retC vs ?_ h1 (.inl ⟨y, rfl, h2⟩)
      unfold isRet; rw [hc]
    · intro l' s' κ' w' e hx hrl a' hd'
      obtain ⟨q, e2, rfl⟩ := map_some e
      have e3 := Pay.of_list e2
      subst e3
      show LeavesInM (Fr none) 0 P fn a'.tmps _ a'.defers (.panicking (pnV pt (Pay.list np q))) w'
      rw [hd'.defers]
      obtain ⟨η', m', _, hrw⟩ := hrl.ex
      exact .inr ⟨q, rfl, rfl, m', by simpa using hrw.st.takeN 0⟩
  · cases hEx
end
end Go.Proofs.YtbldeodchhfjfaaGreatDoor.K.E
