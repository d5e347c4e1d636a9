/- More operations: aggregates stored, results in cells; writers' and readers' frames. -/
import Derived.Test.YtbldeodchhfjfaaGreatDoorK5
import Derived.Test.YtbldeodchhfjfaaGreatDoorK3
import Derived.Laws.CopyRow
set_option linter.unusedVariables false
set_option linter.unusedSimpArgs false
set_option linter.unusedSectionVars false
namespace Go.Proofs.YtbldeodchhfjfaaGreatDoor.K
open Go Go.RowKit

section
variable {P : Program} {B : Code} {n : Cx} {p : List Nat} {i : Nat} {κ : Kn} {w : World} {Z : Kn → World → Prop}
/-- A store of a struct into a block that is known whole. -/
theorem stAggR (d : Option Nat) (t : TypeId) (g off : Nat) (vs : List Value) (c c' : Array Value) (e : TypeId) (ho : fetch B n p i κ = some (d, uS (Instr.storeAt t (.pointer (some ⟨g, off, none⟩)) (.agg vs.toArray)))) (ht : aggB P t vs.length = true) (hv : vs.all (·.oneCell') = true)
    (hg : w.heap[g]? = some (.cells c e (0, 0))) (hoff : off + vs.length ≤ c.size) (hc : (c.toList.take off ++ vs ++ c.toList.drop (off + vs.length)).toArray = c')
    (hk : ∀ w1, Kp (fun k => k = g) w w1 → w1.heap[g]? = some (.cells c' e (0, 0)) → w1.heap.size = w.heap.size → Z (putk d undef κ) w1) : Step P B n p i κ w Z := by
  obtain ⟨de, inf, h1, h2, h3, h4⟩ := agg_info ht
  have hs : (sizeOf t).run P w = .ok vs.length w := by simp [sizeOf, typeInfo, h2, h3]
  have hst := run_storeCells_at (P := P) g off e vs 0 c w hg (by omega) (fun v hv' => List.all_eq_true.1 hv v hv')
  rw [Nat.add_zero, hc] at hst
  have hrun : (Instr.storeAt t (.pointer (some ⟨g, off, none⟩)) (.agg vs.toArray)).run P w = .ok () (w.setRow g c') := by
    simp only [Instr.storeAt, Instr.sureAddr, Sem.run_bind, Sem.run_pure, Result.andThen_ok, storeVar, hs, Value.cells, List.size_toArray, ne_eq, not_true_eq_false, if_false, hst]
  refine skipR ho (uS_run hrun) (hk _ ⟨rfl, rfl, rfl, by simp, fun k _ hk => setRow_other w g k _ hk, Nat.le_refl _⟩ (setRow_heap w g c c' e _ hg) (by simp))
end

/-- Results, some of them in cells. -/
def ResOk (P : Program) (κ : Kn) (w : World) : List ResultVar → List Value → Prop
  | [], [] => True
  | .tmp t :: r, v :: vs => fnd κ t = some v ∧ ResOk P κ w r vs
  | .cell a t :: r, v :: vs => (∃ ad, fnd κ a = some (.pointer (some ad)) ∧ (loadVar t ad).run P w = .ok v w) ∧ ResOk P κ w r vs
  | _, _ => False

theorem resOk_run {P : Program} {n : Cx} {κ : Kn} {a : Act} {w : World} (ha : Ag n κ a) : ∀ {l : List ResultVar} {vs : List Value}, ResOk P κ w l vs → (List.mapM (m := Sem) (fun r : ResultVar => match r with
    | .tmp t => pure (a.tmps.getD t undef)
    | .cell x t => do loadVar t (← asAddr (a.tmps.getD x undef))) l).run P w = .ok vs w
  | [], [], _ => rfl
  | .tmp t :: r, v :: vs, h => by
    obtain ⟨h1, h2⟩ := h
    rw [List.mapM_cons]
    simp only [pure_bind, Sem.run_bind, resOk_run ha h2, Result.andThen_ok, Sem.run_pure, ha.get t v h1]
  | .cell x t :: r, v :: vs, h => by
    obtain ⟨⟨ad, h1, h3⟩, h2⟩ := h
    rw [List.mapM_cons]
    have ih := resOk_run ha h2
    have hx : ((do loadVar t (← asAddr (a.tmps.getD x undef)) : Sem Value)).run P w = .ok v w := by
      rw [ha.get x _ h1]
      simp only [asAddr, Sem.run_bind, Sem.run_pure, Result.andThen_ok, h3]
    rw [Sem.run_bind]
    erw [hx]
    simp only [Result.andThen_ok]
    rw [Sem.run_bind]
    erw [ih]
    rfl
  | [], _ :: _, h => h.elim
  | .tmp _ :: _, [], h => h.elim
  | .cell _ _ :: _, [], h => h.elim

theorem resultsC_run {P : Program} {n : Cx} {κ : Kn} {a : Act} {w : World} {fn : Func} {vs : List Value} (ha : Ag n κ a) (h : ResOk P κ w fn.results.toList vs) : (results fn a.tmps).run P w = .ok (packV vs) w := by
  unfold results
  obtain ⟨rs⟩ : ∃ rs, rs = fn.results.toList := ⟨_, rfl⟩
  have e : fn.results = rs.toArray := by rename_i h0; rw [h0]
  rw [e, List.mapM_toArray]
  have := resOk_run ha (by rw [e] at h; simpa using h : ResOk P κ w rs vs)
  simp only [Sem.run_bind]
  rw [show ∀ (X : Sem (List Value)), (List.toArray <$> X : Sem (Array Value)) = X >>= fun l => pure l.toArray from fun _ => rfl]
  rw [Sem.run_bind]
  erw [this]
  simp only [Result.andThen_ok, Sem.run_pure]
  match vs with
  | [] => rfl
  | [v] => rfl
  | u :: v :: r => simp [packV]

section
variable {P : Program} {B : Code} {Q : Exit → Act → World → Prop} [NPc Q] {J : Nat → Act → World → Prop} {n : Cx}
theorem retC {N : Nat} {fn : Func} {Rp : Ending → World → Prop} {p : List Nat} {k : List It} {κ : Kn} {w : World} (vs : List Value) (hc : isRet B p = true) (hr : ResOk P κ w fn.results.toList vs)
    (h : Rp (.returned (packV vs)) w) : R P B (bodyP P fn Rp) J ⟨N, none, [], []⟩ (.co p :: k) κ w := by
  intro a ha
  simp only [Hd, Exit.then]
  have e : cAt B p = .ret := by
    unfold isRet at hc
    split at hc
    · assumption
    · cases hc
  rw [e]
  refine wpIn_ret (Hd_ret a w ?_ k)
  show LeavesInM (Fr none) 0 P fn a.tmps Rp a.defers .returning w
  rw [ha.defers]
  exact leavesM (ds := []) ⟨_, resultsC_run ha hr, h⟩
theorem ldv_one {w : World} (t : TypeId) (a : Addr) (v : Value) (ht : oneB P t = true) (hc : w.cell? a = some v) : (loadVar t a).run P w = .ok v w := by
  simp only [loadVar, Sem.run_bind, isAgg_one ht, Result.andThen_ok, Bool.false_eq_true, if_false]
  simp [hc]
theorem ldv_agg {w : World} (t : TypeId) (a : Addr) (vs : List Value) (ht : aggB P t vs.length = true) (hc : ∀ j v, vs[j]? = some v → w.cell? (a.add j) = some v) : (loadVar t a).run P w = .ok (.agg vs.toArray) w := by
  obtain ⟨de, inf, h1, h2, h3, h4⟩ := agg_info ht
  have hl : (loadCells a vs.length).run P w = .ok vs.toArray w := run_loadCells_list w a vs hc
  have hagg : (isAgg t).run P w = .ok true w := by
    unfold isAgg
    rw [Sem.run_bind, run_underlying h1]
    cases de <;> first | rfl | cases h4
  have hs : (sizeOf t).run P w = .ok vs.length w := by simp [sizeOf, typeInfo, h2, h3]
  simp only [Sem.run_bind, Sem.run_pure, Result.andThen_ok, loadVar, hagg, if_true, hs, hl]
theorem aggRun {w : World} (t : TypeId) (a : Addr) (vs : List Value) (ht : aggB P t vs.length = true) (hc : ∀ j v, vs[j]? = some v → w.cell? (a.add j) = some v) : (vS (Instr.loadAt t (.pointer (some a)))).run P w = .ok (.value (.agg vs.toArray)) w := by
  refine vS_run ?_
  simp only [Instr.loadAt, Instr.sureAddr, Sem.run_bind, Sem.run_pure, Result.andThen_ok, ldv_agg t a vs ht hc]
end

/-- A struct at g that holds a row of one's own: only g and the row have turned. -/
structure WrT (g : Nat) (w : World) (v : Value) (w' : World) (v' : Value) : Prop where
  kp : Kp (fun k => k = g ∨ some k = v.ownBlock) w w'
  at_ : ∀ k, v'.ownBlock = some k → v.ownBlock = some k ∨ w.heap.size ≤ k
theorem WrT.refl (g : Nat) (w : World) (v : Value) : WrT g w v w v := ⟨Kp.refl _ _, fun _ h => .inl h⟩
theorem WrT.trans {g : Nat} {a b c : World} {u v x : Value} (h : WrT g a u b v) (h' : Grew b v c x) : WrT g a u c x :=
  ⟨h.kp.step h'.kp (fun k hk hlt => (h.at_ k hk.symm).elim (fun e => .inr e.symm) (fun e => by omega)),
   fun k hk => by
    rcases h'.at_ k hk with e | e
    · exact h.at_ k e
    · exact .inr (Nat.le_trans h.kp.size e)⟩
theorem WrT.ex {g : Nat} {w w' w2 : World} {v v' : Value} (h : WrT g w v w' v') (hx : Ex w' w2) : WrT g w v w2 v' := ⟨h.kp.ex hx, h.at_⟩
theorem WrT.blk {g : Nat} {w w' w2 : World} {v v' : Value} (h : WrT g w v w' v') (hx : Kp (fun k => k = g) w' w2) : WrT g w v w2 v' := ⟨h.kp.step hx (fun k hk _ => .inl hk), h.at_⟩
theorem WrT.next {g : Nat} {a b c : World} {u v x : Value} (h : WrT g a u b v) (h' : WrT g b v c x) : WrT g a u c x :=
  ⟨h.kp.step h'.kp (fun k hk hlt => hk.elim .inl (fun hk => (h.at_ k hk.symm).elim (fun e => .inr e.symm) (fun e => by omega))),
   fun k hk => by
    rcases h'.at_ k hk with e | e
    · exact h.at_ k e
    · exact .inr (Nat.le_trans h.kp.size e)⟩
/-- From a row that had not been begun: below g nothing has turned. -/
theorem WrT.below {g lo : Nat} {w w' : World} {v v' : Value} (h : WrT g w v w' v') (hg : lo ≤ g) (hv : ∀ k, v.ownBlock = some k → lo ≤ k) : Kp (fun k => lo ≤ k) w w' :=
  h.kp.mono (fun k _ hk => hk.elim (fun e => by omega) (fun e => hv k e.symm))
theorem Kp.cut {lo : Nat} {w0 w w' : World} (h : Ex w0 w) (h' : Kp (fun k => lo ≤ k) w w') (hl : w0.heap.size ≤ lo) : Ex w0 w' := h.step h' (fun k hk hlt => by omega)

/-- Two rows in two blocks. -/
def Apart (A B : Option Addr) : Prop := ∀ (m c m' c' : Nat) (k : Nat), some k = (Value.slice A m c).ownBlock → ¬ some k = (Value.slice B m' c').ownBlock
theorem ownB (A : Option Addr) (m c m' c' : Nat) : (Value.slice A m c).ownBlock = (Value.slice A m' c').ownBlock := by cases A <;> rfl
theorem Apart.none_l (B : Option Addr) : Apart none B := fun _ _ _ _ k h => by cases h
theorem Apart.none_r (A : Option Addr) : Apart A none := fun _ _ _ _ k _ h => by cases h
theorem Apart.symm {A B : Option Addr} (h : Apart A B) : Apart B A := fun m c m' c' k h1 h2 => h m' c' m c k h2 h1
/-- The second has become another: its old block, or a new one. -/
theorem Apart.to_r {A B B' : Option Addr} {m c m' c' n' d' : Nat} {w : World} (h : Apart A B) (hl : ∀ k, some k = (Value.slice A m c).ownBlock → k < w.heap.size)
    (hb : ∀ k, (Value.slice B' n' d').ownBlock = some k → (Value.slice B m' c').ownBlock = some k ∨ w.heap.size ≤ k) : Apart A B' := by
  intro a b a' b' k h1 h2
  rw [ownB B' a' b' n' d'] at h2
  rcases hb k h2.symm with h3 | h3
  · exact h a b m' c' k h1 h3.symm
  · rw [ownB A a b m c] at h1
    have := hl k h1
    omega
theorem Apart.new {A B : Option Addr} {m c m' c' base : Nat} (hl : ∀ k, some k = (Value.slice A m c).ownBlock → k < base) (hb : ∀ k, some k = (Value.slice B m' c').ownBlock → base ≤ k) : Apart A B := by
  intro a b a' b' k h1 h2
  rw [ownB A a b m c] at h1
  rw [ownB B a' b' m' c'] at h2
  have := hl k h1
  have := hb k h2
  omega
/-! writers, readers -/
def addE (most : Int) (len : Nat) (e e1 more : Int) : Int := if e = 0 then (if e1 = 0 then (if more > most - len then 2 else 0) else e1) else e
def addL (l : List UInt8) (E : Int) (x : List UInt8) : List UInt8 := if E = 0 then l ++ x else l
theorem addE_bad {most : Int} {len : Nat} {e e1 more : Int} (h : e1 ≠ 0) : addE most len e e1 more ≠ 0 := by
  unfold addE
  split
  · exact h
  · assumption
theorem addE_old {most : Int} {len : Nat} {e e1 more : Int} (h : e ≠ 0) : addE most len e e1 more = e := by rw [addE, if_neg h]
theorem addL_len (l : List UInt8) (E : Int) (x : List UInt8) : (addL l E x).length ≤ l.length + x.length := by
  unfold addL
  split
  · simp
  · omega
theorem addE_zero {most : Int} {len : Nat} {e e1 more : Int} (h : addE most len e e1 more = 0) : e = 0 ∧ e1 = 0 := by
  unfold addE at h
  split at h
  · split at h
    · exact ⟨by assumption, by assumption⟩
    · exact absurd h (by assumption)
  · exact absurd h (by assumption)
theorem addL_num (l : List UInt8) (most : Int) (len : Nat) (e : Int) (n : Nat) (wd : Int) : (addL l (addE most len e (putE n wd) wd) (enc wd.toNat n)).length ≤ l.length + 8 := by
  by_cases h : addE most len e (putE n wd) wd = 0
  · have h2 := (addE_zero h).2
    have h3 : wideB wd = true := by
      cases hw : wideB wd with
      | true => rfl
      | false => simp [putE, hw] at h2
    have := wide_of h3
    have h4 := addL_len l (addE most len e (putE n wd) wd) (enc wd.toNat n)
    rw [enc_length] at h4
    omega
  · rw [addL, if_neg h]
    omega
def takeE (len : Nat) (at_ e n : Int) : Int := if e = 0 then (if n < 0 then 1 else if withinB len at_ n = true then 0 else 6) else e
def takeA (at_ n E : Int) : Int := if E = 0 then at_ + n else at_
def takeL (l : List UInt8) (at_ n E : Int) : List UInt8 := if E = 0 then (l.drop at_.toNat).take n.toNat else []
def doneL (l : List UInt8) (e : Int) : List UInt8 := if e = 0 then l else []
def numW (wd : Int) : Int := if wideB wd = true then wd else -1
def textE (l : List UInt8) (at_ e most : Int) : Int :=
  if e = 0 then (if most < 0 then 1 else if withinB l.length at_ 2 = true then (if ((le ((l.drop at_.toNat).take 2) : Nat) : Int) > most then 2 else if withinB l.length (at_ + 2) (le ((l.drop at_.toNat).take 2) : Nat) = true then 0 else 6) else 6) else e
def textA (l : List UInt8) (at_ E : Int) : Int := if E = 0 then at_ + 2 + (le ((l.drop at_.toNat).take 2) : Nat) else at_
def textL (l : List UInt8) (at_ E : Int) : List UInt8 := if E = 0 then (l.drop (at_.toNat + 2)).take (le ((l.drop at_.toNat).take 2)) else []
theorem takeL_le (l : List UInt8) (at_ n E : Int) : (takeL l at_ n E).length ≤ n.toNat := by
  unfold takeL
  split
  · simp
    omega
  · simp
theorem takeL_len (l : List UInt8) (at_ n E : Int) : (takeL l at_ n E).length ≤ l.length := by
  unfold takeL
  split
  · simp
    omega
  · simp
theorem textL_len (l : List UInt8) (at_ E : Int) : (textL l at_ E).length ≤ l.length := by
  unfold textL
  split
  · simp
    omega
  · simp
theorem le_takeL (l : List UInt8) (at_ E : Int) : le (takeL l at_ 2 E) < 65536 := by
  have h1 := le_lt (takeL l at_ 2 E)
  have h2 := takeL_le l at_ 2 E
  have : 256 ^ (takeL l at_ 2 E).length ≤ 256 ^ 2 := Nat.pow_le_pow_right (by decide) (by simpa using h2)
  omega
theorem takeE_old {len : Nat} {at_ e n : Int} (h : e ≠ 0) : takeE len at_ e n = e := by rw [takeE, if_neg h]
theorem numW_cases (wd : Int) : numW wd = -1 ∨ numW wd = 1 ∨ numW wd = 2 ∨ numW wd = 4 ∨ numW wd = 8 := by
  unfold numW
  split
  · rename_i h
    exact .inr (wide_of h)
  · exact .inl rfl
theorem takeE_zero {len : Nat} {at_ e n : Int} (h : takeE len at_ e n = 0) : e = 0 ∧ 0 ≤ n ∧ withinB len at_ n = true := by
  unfold takeE at h
  split at h
  · rename_i he
    split at h
    · cases h
    · split at h
      · exact ⟨he, by omega, by assumption⟩
      · cases h
  · exact absurd h (by assumption)
theorem takeA_at {len : Nat} {at_ e n : Int} (h : 0 ≤ at_ ∧ at_ ≤ len) : 0 ≤ takeA at_ n (takeE len at_ e n) ∧ takeA at_ n (takeE len at_ e n) ≤ len := by
  unfold takeA
  split
  · rename_i h0
    have := within_of (takeE_zero h0).2.2
    omega
  · exact h
theorem textE_zero {l : List UInt8} {a e most : Int} (h : textE l a e most = 0) : withinB l.length a 2 = true ∧ withinB l.length (a + 2) (le ((l.drop a.toNat).take 2) : Nat) = true := by
  unfold textE at h
  split at h
  · split at h
    · cases h
    · split at h
      · split at h
        · cases h
        · split at h
          · exact ⟨by assumption, by assumption⟩
          · cases h
      · cases h
  · exact absurd h (by assumption)
theorem textA_at {l : List UInt8} {a e most : Int} (h : 0 ≤ a ∧ a ≤ l.length) : 0 ≤ textA l a (textE l a e most) ∧ textA l a (textE l a e most) ≤ l.length := by
  unfold textA
  split
  · rename_i h0
    have := within_of (textE_zero h0).2
    omega
  · exact h
def rdE (d n : Int) (l : List UInt8) (a e : Int) : Int := if d = 0 then takeE l.length a e (numW n) else if d = 2 then textE l a e n else takeE l.length a e n
def rdA (d n : Int) (l : List UInt8) (a E : Int) : Int := if d = 0 then takeA a (numW n) E else if d = 2 then textA l a E else takeA a n E
def rdV (d n : Int) (l : List UInt8) (a E : Int) : Nat := if d = 0 then le (takeL l a (numW n) E) else 0
def rdL (d n : Int) (l : List UInt8) (a E : Int) : List UInt8 := if d = 0 then [] else if d = 2 then textL l a E else takeL l a n E
def actE1 (d n : Int) (v : Nat) (B : List UInt8) : Int := if d = 0 then putE v n else if d = 1 then 0 else (if B.length > 65535 then 9 else 0)
def actX (d n : Int) (v : Nat) (B : List UInt8) : List UInt8 := if d = 0 then enc n.toNat v else if d = 1 then B else enc 2 B.length ++ B
def actM (d n : Int) (B : List UInt8) : Int := if d = 0 then n else if d = 1 then B.length else B.length + 2
end Go.Proofs.YtbldeodchhfjfaaGreatDoor.K
