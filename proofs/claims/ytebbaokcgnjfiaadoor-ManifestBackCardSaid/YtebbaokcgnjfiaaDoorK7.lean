import Derived.Test.YtebbaokcgnjfiaaDoorK5
import Derived.Test.YtebbaokcgnjfiaaDoorK3
import Derived.Laws.CopyRow
set_option linter.unusedVariables false
set_option linter.unusedSimpArgs false
set_option linter.unusedSectionVars false
namespace Go.Proofs.YtebbaokcgnjfiaaDoor.K
open Go Go.RowKit
section
variable {P : Program} {B : Code} {n : Cx} {p : List Nat} {i : Nat} {κ : Kn} {w : World} {Z : Kn → World → Prop}
theorem stAggR (d : Option Nat) (t : TypeId) (g off : Nat) (vs : List Value) (c c' : Array Value) (e : TypeId) (ho : fetch B n p i κ = some (d,uS (Instr.storeAt t (.pointer (some ⟨g,off,none⟩)) (.agg vs.toArray)))) (ht : aggB P t vs.length = true) (hv : vs.all (·.oneCell') = true)
  (hg : w.heap[g]? = some (.cells c e (0,0))) (hoff : off + vs.length ≤ c.size) (hc : (c.toList.take off ++ vs ++ c.toList.drop (off + vs.length)).toArray = c')
  (hk : ∀ w1,Kp (fun k => k = g) w w1 → w1.heap[g]? = some (.cells c' e (0,0)) → w1.heap.size = w.heap.size → Z (putk d undef κ) w1) : Step P B n p i κ w Z := by
 obtain ⟨de,inf,h1,h2,h3,h4⟩ := agg_info ht
 have hs : (sizeOf t).run P w = .ok vs.length w := by simp [sizeOf,typeInfo,h2,h3]
 have hst := run_storeCells_at (P := P) g off e vs 0 c w hg (by omega) (fun v hv' => List.all_eq_true.1 hv v hv')
 rw [Nat.add_zero,hc] at hst
 have hrun : (Instr.storeAt t (.pointer (some ⟨g,off,none⟩)) (.agg vs.toArray)).run P w = .ok () (w.setRow g c') := by
  simp only [Instr.storeAt,Instr.sureAddr,Sem.run_bind,Sem.run_pure,Result.andThen_ok,storeVar,hs,Value.cells,List.size_toArray,ne_eq,not_true_eq_false,if_false,hst]
 refine skipR ho (uS_run hrun) (hk _ ⟨rfl,rfl,rfl,by simp,fun k _ hk => setRow_other w g k _ hk⟩ (setRow_heap w g c c' e _ hg) (by simp))
end
def ResOk (P : Program) (κ : Kn) (w : World) : List ResultVar → List Value → Prop
 | [],[] => True
 | .tmp t :: r,v :: vs => fnd κ t = some v ∧ ResOk P κ w r vs
 | .cell a t :: r,v :: vs => (∃ ad,fnd κ a = some (.pointer (some ad)) ∧ (loadVar t ad).run P w = .ok v w) ∧ ResOk P κ w r vs
 | _,_ => False
theorem resOk_run {P : Program} {n : Cx} {κ : Kn} {a : Act} {w : World} (ha : Ag n κ a) : ∀ {l : List ResultVar} {vs : List Value},ResOk P κ w l vs → (List.mapM (m := Sem) (fun r : ResultVar => match r with
  | .tmp t => pure (a.tmps.getD t undef)
  | .cell x t => do loadVar t (← asAddr (a.tmps.getD x undef))) l).run P w = .ok vs w
 | [],[],_ => rfl
 | .tmp t :: r,v :: vs,h => by
  obtain ⟨h1,h2⟩ := h
  rw [List.mapM_cons]
  simp only [pure_bind,Sem.run_bind,resOk_run ha h2,Result.andThen_ok,Sem.run_pure,ha.get t v h1]
 | .cell x t :: r,v :: vs,h => by
  obtain ⟨⟨ad,h1,h3⟩,h2⟩ := h
  rw [List.mapM_cons]
  have ih := resOk_run ha h2
  have hx : ((do loadVar t (← asAddr (a.tmps.getD x undef)) : Sem Value)).run P w = .ok v w := by
   rw [ha.get x _ h1]
   simp only [asAddr,Sem.run_bind,Sem.run_pure,Result.andThen_ok,h3]
  rw [Sem.run_bind]
  erw [hx]
  simp only [Result.andThen_ok]
  rw [Sem.run_bind]
  erw [ih]
  rfl
 | [],_ :: _,h => h.elim
 | .tmp _ :: _,[],h => h.elim
 | .cell _ _ :: _,[],h => h.elim
theorem resultsC_run {P : Program} {n : Cx} {κ : Kn} {a : Act} {w : World} {fn : Func} {vs : List Value} (ha : Ag n κ a) (h : ResOk P κ w fn.results.toList vs) : (results fn a.tmps).run P w = .ok (packV vs) w := by
 unfold results
 obtain ⟨rs⟩ : ∃ rs,rs = fn.results.toList := ⟨_,rfl⟩
 have e : fn.results = rs.toArray := by rename_i h0; rw [h0]
 rw [e,List.mapM_toArray]
 have := resOk_run ha (by rw [e] at h; simpa using h : ResOk P κ w rs vs)
 simp only [Sem.run_bind]
 rw [show ∀ (X : Sem (List Value)),(List.toArray <$> X : Sem (Array Value)) = X >>= fun l => pure l.toArray from fun _ => rfl]
 rw [Sem.run_bind]
 erw [this]
 simp only [Result.andThen_ok,Sem.run_pure]
 match vs with
 | [] => rfl
 | [v] => rfl
 | u :: v :: r => simp [packV]
section
variable {P : Program} {B : Code} {Q : Exit → Act → World → Prop} [NPc Q] {J : Nat → Act → World → Prop} {n : Cx}
theorem retC {N : Nat} {fn : Func} {Rp : Ending → World → Prop} {p : List Nat} {k : List It} {κ : Kn} {w : World} (vs : List Value) (hc : isRet B p = true) (hr : ResOk P κ w fn.results.toList vs)
  (h : Rp (.returned (packV vs)) w) : R P B (bodyP P fn Rp) J ⟨N,none,[]⟩ (.co p :: k) κ w := by
 intro a ha
 simp only [Hd,Exit.then]
 have e : cAt B p = .ret := by
  unfold isRet at hc
  split at hc
  ·assumption
  ·cases hc
 rw [e]
 refine wpIn_ret (Hd_ret a w ?_ k)
 show LeavesInM (Fr none) 0 P fn a.tmps Rp a.defers .returning w
 rw [ha.defers]
 exact leavesM (ds := []) ⟨_,resultsC_run ha hr,h⟩
theorem ldv_agg {w : World} (t : TypeId) (a : Addr) (vs : List Value) (ht : aggB P t vs.length = true) (hc : ∀ j v,vs[j]? = some v → w.cell? (a.add j) = some v) : (loadVar t a).run P w = .ok (.agg vs.toArray) w := by
 obtain ⟨de,inf,h1,h2,h3,h4⟩ := agg_info ht
 have hl : (loadCells a vs.length).run P w = .ok vs.toArray w := run_loadCells_list w a vs hc
 have hagg : (isAgg t).run P w = .ok true w := by
  unfold isAgg
  rw [Sem.run_bind,run_underlying h1]
  cases de <;> first | rfl | cases h4
 have hs : (sizeOf t).run P w = .ok vs.length w := by simp [sizeOf,typeInfo,h2,h3]
 simp only [Sem.run_bind,Sem.run_pure,Result.andThen_ok,loadVar,hagg,if_true,hs,hl]
theorem aggRun {w : World} (t : TypeId) (a : Addr) (vs : List Value) (ht : aggB P t vs.length = true) (hc : ∀ j v,vs[j]? = some v → w.cell? (a.add j) = some v) : (vS (Instr.loadAt t (.pointer (some a)))).run P w = .ok (.value (.agg vs.toArray)) w := by
 refine vS_run ?_
 simp only [Instr.loadAt,Instr.sureAddr,Sem.run_bind,Sem.run_pure,Result.andThen_ok,ldv_agg t a vs ht hc]
end
structure WrT (g : Nat) (w : World) (v : Value) (w' : World) (v' : Value) : Prop where
 kp : Kp (fun k => k = g ∨ some k = v.ownBlock) w w'
 at_ : ∀ k,v'.ownBlock = some k → v.ownBlock = some k ∨ w.heap.size ≤ k
theorem WrT.refl (g : Nat) (w : World) (v : Value) : WrT g w v w v := ⟨Kp.refl _ _,fun _ h => .inl h⟩
theorem WrT.trans {g : Nat} {a b c : World} {u v x : Value} (h : WrT g a u b v) (h' : Grew b v c x) : WrT g a u c x :=
 ⟨h.kp.step h'.kp (fun k hk hlt => (h.at_ k hk.symm).elim (fun e => .inr e.symm) (fun e => by omega)),
   fun k hk => by
  rcases h'.at_ k hk with e | e
  ·exact h.at_ k e
  ·exact .inr (Nat.le_trans h.kp.size e)⟩
theorem WrT.ex {g : Nat} {w w' w2 : World} {v v' : Value} (h : WrT g w v w' v') (hx : Ex w' w2) : WrT g w v w2 v' := ⟨h.kp.ex hx,h.at_⟩
theorem WrT.blk {g : Nat} {w w' w2 : World} {v v' : Value} (h : WrT g w v w' v') (hx : Kp (fun k => k = g) w' w2) : WrT g w v w2 v' := ⟨h.kp.step hx (fun k hk _ => .inl hk),h.at_⟩
theorem WrT.below {g lo : Nat} {w w' : World} {v v' : Value} (h : WrT g w v w' v') (hg : lo ≤ g) (hv : ∀ k,v.ownBlock = some k → lo ≤ k) : Kp (fun k => lo ≤ k) w w' :=
 h.kp.mono (fun k _ hk => hk.elim (fun e => by omega) (fun e => hv k e.symm))
theorem Kp.cut {lo : Nat} {w0 w w' : World} (h : Ex w0 w) (h' : Kp (fun k => lo ≤ k) w w') (hl : w0.heap.size ≤ lo) : Ex w0 w' := h.step h' (fun k hk hlt => by omega)
def Apart (A B : Option Addr) : Prop := ∀ (m c m' c' : Nat) (k : Nat),some k = (Value.slice A m c).ownBlock → ¬ some k = (Value.slice B m' c').ownBlock
theorem ownB (A : Option Addr) (m c m' c' : Nat) : (Value.slice A m c).ownBlock = (Value.slice A m' c').ownBlock := by cases A <;> rfl
theorem Apart.symm {A B : Option Addr} (h : Apart A B) : Apart B A := fun m c m' c' k h1 h2 => h m' c' m c k h2 h1
theorem Apart.new {A B : Option Addr} {m c m' c' base : Nat} (hl : ∀ k,some k = (Value.slice A m c).ownBlock → k < base) (hb : ∀ k,some k = (Value.slice B m' c').ownBlock → base ≤ k) : Apart A B := by
 intro a b a' b' k h1 h2
 rw [ownB A a b m c] at h1
 rw [ownB B a' b' m' c'] at h2
 have := hl k h1
 have := hb k h2
 omega
end Go.Proofs.YtebbaokcgnjfiaaDoor.K
