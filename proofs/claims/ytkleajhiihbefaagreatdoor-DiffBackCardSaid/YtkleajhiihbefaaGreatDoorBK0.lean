/- Texts in one: K1 K2 K5 K3 K7 K8 K4 K6 M1. -/
import Derived.Calls
import Derived.Tactics
import Derived.Tactics2
import Derived.OrdersHeld
import Derived.Below
import Derived.Deep.LoopGhost
import Derived.Deep.Quiet
import Derived.KernelRfl
import Derived.Laws.AppendOwn
import Derived.Laws.OwnMore
import Derived.TacticsIn
import Derived.OrdersIn
import Derived.RangeFuncLeaves
import Derived.RangeFuncSeq
import Derived.Sort.LoopGhostIn
import Derived.Maps.AppendAt
import Derived.Laws.BytesArg
import Derived.Lib.ConvBytes
import Derived.Lib.AppendStr
import Derived.OwnWalk
import Derived.Laws.BitsLemmas
import Derived.Laws.CopyRow
import Derived.Lib.Bytealg
import Derived.Lib.IndexLaws
import Derived.Laws.Externs
import Derived.WalkKit
import Derived.ProofKit
import Derived.OpenShut
import Derived.ShutString
import Derived.ChangeOld
import Derived.SizedLaws
import Derived.ChangeSlices
import Derived.ChangeArms
import Derived.Deep.Slices
set_option linter.unusedVariables false
set_option linter.unusedSimpArgs false
set_option linter.unusedSectionVars false
namespace Go.Proofs.YtkleajhiihbefaaGreatDoor.K
open Go Go.RowKit
structure Cx where
 n : Nat
 ro : Option Nat := none
 ds : List Nat := []
 df : List Deferred := []
def mkD (D : Nat) : Deferred := { target := .collected D, args := #[] }
def Cx.dl (n : Cx) : List Deferred := n.ds.map mkD ++ n.df
def Fr (ro : Option Nat) : Fence := { fn := fun _ => True, depth := none, alive := false, round := ro }
theorem fr_calls {ro : Option Nat} {n : Nat} {P : Program} {f : FuncId} {args : Array Value} {w : World} {R : Ending → World → Prop} (h : Calls P f args w R) : CallsIn (Fr ro) n P f args w R := (callsIn_wide (n := n)).2 h
theorem calls_fr {ro : Option Nat} {n : Nat} {P : Program} {f : FuncId} {args : Array Value} {w : World} {R : Ending → World → Prop} (h : CallsIn (Fr ro) n P f args w R) : Calls P f args w R := (callsIn_wide (n := n)).1 h
theorem fr_rows {ro : Option Nat} {n : Nat} {P : Program} {row : String} {args : Array Value} {w : World} {R : Value → World → Prop} (h : Rows P row args w R) : RowsIn (Fr ro) n P row args w R :=
 fun c cs _ => let ⟨v, w', r, s⟩ := h c cs; ⟨v, w', r, stepsIn_wide.2 s⟩
def noDefer (o : Oper) : Bool := match o.op with
 | .defer _ => false
 | _ => true
theorem noDefer_ne {o : Oper} (h : noDefer o = true) : ∀ c, o.op ≠ .defer c := fun c e => by unfold noDefer at h; rw [e] at h; cases h
theorem wp_fr {ro : Option Nat} {P : Program} {o : Oper} {a : Act} {w : World} {K : Act → World → Prop} {Q : Exit → Act → World → Prop} (hd : noDefer o = true) (h : o.wp P a w K Q) : o.wpIn (Fr ro) 0 P a w K Q := by
 refine ⟨fun _ _ => trivial, ?_⟩
 rw [Oper.semAt_eq _ _ _ (noDefer_ne hd)]
 unfold Oper.wp at h
 generalize (execOp a.eval o).run P w = r at h
 cases r with
 | ok x w' =>
  cases x <;> simp only [Oper.upon, Oper.uponIn] at h ⊢
  case value v => exact h
  case skip => exact h
  case defer d => exact h
  case enter f args => exact ⟨fun e => (by cases e), fr_calls h⟩
  case row row args => exact ⟨fun e => (by cases e), fr_rows h⟩
 | halt x w' =>
  cases x <;> simp only [Oper.upon, Oper.uponIn] at h ⊢
  case panic v => exact h
structure NP (Q : Exit → Act → World → Prop) : Prop where
 panic : ∀ c a w, ¬ Q (.panic c) a w
 out : ∀ a w, ¬ Q .outgrown a w
theorem ops_fr {ro : Option Nat} {P : Program} {ops : Array Oper} {Q : Exit → Act → World → Prop} (hQ : NP Q) (hd : ops.all noDefer = true) : ∀ (l : List Nat) (a : Act) (w : World), wpOps P ops Q l a w → wpOpsIn (Fr ro) 0 P ops Q l a w
 | [], a, w, h => h
 | i :: rest, a, w, h => by
  simp only [wpOps, wpOpsIn] at h ⊢
  cases ho : ops[i]? with
  | none => simp only [ho] at h ⊢; exact ops_fr hQ hd rest a w h
  | some o =>
   simp only [ho] at h ⊢
   split at h
   ·rename_i hw
    rw [if_pos hw]
    rcases h with h | h
    ·have hnd : noDefer o = true := by
      rw [Array.all_eq_true_iff_forall_mem] at hd
      exact hd o (Array.mem_of_getElem? ho)
     refine (wp_fr (ro := ro) hnd h).imp id ?_
     intro h
     have := Oper.wpIn_mono (K := wpOps P ops Q rest) (K' := wpOpsIn (Fr ro) 0 P ops Q rest) (ops_fr hQ hd rest) (⟨fun _ _ => trivial, h⟩ : o.wpIn (Fr ro) 0 P a w (wpOps P ops Q rest) Q)
     exact this.2
    ·obtain ⟨a0, w0, h0⟩ := h.2
     exact absurd h0 (hQ.out a0 w0)
   ·rename_i hw
    rw [if_neg hw]
    exact ⟨fun _ _ => trivial, ops_fr hQ hd rest _ w h⟩
abbrev Kn := List (Nat × Value)
def fnd : Kn → Nat → Option Value
 | [], _ => none
 | (i, v) :: r, t => cond (Nat.beq i t) (some v) (fnd r t)
def ev (κ : Kn) : Operand → Option Value
 | .tmp t => fnd κ t
 | .const v => some v
 | .global g => some (.pointer (some ⟨g, 0, none⟩))
 | .func f => some (.func (.func f) #[] #[])
def evT (κ : Kn) (x : Operand) : Value := (ev κ x).getD undef
structure Ag (n : Cx) (κ : Kn) (a : Act) : Prop where
 defers : a.defers = n.dl
 size : a.tmps.size = n.n
 get : ∀ t v, fnd κ t = some v → a.tmps.getD t undef = v
theorem Ag.ev {n : Cx} {κ : Kn} {a : Act} (h : Ag n κ a) {x : Operand} {v : Value} (hx : ev κ x = some v) : a.eval x = v := by
 cases x with
 | tmp t => exact h.get t v hx
 | const u => simpa [K.ev, Act.eval] using hx
 | global g => simpa [K.ev, Act.eval] using hx
 | func f => simpa [K.ev, Act.eval] using hx
theorem Ag.evT {n : Cx} {κ : Kn} {a : Act} (h : Ag n κ a) {x : Operand} (hx : (K.ev κ x).isSome = true) : a.eval x = evT κ x := by
 obtain ⟨v, hv⟩ := Option.isSome_iff_exists.1 hx
 rw [h.ev hv, K.evT, hv]
 rfl
def putk (d : Option Nat) (v : Value) (κ : Kn) : Kn :=
 match d with
 | some d => (d, v) :: κ
 | none => κ
def dok (d : Option Nat) (n : Nat) : Bool :=
 match d with
 | some d => Nat.blt d n
 | none => true
theorem Ag.put {n : Cx} {κ : Kn} {a : Act} (h : Ag n κ a) (d : Option Nat) (hd : dok d n.n = true) (v : Value) : Ag n (putk d v κ) (a.put d v) := by
 cases d with
 | none => exact h
 | some d =>
  have hlt : d < n.n := by simpa [dok, Nat.blt_eq] using hd
  refine ⟨h.defers, by simpa [Act.put] using h.size, ?_⟩
  intro t u hu
  simp only [putk, fnd] at hu
  have hs := h.size
  by_cases e : d = t
  ·subst e
   simp only [Nat.beq_refl, cond_true, Option.some.injEq] at hu
   subst hu
   simp only [Act.put]
   rw [Array.getD_eq_getD_getElem?, Array.getElem?_setIfInBounds_self_of_lt (by omega)]
   rfl
  ·have hb : Nat.beq d t = false := by
    cases hb : Nat.beq d t with
    | false => rfl
    | true => exact absurd (Nat.eq_of_beq_eq_true hb) e
   rw [hb] at hu
   simp only [cond_false] at hu
   have := h.get t u hu
   simp only [Act.put]
   rw [Array.getD_eq_getD_getElem?, Array.getElem?_setIfInBounds_ne e, ← Array.getD_eq_getD_getElem?]
   exact this
def resK (κ : Kn) : List Nat → Option Kn
 | [] => some []
 | t :: r => match fnd κ t with
  | some v => match resK κ r with
   | some l => some ((t, v) :: l)
   | none => none
  | none => none
theorem resK_fnd {κ : Kn} : ∀ {ts : List Nat} {κ' : Kn}, resK κ ts = some κ' → ∀ t v, fnd κ' t = some v → fnd κ t = some v
 | [], κ', h, t, v, hv => by
  simp only [resK, Option.some.injEq] at h
  subst h
  simp [fnd] at hv
 | s :: r, κ', h, t, v, hv => by
  simp only [resK] at h
  cases h1 : fnd κ s with
  | none => rw [h1] at h; cases h
  | some u =>
   rw [h1] at h
   cases h2 : resK κ r with
   | none => rw [h2] at h; cases h
   | some l =>
    rw [h2] at h
    simp only [Option.some.injEq] at h
    subst h
    simp only [fnd] at hv
    cases hb : Nat.beq s t with
    | true =>
     rw [hb] at hv
     have := Nat.eq_of_beq_eq_true hb
     subst this
     simp only [cond_true, Option.some.injEq] at hv
     subst hv
     exact h1
    | false =>
     rw [hb] at hv
     exact resK_fnd h2 t v hv
theorem Ag.res {n : Cx} {κ κ' : Kn} {a : Act} (h : Ag n κ a) (hr : resK κ (κ'.map Prod.fst) = some κ') : Ag n κ' a :=
 ⟨h.defers, h.size, fun t v hv => h.get t v (resK_fnd hr t v hv)⟩
def pureRes (P : Program) : Sem Next → Option Value
 | .pure (.value v) => some v
 | .pure .skip => some undef
 | .program k => pureRes P (k P)
 | .mark _ k => pureRes P k
 | _ => none
theorem pureRes_run {P : Program} : ∀ {s : Sem Next} {v : Value}, pureRes P s = some v → ∀ w, s.run P w = .ok (.value v) w ∨ (s.run P w = .ok .skip w ∧ v = undef)
 | .pure n, v, h, w => by
  cases n <;> simp [pureRes] at h
  ·subst h; exact .inl rfl
  ·subst h; exact .inr ⟨rfl, rfl⟩
 | .program k, v, h, w => by
  simp only [pureRes] at h
  exact pureRes_run (s := k P) h w
 | .mark m k, v, h, w => by
  simp only [pureRes] at h
  exact pureRes_run (s := k) h w
 | .load .., _, h, _ => by simp [pureRes] at h
 | .store .., _, h, _ => by simp [pureRes] at h
 | .new .., _, h, _ => by simp [pureRes] at h
 | .shape .., _, h, _ => by simp [pureRes] at h
 | .freeze .., _, h, _ => by simp [pureRes] at h
 | .frozen .., _, h, _ => by simp [pureRes] at h
 | .getObj .., _, h, _ => by simp [pureRes] at h
 | .setObj .., _, h, _ => by simp [pureRes] at h
 | .choose .., _, h, _ => by simp [pureRes] at h
 | .sys .., _, h, _ => by simp [pureRes] at h
 | .halt .., _, h, _ => by simp [pureRes] at h
inductive It where
 | co (p : List Nat)
 | op (p : List Nat) (i : Nat)
 | bl (id : Nat)
 | le (j : Nat)
def cAt : Code → List Nat → Code
 | c, [] => c
 | .seq a _, 0 :: p => cAt a p
 | .seq _ b, _ :: p => cAt b p
 | .cond _ a _, 0 :: p => cAt a p
 | .cond _ _ b, _ :: p => cAt b p
 | .block _ b, _ :: p => cAt b p
 | .loop b, _ :: p => cAt b p
 | .scope b, _ :: p => cAt b p
 | .rangeFunc _ _ a _, 0 :: p => cAt a p
 | .rangeFunc _ _ _ b, _ :: p => cAt b p
 | _, _ => .skip
theorem cAt_append : ∀ (c : Code) (p q : List Nat), cAt c (p ++ q) = cAt (cAt c p) q
 | c, [], q => by simp [cAt]
 | c, x :: p, q => by
  cases c <;> cases x <;> simp [cAt, cAt_append] <;> (cases q <;> simp [cAt])
def opsAt (c : Code) (p : List Nat) : Array Oper :=
 match cAt c p with
 | .region _ ops _ => ops
 | _ => #[]
def wants (κ : Kn) (ops : Array Oper) (o : Oper) : Option Bool :=
 match o.guard with
 | none => some true
 | some (j, want) => match ops[j]? with
  | none => none
  | some oj => match oj.dst with
   | none => none
   | some d => match fnd κ d with
    | some (.bool b) => some (b == want)
    | some (.tuple _) => some false
    | _ => none
theorem wants_sound {n : Cx} {κ : Kn} {a : Act} (h : Ag n κ a) {ops : Array Oper} {o : Oper} {b : Bool} (hw : wants κ ops o = some b) : Region.wanted o (yielded ops a.tmps) = b := by
 unfold wants at hw
 unfold Region.wanted
 cases hg : o.guard with
 | none => simp only [hg] at hw ⊢; exact Option.some.inj hw
 | some g =>
  obtain ⟨j, want⟩ := g
  simp only [hg] at hw ⊢
  cases hj : ops[j]? with
  | none => simp [hj] at hw
  | some oj =>
   simp only [hj] at hw
   cases hd : oj.dst with
   | none => simp [hd] at hw
   | some d =>
    simp only [hd] at hw
    cases hf : fnd κ d with
    | none => simp [hf] at hw
    | some v =>
     have hget := h.get d v hf
     have key : ∀ u, v ≠ undef → a.tmps[d]? = some u → u = v := by
      intro u _ hu
      rw [Array.getD_eq_getD_getElem?, hu] at hget
      exact hget
     cases v with
     | bool c =>
      simp only [hf, Option.some.injEq] at hw
      subst hw
      have hs : a.tmps[d]? = some (.bool c) := by
       cases hx : a.tmps[d]? with
       | none => rw [Array.getD_eq_getD_getElem?, hx] at hget; simp [undef] at hget
       | some u => rw [Array.getD_eq_getD_getElem?, hx] at hget; simp at hget; rw [hget]
      simp [yielded, hj, hd, hs]
     | tuple vs =>
      simp only [hf, Option.some.injEq] at hw
      subst hw
      have hs : a.tmps[d]? = none ∨ a.tmps[d]? = some (.tuple vs) := by
       cases hx : a.tmps[d]? with
       | none => exact .inl rfl
       | some u => rw [Array.getD_eq_getD_getElem?, hx] at hget; simp at hget; rw [hget]; exact .inr rfl
      rcases hs with hs | hs <;> simp [yielded, hj, hd, hs]
     | _ => simp [hf] at hw
def noSel (o : Op) : Bool :=
 match o with
 | .select _ _ => false
 | .defer _ => false
 | _ => true
theorem noSel_nd {o : Oper} (h : noSel o.op = true) : noDefer o = true := by
 unfold noDefer
 cases hop : o.op <;> first | rfl | (rw [hop] at h; cases h)
def fetch (B : Code) (n : Cx) (p : List Nat) (i : Nat) (κ : Kn) : Option (Option Nat × Sem Next) :=
 match (opsAt B p)[i]? with
 | none => none
 | some o =>
  match wants κ (opsAt B p) o with
  | some true =>
   cond (dok o.dst n.n && noSel o.op && o.op.operands.all (fun x => (ev κ x).isSome)) (some (o.dst, execOp (evT κ) o)) none
  | _ => none
theorem fetch_spec {B : Code} {n : Cx} {p : List Nat} {i : Nat} {κ : Kn} {d : Option Nat} {s : Sem Next} (h : fetch B n p i κ = some (d, s)) :
  ∃ o, (opsAt B p)[i]? = some o ∧ noDefer o = true ∧ o.dst = d ∧ dok d n.n = true ∧ ∀ a, Ag n κ a → Region.wanted o (yielded (opsAt B p) a.tmps) = true ∧ execOp a.eval o = s := by
 unfold fetch at h
 cases ho : (opsAt B p)[i]? with
 | none => rw [ho] at h; cases h
 | some o =>
  rw [ho] at h
  simp only at h
  cases hw : wants κ (opsAt B p) o with
  | none => rw [hw] at h; cases h
  | some b =>
   rw [hw] at h
   cases b with
   | false => cases h
   | true =>
    simp only at h
    cases hc : (dok o.dst n.n && noSel o.op && o.op.operands.all (fun x => (ev κ x).isSome)) with
    | false => rw [hc] at h; cases h
    | true =>
     rw [hc] at h
     simp only [cond_true, Option.some.injEq, Prod.mk.injEq] at h
     obtain ⟨rfl, rfl⟩ := h
     simp only [Bool.and_eq_true] at hc
     refine ⟨o, rfl, noSel_nd hc.1.2, rfl, hc.1.1, fun a ha => ⟨wants_sound ha hw, ?_⟩⟩
     refine execOp_congr o ?_ ?_
     ·intro cs b e
      have := hc.1.2
      rw [e] at this
      cases this
     ·intro x hx
      refine ha.evT ?_
      have := Array.all_eq_true_iff_forall_mem.1 hc.2 x hx
      exact this
section
variable (P : Program) (B : Code) (ro : Option Nat) (Q : Exit → Act → World → Prop) (J : Nat → Act → World → Prop)
def Hd : List It → Exit → Act → World → Prop
 | [] => Q
 | .bl id :: k => Exit.inBlock id (Hd k)
 | .le j :: k => Exit.then (J j) (Hd k)
 | .co p :: k => Exit.then ((cAt B p).wpIn (Fr ro) 0 P (Hd k)) (Hd k)
 | .op p i :: k => Exit.then (wpListIn (Fr ro) 0 P (opsAt B p) (Hd k) ((opsAt B p).toList.drop i)) (Hd k)
end
def R (P : Program) (B : Code) (Q : Exit → Act → World → Prop) (J : Nat → Act → World → Prop) (n : Cx) (k : List It) (κ : Kn) (w : World) : Prop := ∀ a, Ag n κ a → Hd P B n.ro Q J k .normal a w
section
variable {P : Program} {B : Code} {Q : Exit → Act → World → Prop} {J : Nat → Act → World → Prop} {n : Cx} {ro : Option Nat}
def popTo (id : Nat) : List It → Option (List It)
 | [] => none
 | .bl id' :: k => cond (Nat.beq id' id) (some k) (popTo id k)
 | _ :: k => popTo id k
theorem Hd_exit (id : Nat) (a : Act) (w : World) : ∀ (k k' : List It), popTo id k = some k' → Hd P B ro Q J k' .normal a w → Hd P B ro Q J k (.exit id) a w
 | [], k', h, _ => by simp [popTo] at h
 | .bl id' :: k, k', h, hk => by
  simp only [popTo] at h
  simp only [Hd, Exit.inBlock]
  cases hb : Nat.beq id' id with
  | true =>
   rw [hb] at h
   simp only [cond_true, Option.some.injEq] at h
   subst h
   have := Nat.eq_of_beq_eq_true hb
   rw [if_pos this.symm]
   exact hk
  | false =>
   rw [hb] at h
   have hne : id ≠ id' := fun e => by rw [e, Nat.beq_refl] at hb; cases hb
   rw [if_neg hne]
   exact Hd_exit id a w k k' h hk
 | .co p :: k, k', h, hk => Hd_exit id a w k k' h hk
 | .op p i :: k, k', h, hk => Hd_exit id a w k k' h hk
 | .le j :: k, k', h, hk => Hd_exit id a w k k' h hk
theorem Hd_ret (a : Act) (w : World) (h : Q .ret a w) : ∀ k : List It, Hd P B ro Q J k .ret a w
 | [] => h
 | .bl _ :: k => Hd_ret a w h k
 | .co _ :: k => Hd_ret a w h k
 | .op _ _ :: k => Hd_ret a w h k
 | .le _ :: k => Hd_ret a w h k
def stp (P : Program) (B : Code) (n : Cx) : List It → Kn → Option (List It × Kn)
 | [], _ => none
 | .bl _ :: k, κ => some (k, κ)
 | .le _ :: _, _ => none
 | .co p :: k, κ => match cAt B p with
  | .skip => some (k, κ)
  | .label _ => some (k, κ)
  | .seq _ _ => some (.co (p ++ [0]) :: .co (p ++ [1]) :: k, κ)
  | .block id _ => some (.co (p ++ [0]) :: .bl id :: k, κ)
  | .cond c _ _ => match ev κ c with
   | some (.bool true) => some (.co (p ++ [0]) :: k, κ)
   | some (.bool false) => some (.co (p ++ [1]) :: k, κ)
   | _ => none
  | .exit id => match popTo id k with
   | some k' => some (k', κ)
   | none => none
  | .region _ _ false => some (.op p 0 :: k, κ)
  | _ => none
 | .op p i :: k, κ => match (opsAt B p)[i]? with
  | none => some (k, κ)
  | some o => match wants κ (opsAt B p) o with
   | some false => cond (dok o.dst n.n) (some (.op p (i + 1) :: k, putk o.dst undef κ)) none
   | some true => match fetch B n p i κ with
    | some (d, s) => match pureRes P s with
     | some v => some (.op p (i + 1) :: k, putk d v κ)
     | none => none
    | none => none
   | none => none
theorem R_op_next {p : List Nat} {i : Nat} {k : List It} {a : Act} {w : World} {o : Oper} (ho : (opsAt B p)[i]? = some o)
  (h : ∀ K : Act → World → Prop, (∀ a w, Hd P B ro Q J (.op p (i + 1) :: k) .normal a w → K a w) → if Region.wanted o (yielded (opsAt B p) a.tmps) then o.wpIn (Fr ro) 0 P a w K (Hd P B ro Q J k) else K (a.put o.dst undef) w) :
  Hd P B ro Q J (.op p i :: k) .normal a w := by
 simp only [Hd, Exit.then] at h ⊢
 have hl : (opsAt B p).toList.drop i = o :: (opsAt B p).toList.drop (i + 1) := by
  have hi : i < (opsAt B p).toList.length := by
   have := (Array.getElem?_eq_some_iff.1 ho).1
   simpa using this
  rw [List.drop_eq_getElem_cons hi]
  congr 1
  have h2 := (Array.getElem?_eq_some_iff.1 ho).2
  simpa using h2
 rw [hl]
 refine wpListIn_step fun K hK => ?_
 have := h K hK
 split at this
 ·rename_i hw; rw [if_pos hw]; exact this
 ·rename_i hw; rw [if_neg hw]; exact ⟨fun _ _ => trivial, this⟩
theorem stp_sound {k k' : List It} {κ κ' : Kn} {w : World} (h : stp P B n k κ = some (k', κ')) (hk : R P B Q J n k' κ' w) : R P B Q J n k κ w := by
 intro a ha
 cases k with
 | nil => simp [stp] at h
 | cons x k =>
  cases x with
  | bl id =>
   simp only [stp, Option.some.injEq, Prod.mk.injEq] at h
   obtain ⟨rfl, rfl⟩ := h
   exact hk a ha
  | le j => simp [stp] at h
  | co p =>
   simp only [stp] at h
   simp only [Hd, Exit.then]
   cases hc : cAt B p with
   | skip =>
    simp only [hc, Option.some.injEq, Prod.mk.injEq] at h
    obtain ⟨rfl, rfl⟩ := h
    exact wpIn_skip (hk a ha)
   | label l =>
    simp only [hc, Option.some.injEq, Prod.mk.injEq] at h
    obtain ⟨rfl, rfl⟩ := h
    exact wpIn_label (hk a ha)
   | seq x y =>
    simp only [hc, Option.some.injEq, Prod.mk.injEq] at h
    obtain ⟨rfl, rfl⟩ := h
    refine wpIn_seq ?_
    have := hk a ha
    simpa only [Hd, Exit.then, cAt_append, hc, cAt] using this
   | block id x =>
    simp only [hc, Option.some.injEq, Prod.mk.injEq] at h
    obtain ⟨rfl, rfl⟩ := h
    refine wpIn_block ?_
    have := hk a ha
    simpa only [Hd, Exit.then, cAt_append, hc, cAt] using this
   | cond c x y =>
    simp only [hc] at h
    cases hv : ev κ c with
    | none => simp [hv] at h
    | some v =>
     cases v <;> simp only [hv, reduceCtorEq] at h
     rename_i b
     cases b with
     | true =>
      simp only [Option.some.injEq, Prod.mk.injEq] at h
      obtain ⟨rfl, rfl⟩ := h
      refine wpIn_cond_true (ha.ev hv) ?_
      have := hk a ha
      simpa only [Hd, Exit.then, cAt_append, hc, cAt] using this
     | false =>
      simp only [Option.some.injEq, Prod.mk.injEq] at h
      obtain ⟨rfl, rfl⟩ := h
      refine wpIn_cond_false (ha.ev hv) ?_
      have := hk a ha
      simpa only [Hd, Exit.then, cAt_append, hc, cAt] using this
   | exit id =>
    simp only [hc] at h
    cases hp : popTo id k with
    | none => simp [hp] at h
    | some k2 =>
     simp only [hp, Option.some.injEq, Prod.mk.injEq] at h
     obtain ⟨rfl, rfl⟩ := h
     exact wpIn_exit (Hd_exit id a w k _ hp (hk a ha))
   | region id ops d =>
    cases d with
    | true => simp [hc] at h
    | false =>
     simp only [hc, Option.some.injEq, Prod.mk.injEq] at h
     obtain ⟨rfl, rfl⟩ := h
     refine wpIn_region_list ?_
     have := hk a ha
     simpa only [Hd, Exit.then, opsAt, hc, List.drop_zero] using this
   | _ => simp [hc] at h
  | op p i =>
   simp only [stp] at h
   cases ho : (opsAt B p)[i]? with
   | none =>
    simp only [ho, Option.some.injEq, Prod.mk.injEq] at h
    obtain ⟨rfl, rfl⟩ := h
    simp only [Hd, Exit.then]
    have hl : (opsAt B p).toList.drop i = [] := by
     rw [List.drop_eq_nil_iff]
     have := Array.getElem?_eq_none_iff.1 ho
     simpa using this
    rw [hl]
    exact wpListIn_nil (hk a ha)
   | some o =>
    simp only [ho] at h
    refine R_op_next ho fun K hK => ?_
    cases hw : wants κ (opsAt B p) o with
    | none => simp [hw] at h
    | some b =>
     have hws := wants_sound ha hw
     cases b with
     | false =>
      simp only [hw] at h
      cases hd : dok o.dst n.n with
      | false => simp [hd] at h
      | true =>
       simp only [hd, cond_true, Option.some.injEq, Prod.mk.injEq] at h
       obtain ⟨rfl, rfl⟩ := h
       rw [hws]
       exact hK _ _ (hk _ (ha.put _ hd _))
     | true =>
      simp only [hw] at h
      cases hf : fetch B n p i κ with
      | none => simp [hf] at h
      | some ds =>
       obtain ⟨d, s⟩ := ds
       simp only [hf] at h
       cases hr : pureRes P s with
       | none => simp [hr] at h
       | some v =>
        simp only [hr, Option.some.injEq, Prod.mk.injEq] at h
        obtain ⟨rfl, rfl⟩ := h
        obtain ⟨o', ho', hnd, rfl, hd, he⟩ := fetch_spec hf
        rw [ho] at ho'
        obtain rfl := Option.some.inj ho'
        obtain ⟨h1, h2⟩ := he a ha
        rw [h1]
        rw [if_pos rfl]
        refine wp_fr hnd ?_
        simp only [Oper.wp, h2]
        rcases pureRes_run hr w with h3 | ⟨h3, h4⟩
        ·rw [h3]
         exact hK _ _ (hk _ (ha.put _ hd _))
        ·subst h4
         rw [h3]
         exact hK _ _ (hk _ (ha.put _ hd _))
def stpN (P : Program) (B : Code) (n : Cx) : Nat → List It → Kn → Option (List It × Kn)
 | 0, k, κ => some (k, κ)
 | N + 1, k, κ => match stp P B n k κ with
  | some (k', κ') => stpN P B n N k' κ'
  | none => none
theorem stpN_sound : ∀ (N : Nat) {k k' : List It} {κ κ' : Kn} {w : World}, stpN P B n N k κ = some (k', κ') → R P B Q J n k' κ' w → R P B Q J n k κ w
 | 0, k, k', κ, κ', w, h, hk => by
  simp only [stpN, Option.some.injEq, Prod.mk.injEq] at h
  obtain ⟨rfl, rfl⟩ := h
  exact hk
 | N + 1, k, k', κ, κ', w, h, hk => by
  simp only [stpN] at h
  cases hs : stp P B n k κ with
  | none => simp [hs] at h
  | some x =>
   obtain ⟨k1, κ1⟩ := x
   simp only [hs] at h
   exact stp_sound hs (stpN_sound N h hk)
def segN (P : Program) (B : Code) (n : Cx) (N : Nat) (ts : List Nat) (k : List It) (κ : Kn) : Option (List It × Kn) :=
 match stpN P B n N k κ with
 | some (k', κ') => match resK κ' ts with
  | some l => some (k', l)
  | none => none
 | none => none
theorem seg (N : Nat) (k' : List It) (κ' : Kn) {k : List It} {κ : Kn} {w : World} (h : segN P B n N (κ'.map Prod.fst) k κ = some (k', κ')) (hk : R P B Q J n k' κ' w) : R P B Q J n k κ w := by
 unfold segN at h
 cases hs : stpN P B n N k κ with
 | none => simp [hs] at h
 | some x =>
  obtain ⟨k1, κ1⟩ := x
  simp only [hs] at h
  cases hr : resK κ1 (κ'.map Prod.fst) with
  | none => simp [hr] at h
  | some l =>
   simp only [hr, Option.some.injEq, Prod.mk.injEq] at h
   obtain ⟨rfl, rfl⟩ := h
   exact stpN_sound N hs fun a ha => hk a (ha.res hr)
def Step (P : Program) (B : Code) (n : Cx) (p : List Nat) (i : Nat) (κ : Kn) (w : World) (X : Kn → World → Prop) : Prop :=
 ∀ (Q : Exit → Act → World → Prop) (K : Act → World → Prop), (∀ κ' w' a', X κ' w' → Ag n κ' a' → K a' w') → ∀ a, Ag n κ a →
  ∃ o, (opsAt B p)[i]? = some o ∧ noDefer o = true ∧ Region.wanted o (yielded (opsAt B p) a.tmps) = true ∧ o.wp P a w K Q
theorem st {p : List Nat} {i : Nat} {k : List It} {κ : Kn} {w : World} (h : Step P B n p i κ w (fun κ' w' => R P B Q J n (.op p (i + 1) :: k) κ' w')) : R P B Q J n (.op p i :: k) κ w := by
 intro a ha
 obtain ⟨o, ho, _, _, _⟩ := h (Hd P B n.ro Q J k) _ (fun κ' w' a' hx ha' => hx a' ha') a ha
 refine R_op_next ho fun K hK => ?_
 obtain ⟨o', ho', hnd, hw, h2⟩ := h (Hd P B n.ro Q J k) K (fun κ' w' a' hx ha' => hK _ _ (hx a' ha')) a ha
 rw [ho] at ho'
 obtain rfl := Option.some.inj ho'
 rw [hw, if_pos rfl]
 exact wp_fr hnd h2
section
variable {p : List Nat} {i : Nat} {κ : Kn} {w w' w1 : World} {d : Option Nat} {s : Sem Next} {X : Kn → World → Prop}
theorem runR {v : Value} (ho : fetch B n p i κ = some (d, s)) (hr : s.run P w = .ok (.value v) w') (hk : X (putk d v κ) w') : Step P B n p i κ w X := by
 intro Q K hK a ha
 obtain ⟨o, ho', hnd, rfl, hd, he⟩ := fetch_spec ho
 obtain ⟨h1, h2⟩ := he a ha
 refine ⟨o, ho', hnd, h1, ?_⟩
 simp only [Oper.wp, h2, hr]
 exact hK _ _ _ hk (ha.put _ hd _)
theorem skipR (ho : fetch B n p i κ = some (d, s)) (hr : s.run P w = .ok .skip w') (hk : X (putk d undef κ) w') : Step P B n p i κ w X := by
 intro Q K hK a ha
 obtain ⟨o, ho', hnd, rfl, hd, he⟩ := fetch_spec ho
 obtain ⟨h1, h2⟩ := he a ha
 refine ⟨o, ho', hnd, h1, ?_⟩
 simp only [Oper.wp, h2, hr]
 exact hK _ _ _ hk (ha.put _ hd _)
theorem enterR {f : FuncId} {args : Array Value} {Φ : Value → World → Prop} (ho : fetch B n p i κ = some (d, s))
  (hr : s.run P w = .ok (.enter f args) w1) (hc : Calls P f args w1 fun e w' => ∃ v, e = .returned v ∧ Φ v w')
  (hk : ∀ v w', Φ v w' → X (putk d v κ) w') : Step P B n p i κ w X := by
 intro Q K hK a ha
 obtain ⟨o, ho', hnd, rfl, hd, he⟩ := fetch_spec ho
 obtain ⟨h1, h2⟩ := he a ha
 refine ⟨o, ho', hnd, h1, ?_⟩
 simp only [Oper.wp, h2, hr, Oper.upon]
 refine hc.mono ?_
 rintro e w' ⟨v, rfl, hΦ⟩
 exact hK _ _ _ (hk _ _ hΦ) (ha.put _ hd _)
end
def bodyOf (fn : Func) : Code := match fn.body with
 | some c => c
 | none => .skip
def argK : List Value → Nat → Kn
 | [], _ => []
 | v :: r, i => (i, v) :: argK r (i + 1)
theorem argK_get (l : List Value) : ∀ (i t : Nat) (v : Value), fnd (argK l i) t = some v → i ≤ t ∧ l[t - i]? = some v := by
 induction l with
 | nil => intro i t v h; simp [argK, fnd] at h
 | cons x r ih =>
  intro i t v h
  simp only [argK, fnd] at h
  cases hb : Nat.beq i t with
  | true =>
   rw [hb] at h
   have := Nat.eq_of_beq_eq_true hb
   subst this
   simp only [cond_true, Option.some.injEq] at h
   subst h
   simp
  | false =>
   rw [hb] at h
   obtain ⟨h1, h2⟩ := ih (i + 1) t v h
   have e : t - i = (t - (i + 1)) + 1 := by omega
   exact ⟨by omega, by rw [e]; simpa using h2⟩
def bodyP (P : Program) (fn : Func) (Rp : Ending → World → Prop) : Exit → Act → World → Prop
 | .normal, a, w => LeavesInM (Fr none) 0 P fn a.tmps Rp a.defers .returning w
 | .ret, a, w => LeavesInM (Fr none) 0 P fn a.tmps Rp a.defers .returning w
 | .panic c, a, w => LeavesInM (Fr none) 0 P fn a.tmps Rp a.defers (.panicking c) w
 | _, _, _ => False
class NPc (Q : Exit → Act → World → Prop) : Prop where
 np : True
instance {Q : Exit → Act → World → Prop} : NPc Q := ⟨trivial⟩
def npx (Q : Exit → Act → World → Prop) : Exit → Act → World → Prop
 | .panic _, _, _ => False
 | .outgrown, _, _ => False
 | e, a, w => Q e a w
theorem npx_np (Q : Exit → Act → World → Prop) : NP (npx Q) := ⟨fun _ _ _ h => h, fun _ _ h => h⟩
theorem npx_mono {Q : Exit → Act → World → Prop} (e : Exit) (a : Act) (w : World) (h : npx Q e a w) : Q e a w := by
 cases e <;> first | exact h | exact h.elim
def Lv : List Nat → (World → Prop) → World → Prop
 | [], X, w => X w
 | D :: ds, X, w => w.heap[D]? = some (.deferred (some [])) ∧ Lv ds X (w.putObj D (.deferred none))
theorem leavesM {fn : Func} {tmps : Array Value} {Rp : Ending → World → Prop} : ∀ {ds : List Nat} {w : World}, Lv ds (fun w' => ∃ v, (results fn tmps).run P w' = .ok v w' ∧ Rp (.returned v) w') w → LeavesInM (Fr none) 0 P fn tmps Rp (ds.map mkD) .returning w
 | [], w, h => h
 | D :: ds, w, h => ⟨by simp, .inl ⟨D, _, rfl, run_takeDeferred h.1, leavesM h.2⟩⟩
theorem callsR {f : FuncId} {fn : Func} {args : Array Value} {w : World} {Rp : Ending → World → Prop} (hf : P.funcs[f]? = some fn) (hb : fn.body.isSome = true) (hn : Nat.ble args.size fn.ntmps = true)
  (h : R P (bodyOf fn) (bodyP P fn Rp) (fun _ _ _ => False) ⟨fn.ntmps, none, [], []⟩ [.co []] (argK args.toList 0) w) : Calls P f args w Rp := by
 obtain ⟨c, hc⟩ := Option.isSome_iff_exists.1 hb
 have e : bodyOf fn = c := by simp [bodyOf, hc]
 refine calls_fr (ro := none) (n := 0) (callsIn_of_wp_marks hf hc trivial ?_ rfl)
 have := h { tmps := args ++ Array.replicate (fn.ntmps - args.size) undef, defers := [] } ⟨rfl, ?_, ?_⟩
 ·simp only [Hd, Exit.then, cAt, e] at this
  exact wpIn_mono this fun x a w hx => by
   cases x with
   | panic c => exact hx
   | _ => first | exact hx | exact hx.elim
 ·have := Nat.le_of_ble_eq_true hn
  simp
  omega
 ·intro t v hv
  obtain ⟨_, h2⟩ := argK_get _ 0 t v hv
  simp only [Nat.sub_zero, Array.getElem?_toList] at h2
  have hlt := (Array.getElem?_eq_some_iff.1 h2).1
  show (args ++ Array.replicate (fn.ntmps - args.size) undef).getD t undef = v
  rw [Array.getD_eq_getD_getElem?, Array.getElem?_append_left hlt, h2]
  rfl
def getL (κ : Kn) : List Nat → Option (List Value)
 | [] => some []
 | t :: r => match fnd κ t with
  | some v => match getL κ r with
   | some l => some (v :: l)
   | none => none
  | none => none
theorem getL_sound {κ : Kn} {a : Act} (ha : Ag n κ a) : ∀ {ts : List Nat} {vs : List Value}, getL κ ts = some vs → ts.map (fun t => a.tmps.getD t undef) = vs
 | [], vs, h => by
  simp only [getL, Option.some.injEq] at h
  subst h
  rfl
 | t :: r, vs, h => by
  simp only [getL] at h
  cases hf : fnd κ t with
  | none => simp [hf] at h
  | some v =>
   simp only [hf] at h
   cases hr : getL κ r with
   | none => simp [hr] at h
   | some l =>
    simp only [hr, Option.some.injEq] at h
    subst h
    rw [List.map_cons, getL_sound ha hr, ha.get t v hf]
def packV : List Value → Value
 | [v] => v
 | l => .tuple l.toArray
def isRet (B : Code) (p : List Nat) : Bool := match cAt B p with
 | .ret => true
 | _ => false
def resTs : List ResultVar → Option (List Nat)
 | [] => some []
 | .tmp t :: r => match resTs r with
  | some l => some (t :: l)
  | none => none
 | .cell _ _ :: _ => none
theorem resTs_map : ∀ {l : List ResultVar} {ts : List Nat}, resTs l = some ts → l = ts.map .tmp
 | [], ts, h => by simp only [resTs, Option.some.injEq] at h; subst h; rfl
 | .tmp t :: r, ts, h => by
  simp only [resTs] at h
  cases hr : resTs r with
  | none => simp [hr] at h
  | some l =>
   simp only [hr, Option.some.injEq] at h
   subst h
   rw [List.map_cons, ← resTs_map hr]
 | .cell _ _ :: _, _, h => by simp [resTs] at h
theorem mapM_tmps (P : Program) (w : World) (tmps : Array Value) : ∀ ts : List Nat, (List.mapM (m := Sem) (fun r : ResultVar => match r with
  | .tmp t => pure (tmps.getD t undef)
  | .cell a t => do loadVar t (← asAddr (tmps.getD a undef))) (ts.map .tmp)).run P w = .ok (ts.map fun t => tmps.getD t undef) w
 | [] => rfl
 | t :: r => by
  rw [List.map_cons, List.mapM_cons, List.map_cons]
  simp only [pure_bind, Sem.run_bind, mapM_tmps P w tmps r, Result.andThen_ok, Sem.run_pure]
theorem results_run {fn : Func} {ts : List Nat} (h : resTs fn.results.toList = some ts) (tmps : Array Value) (w : World) : (results fn tmps).run P w = .ok (packV (ts.map fun t => tmps.getD t undef)) w := by
 have e : fn.results = (ts.map ResultVar.tmp).toArray := by
  rw [← resTs_map h]
 unfold results
 rw [e, List.mapM_toArray]
 have := mapM_tmps P w tmps ts
 simp only [Sem.run_bind]
 rw [show ∀ (X : Sem (List Value)), (List.toArray <$> X : Sem (Array Value)) = X >>= fun l => pure l.toArray from fun _ => rfl]
 rw [Sem.run_bind]
 erw [this]
 simp only [Result.andThen_ok, Sem.run_pure]
 generalize List.map (fun t => tmps.getD t undef) ts = l
 match l with
 | [] => rfl
 | [v] => rfl
 | u :: v :: r => simp [packV]
theorem Lv.imp {X Y : World → Prop} (h : ∀ w, X w → Y w) : ∀ {ds : List Nat} {w : World}, Lv ds X w → Lv ds Y w
 | [], w, k => h w k
 | D :: ds, w, k => ⟨k.1, Lv.imp h k.2⟩
theorem retM {fn : Func} {Rp : Ending → World → Prop} {p : List Nat} {k : List It} {κ : Kn} {w : World} (ts : List Nat) (vs : List Value) (hc : isRet B p = true) (hr : resTs fn.results.toList = some ts)
  (hv : getL κ ts = some vs) (h : Lv n.ds (Rp (.returned (packV vs))) w) (hdf : n.df = [] := by rfl) : R P B (bodyP P fn Rp) J n (.co p :: k) κ w := by
 intro a ha
 simp only [Hd, Exit.then]
 have e : cAt B p = .ret := by
  unfold isRet at hc
  split at hc
  ·assumption
  ·cases hc
 rw [e]
 refine wpIn_ret (Hd_ret a w ?_ k)
 show LeavesInM (Fr none) 0 P fn a.tmps Rp a.defers .returning w
 rw [ha.defers, Cx.dl, hdf, List.append_nil]
 refine leavesM (h.imp fun w' h => ⟨_, results_run hr a.tmps w', ?_⟩)
 rw [getL_sound ha hv]
 exact h
theorem retR {N : Nat} {fn : Func} {Rp : Ending → World → Prop} {p : List Nat} {k : List It} {κ : Kn} {w : World} (ts : List Nat) (vs : List Value) (hc : isRet B p = true) (hr : resTs fn.results.toList = some ts)
  (hv : getL κ ts = some vs) (h : Rp (.returned (packV vs)) w) : R P B (bodyP P fn Rp) J ⟨N, none, [], []⟩ (.co p :: k) κ w := retM (n := ⟨N, none, [], []⟩) ts vs hc hr hv h
def upJ (j : Nat) (I : Act → World → Prop) (J : Nat → Act → World → Prop) : Nat → Act → World → Prop := fun i => cond (Nat.beq i j) I (J i)
def noLe (j : Nat) : List It → Bool
 | [] => true
 | .le i :: k => !(Nat.beq i j) && noLe j k
 | _ :: k => noLe j k
theorem Hd_upJ {j : Nat} {I : Act → World → Prop} : ∀ {k : List It}, noLe j k = true → Hd P B ro Q (upJ j I J) k = Hd P B ro Q J k
 | [], _ => rfl
 | .bl _ :: k, h => by simp only [Hd]; rw [Hd_upJ (k := k) h]
 | .co _ :: k, h => by simp only [Hd]; rw [Hd_upJ (k := k) h]
 | .op _ _ :: k, h => by simp only [Hd]; rw [Hd_upJ (k := k) h]
 | .le i :: k, h => by
  simp only [noLe, Bool.and_eq_true, Bool.not_eq_true'] at h
  simp only [Hd]
  rw [Hd_upJ (k := k) h.2]
  simp only [upJ, h.1, cond_false]
def isLoop (B : Code) (p : List Nat) : Bool := match cAt B p with
 | .loop _ => true
 | _ => false
def LInv {α : Type} (n : Cx) (κi : α → Kn) (Φ : α → World → Prop) (μ : α → Nat) (x : α) : Act → World → Prop := fun a w => ∃ y, μ y < μ x ∧ Φ y w ∧ Ag n (κi y) a
theorem loopR {α : Type} (j : Nat) (κi : α → Kn) (Φ : α → World → Prop) (μ : α → Nat) (x0 : α) {p : List Nat} {k : List It} {κ : Kn} {w : World}
  (hl : isLoop B p = true) (hj : noLe j k = true) (h0 : resK κ ((κi x0).map Prod.fst) = some (κi x0)) (hΦ : Φ x0 w)
  (round : ∀ x w, Φ x w → R P B Q (upJ j (LInv n κi Φ μ x) J) n (.co (p ++ [0]) :: .le j :: k) (κi x) w) : R P B Q J n (.co p :: k) κ w := by
 intro a ha
 simp only [Hd, Exit.then]
 obtain ⟨c, hc⟩ : ∃ c, cAt B p = .loop c := by
  unfold isLoop at hl
  split at hl
  ·exact ⟨_, by assumption⟩
  ·cases hl
 rw [hc]
 refine wpIn_loop_ghost (fun m a w => ∃ x, μ x = m ∧ Φ x w ∧ Ag n (κi x) a) (μ x0) ⟨x0, rfl, hΦ, ha.res h0⟩ ?_
 rintro m a w ⟨x, rfl, hx, hax⟩
 have := round x w hx a hax
 simp only [Hd, Exit.then, cAt_append, hc, cAt] at this
 refine wpIn_mono this ?_
 intro e a' w' hq
 cases e with
 | normal =>
  simp only [Exit.then, upJ, Nat.beq_refl, cond_true] at hq
  obtain ⟨y, h1, h2, h3⟩ := hq
  exact ⟨μ y, h1, y, rfl, h2, h3⟩
 | _ => simp only [Exit.then] at hq ⊢; rw [Hd_upJ hj] at hq; exact hq
theorem leR {α : Type} {j : Nat} {κi : α → Kn} {Φ : α → World → Prop} {μ : α → Nat} {x : α} {k : List It} {κ : Kn} {w : World} (y : α) (hμ : μ y < μ x) (hΦ : Φ y w)
  (h : resK κ ((κi y).map Prod.fst) = some (κi y)) : R P B Q (upJ j (LInv n κi Φ μ x) J) n (.le j :: k) κ w := by
 intro a ha
 simp only [Hd, Exit.then, upJ, Nat.beq_refl, cond_true]
 exact ⟨y, hμ, hΦ, ha.res h⟩
theorem leR_up {j i : Nat} {I : Act → World → Prop} {k k' : List It} {κ : Kn} {w : World} (hij : Nat.beq i j = false) (h : R P B Q J n (.le i :: k') κ w) : R P B Q (upJ j I J) n (.le i :: k) κ w := by
 intro a ha
 have := h a ha
 simp only [Hd, Exit.then, upJ, hij, cond_false] at this ⊢
 exact this
def listedOf (m : Nat) (done : List Nat) : Array Bool := done.foldl (fun l i => l.setIfInBounds i true) (Array.replicate m false)
theorem listedOf_snoc (m : Nat) (done : List Nat) (i : Nat) : listedOf m (done ++ [i]) = (listedOf m done).setIfInBounds i true := by simp [listedOf]
def isDraw (B : Code) (p : List Nat) : Bool := match cAt B p with
 | .region _ ops true => ops.all noDefer
 | _ => false
theorem Hd_panic (c : List PanicEntry) (a : Act) (w : World) : ∀ k : List It, Hd P B ro Q J k (.panic c) a w = Q (.panic c) a w
 | [] => rfl
 | .bl _ :: k => Hd_panic c a w k
 | .co _ :: k => Hd_panic c a w k
 | .op _ _ :: k => Hd_panic c a w k
 | .le _ :: k => Hd_panic c a w k
def D (P : Program) (B : Code) (Q : Exit → Act → World → Prop) (J : Nat → Act → World → Prop) (n : Cx) (p : List Nat) (k : List It) (S : World → Prop) (done : List Nat) (κ : Kn) (w : World) : Prop :=
 S w ∧ ∀ a, Ag n κ a → wpAnyH P .any (opsAt B p) (npx (Hd P B n.ro Q J k)) S ((opsAt B p).size - done.length) (listedOf (opsAt B p).size done) a w
section
variable {p : List Nat} {k : List It} {κ : Kn} {w : World} {S : World → Prop} {done : List Nat} [NPc Q]
theorem drawR (S : World → Prop) (hd : isDraw B p = true) (hm : P.follows .mixedOrders = true)
  (h : D P B Q J n p k S [] κ { w with drawn := w.drawn + 1 }) : R P B Q J n (.co p :: k) κ w := by
 intro a ha
 simp only [Hd, Exit.then]
 obtain ⟨id, ops, hc, hnd⟩ : ∃ id ops, cAt B p = .region id ops true ∧ ops.all noDefer = true := by
  unfold isDraw at hd
  split at hd
  ·exact ⟨_, _, by assumption, hd⟩
  ·cases hd
 have ho : opsAt B p = ops := by simp [opsAt, hc]
 rw [hc]
 have := h.2 a ha
 rw [ho] at this
 refine wpIn_mono (Q := npx (Hd P B n.ro Q J k)) (wpIn_region_draw fun t => ?_) npx_mono
 simp only [Region.schedule, hm, Bool.true_or, if_true]
 exact ops_fr (npx_np _) hnd _ _ _ (wpAny_sound ops.size t _ a _ (wpAny_of_held _ _ _ _ this))
def onlyB (B : Code) (p : List Nat) (done : List Nat) (i : Nat) : Bool := match Region.ready .any (opsAt B p) (listedOf (opsAt B p).size done) with
 | [j] => Nat.beq j i && Nat.blt done.length (opsAt B p).size
 | _ => false
theorem stD {i : Nat} (hr : onlyB B p done i = true) (hS : S w) (h : Step P B n p i κ w (fun κ' w' => D P B Q J n p k S (done ++ [i]) κ' w')) : D P B Q J n p k S done κ w := by
 refine ⟨hS, fun a ha => ?_⟩
 unfold onlyB at hr
 split at hr
 ·rename_i j hj
  simp only [Bool.and_eq_true] at hr
  have := Nat.eq_of_beq_eq_true hr.1
  subst this
  have hlt : done.length < (opsAt B p).size := by simpa [Nat.blt_eq] using hr.2
  obtain ⟨f, hf⟩ : ∃ f, (opsAt B p).size - done.length = f + 1 := ⟨(opsAt B p).size - done.length - 1, by omega⟩
  rw [hf]
  refine wpAnyH_all hj (by simp) ?_
  intro i' hi'
  simp only [List.mem_singleton] at hi'
  subst hi'
  obtain ⟨o, ho, _, hw, h2⟩ := h (npx (Hd P B n.ro Q J k)) (fun a' w' => S w' ∧ wpAnyH P .any (opsAt B p) (npx (Hd P B n.ro Q J k)) S f ((listedOf (opsAt B p).size done).setIfInBounds i' true) a' w') (by
   intro κ' w' a' hD ha'
   refine ⟨hD.1, ?_⟩
   have := hD.2 a' ha'
   rw [listedOf_snoc, List.length_append, List.length_singleton, show (opsAt B p).size - (done.length + 1) = f by omega] at this
   exact this) a ha
  unfold wpOp
  rw [ho]
  simp only [hw, if_true]
  exact .inl h2
 ·cases hr
def readyB (B : Code) (p : List Nat) (done rs : List Nat) : Bool := (Region.ready .any (opsAt B p) (listedOf (opsAt B p).size done) == rs) && (!rs.isEmpty && Nat.blt done.length (opsAt B p).size)
def AllL (Q : Nat → Prop) : List Nat → Prop
 | [] => True
 | i :: r => Q i ∧ AllL Q r
theorem AllL.mem {Q : Nat → Prop} : ∀ {l : List Nat}, AllL Q l → ∀ i ∈ l, Q i
 | [], _, i, h => by cases h
 | _ :: _, h, i, hi => by
  cases hi with
  | head => exact h.1
  | tail _ hi => exact AllL.mem h.2 i hi
theorem allD (rs : List Nat) (hr : readyB B p done rs = true) (hS : S w) (h : AllL (fun i => Step P B n p i κ w (fun κ' w' => D P B Q J n p k S (done ++ [i]) κ' w')) rs) : D P B Q J n p k S done κ w := by
 refine ⟨hS, fun a ha => ?_⟩
 unfold readyB at hr
 simp only [Bool.and_eq_true, beq_iff_eq, Bool.not_eq_true', List.isEmpty_eq_false_iff] at hr
 obtain ⟨h1, h2, h3⟩ := hr
 have hlt : done.length < (opsAt B p).size := by simpa [Nat.blt_eq] using h3
 obtain ⟨f, hf⟩ : ∃ f, (opsAt B p).size - done.length = f + 1 := ⟨(opsAt B p).size - done.length - 1, by omega⟩
 rw [hf]
 refine wpAnyH_all h1 h2 ?_
 intro i hi
 obtain ⟨o, ho, _, hw, h4⟩ := h.mem i hi (npx (Hd P B n.ro Q J k)) (fun a' w' => S w' ∧ wpAnyH P .any (opsAt B p) (npx (Hd P B n.ro Q J k)) S f ((listedOf (opsAt B p).size done).setIfInBounds i true) a' w') (by
  intro κ' w' a' hD ha'
  refine ⟨hD.1, ?_⟩
  have := hD.2 a' ha'
  rw [listedOf_snoc, List.length_append, List.length_singleton, show (opsAt B p).size - (done.length + 1) = f by omega] at this
  exact this) a ha
 unfold wpOp
 rw [ho]
 simp only [hw, if_true]
 exact .inl h4
def freeB (B : Code) (p : List Nat) (done : List Nat) (i : Nat) : Bool :=
 Region.noSelect (opsAt B p) && (Region.free .any (opsAt B p) (listedOf (opsAt B p).size done) i && ((Region.ready .any (opsAt B p) (listedOf (opsAt B p).size done)).contains i && Nat.blt done.length (opsAt B p).size))
theorem takeD0 {i : Nat} {o : Oper} {v : Value} (hf : freeB B p done i = true) (ho : (opsAt B p)[i]? = some o) (hy : ∀ a, Ag n κ a → YieldsIf P (opsAt B p) S o v a) (hdk : dok o.dst n.n = true)
  (h : D P B Q J n p k S (done ++ [i]) (putk o.dst v κ) w) : D P B Q J n p k S done κ w := by
 refine ⟨h.1, fun a ha => ?_⟩
 unfold freeB at hf
 simp only [Bool.and_eq_true] at hf
 obtain ⟨h1, h2, h3, h4⟩ := hf
 have hlt : done.length < (opsAt B p).size := by simpa [Nat.blt_eq] using h4
 obtain ⟨f, hf⟩ : ∃ f, (opsAt B p).size - done.length = f + 1 := ⟨(opsAt B p).size - done.length - 1, by omega⟩
 rw [hf]
 refine wpAnyH_take (v := v) ho h1 h2 h3 (fun _ _ _ h => h.elim) (hy a ha) h.1 ?_
 have := h.2 (a.put o.dst v) (ha.put _ hdk _)
 rw [listedOf_snoc, List.length_append, List.length_singleton, show (opsAt B p).size - (done.length + 1) = f by omega] at this
 exact this
theorem takeD {i : Nat} {d : Option Nat} {s : Sem Next} {v : Value} (hf : freeB B p done i = true) (ho : fetch B n p i κ = some (d, s)) (hs : ∀ w', S w' → s.run P w' = .ok (.value v) w')
  (h : D P B Q J n p k S (done ++ [i]) (putk d v κ) w) : D P B Q J n p k S done κ w := by
 obtain ⟨o, ho', hnd, rfl, hd, he⟩ := fetch_spec ho
 refine takeD0 hf ho' (fun a ha => .inl ?_) hd h
 obtain ⟨h1, h2⟩ := he a ha
 exact ⟨h1, fun w' hw' => by rw [h2]; exact hs w' hw'⟩
def takeN (P : Program) (B : Code) (n : Cx) (p : List Nat) : List Nat → List Nat → Kn → Option (List Nat × Kn)
 | [], done, κ => some (done, κ)
 | i :: r, done, κ => cond (freeB B p done i)
  (match (opsAt B p)[i]? with
   | none => none
   | some o => match wants κ (opsAt B p) o with
    | some false => cond (dok o.dst n.n) (takeN P B n p r (done ++ [i]) (putk o.dst undef κ)) none
    | some true => match fetch B n p i κ with
     | some (d, .pure (.value v)) => takeN P B n p r (done ++ [i]) (putk d v κ)
     | some (d, s) => match pureV P s with
      | some v => takeN P B n p r (done ++ [i]) (putk d v κ)
      | none => none
     | none => none
    | none => none) none
 where
 pureV (P : Program) : Sem Next → Option Value
  | .pure (.value v) => some v
  | .program k => pureV P (k P)
  | .mark _ k => pureV P k
  | _ => none
theorem pureV_run {P : Program} : ∀ {s : Sem Next} {v : Value}, takeN.pureV P s = some v → ∀ w, s.run P w = .ok (.value v) w
 | .pure n, v, h, w => by
  cases n <;> simp [takeN.pureV] at h
  subst h; rfl
 | .program k, v, h, w => by
  simp only [takeN.pureV] at h
  exact pureV_run (s := k P) h w
 | .mark m k, v, h, w => by
  simp only [takeN.pureV] at h
  exact pureV_run (s := k) h w
 | .load .., _, h, _ => by simp [takeN.pureV] at h
 | .store .., _, h, _ => by simp [takeN.pureV] at h
 | .new .., _, h, _ => by simp [takeN.pureV] at h
 | .shape .., _, h, _ => by simp [takeN.pureV] at h
 | .freeze .., _, h, _ => by simp [takeN.pureV] at h
 | .frozen .., _, h, _ => by simp [takeN.pureV] at h
 | .getObj .., _, h, _ => by simp [takeN.pureV] at h
 | .setObj .., _, h, _ => by simp [takeN.pureV] at h
 | .choose .., _, h, _ => by simp [takeN.pureV] at h
 | .sys .., _, h, _ => by simp [takeN.pureV] at h
 | .halt .., _, h, _ => by simp [takeN.pureV] at h
def doneB (B : Code) (p : List Nat) (done : List Nat) : Bool := (Region.ready .any (opsAt B p) (listedOf (opsAt B p).size done)).isEmpty
theorem endD (hr : doneB B p done = true) (hS : S w) (h : R P B Q J n k κ w) : D P B Q J n p k S done κ w :=
 ⟨hS, fun a ha => wpAnyH_done (Q := npx (Hd P B n.ro Q J k)) (by simpa [doneB] using hr) (show npx (Hd P B n.ro Q J k) .normal a w from h a ha) _⟩
end
end
end Go.Proofs.YtkleajhiihbefaaGreatDoor.K
set_option linter.unusedVariables false
set_option linter.unusedSimpArgs false
set_option linter.unusedSectionVars false
namespace Go.Proofs.YtkleajhiihbefaaGreatDoor.K
open Go Go.RowKit
theorem freeze_drawn (w : World) (a : Addr) (n : Nat) : (w.freeze a n).drawn = w.drawn := by
 unfold World.freeze
 split <;> rfl
theorem bytesWorld_drawn (w : World) (e : TypeId) (s : ByteArray) : w.drawn ≤ (Lib.bytesWorld w e s).drawn := by
 unfold Lib.bytesWorld
 rw [freeze_drawn]
 exact Nat.le_succ _
theorem viewStore_drawn {p : Program} {w w' : World} {at_ k : Addr} {u : TypeId} {v : Value} {b : Bool} {l : List Addr} (h : w.viewStore p at_ u k v b = .ok (w', l)) : w'.drawn = w.drawn := by
 unfold World.viewStore at h
 simp only [bind, Except.bind, pure, Except.pure] at h
 repeat' split at h
 all_goals first | (cases h; rfl) | (cases h) | skip
theorem ask_drawn {α : Type} : ∀ (a : Ask α) (w : World), w.drawn ≤ (w.ask a).2.drawn
 | .done a, w => Nat.le_refl _
 | .ask what range k, w => by
  unfold World.ask
  simp only
  split
  ·exact ask_drawn (k 0) w
  ·exact Nat.le_trans (Nat.le_succ _) (ask_drawn (k _) { w with drawn := w.drawn + 1 })
theorem run_drawn {α : Type} {p : Program} : ∀ (s : Sem α) (w : World) {a : α} {w' : World}, s.run p w = .ok a w' → w.drawn ≤ w'.drawn
 | .pure a, w, _, _, h => by cases h; exact Nat.le_refl _
 | .load m a k, w, _, _, h => by
  unfold Sem.run at h
  split at h
  ·exact run_drawn (k _) w h
  ·split at h
   ·exact run_drawn (k _) w h
   ·cases h
 | .store m a v k, w, x, w1, h => by
  have key : (match w.cell? a with
   | some _ => if w.frozen? a then Result.halt (.unsupported (.unsafePointer "a write to bytes that a string shares")) w else k.run p (w.setCell a v)
   | none => match w.farStore p a v (m == Mode.atomic) with
    | .ok (w, _) => k.run p w
    | .error h => .halt h w) = .ok x w1 → w.drawn ≤ w1.drawn := by
   intro h
   split at h
   ·split at h
    ·cases h
    ·exact run_drawn k (w.setCell a v) h
   ·split at h
    ·rename_i w2 l hf
     have h2 := run_drawn k w2 h
     unfold World.farStore at hf
     split at hf
     ·split at hf
      ·rename_i r hr
       cases hf
       rw [← viewStore_drawn hr]; exact h2
      ·cases hf
     ·cases hf
    ·cases h
  cases v <;> first | exact key h | (cases h)
 | .new o k, w, _, _, h => run_drawn (k _) { w with heap := w.heap.push o } h
 | .shape r k, w, _, _, h => run_drawn (k _) w h
 | .freeze a n k, w, _, _, h => by
  have := run_drawn k (w.freeze a n) h
  unfold World.freeze at this
  split at this <;> exact this
 | .frozen a k, w, _, _, h => run_drawn (k _) w h
 | .getObj r k, w, _, _, h => by
  unfold Sem.run at h
  split at h
  ·cases h
  ·exact run_drawn (k _) w h
  ·cases h
 | .setObj r o k, w, _, _, h => by
  unfold Sem.run at h
  split at h
  ·cases h
  ·exact run_drawn k { w with heap := w.heap.setIfInBounds r o } h
  ·cases h
 | .choose q k, w, _, _, h => by
  unfold Sem.run at h
  split at h
  ·exact run_drawn (k _) w h
  ·exact Nat.le_trans (Nat.le_succ _) (run_drawn (k _) { w with drawn := w.drawn + 1 } h)
 | .sys c k, w, _, _, h => by
  have h1 := run_drawn (k (w.sys c).1) (w.sys c).2 h
  refine Nat.le_trans ?_ h1
  unfold World.sys
  have h2 := ask_drawn (Kernel.perform c w.os) w
  split
  ·exact Nat.le_refl _
  ·rename_i hh
   rw [hh] at h2
   exact h2
 | .program k, w, _, _, h => run_drawn (k p) w h
 | .mark _ k, w, _, _, h => run_drawn k w h
 | .halt h, w, _, _, hh => by cases hh
structure Kp (S : Nat → Prop) (w w' : World) : Prop where
 os : w'.os = w.os
 tape : w'.tape = w.tape
 output : w'.output = w.output
 size : w.heap.size ≤ w'.heap.size
 block : ∀ k, k < w.heap.size → ¬ S k → w'.heap[k]? = w.heap[k]?
 drawn : w.drawn ≤ w'.drawn
abbrev Ex (w w' : World) : Prop := Kp (fun _ => False) w w'
theorem Kp.refl (S : Nat → Prop) (w : World) : Kp S w w := ⟨rfl, rfl, rfl, Nat.le_refl _, fun _ _ _ => rfl, Nat.le_refl _⟩
theorem Kp.trans {S S' T : Nat → Prop} {a b c : World} (h : Kp S a b) (h' : Kp S' b c) (h1 : ∀ k, k < a.heap.size → S k → T k) (h2 : ∀ k, k < a.heap.size → S' k → T k) : Kp T a c :=
 ⟨h'.os.trans h.os, h'.tape.trans h.tape, h'.output.trans h.output, Nat.le_trans h.size h'.size, fun k hk hT =>
  (h'.block k (Nat.lt_of_lt_of_le hk h.size) (fun hs => hT (h2 k hk hs))).trans (h.block k hk (fun hs => hT (h1 k hk hs))), Nat.le_trans h.drawn h'.drawn⟩
theorem Kp.mono {S T : Nat → Prop} {a b : World} (h : Kp S a b) (h1 : ∀ k, k < a.heap.size → S k → T k) : Kp T a b := ⟨h.os, h.tape, h.output, h.size, fun k hk hT => h.block k hk (fun hs => hT (h1 k hk hs)), h.drawn⟩
theorem Kp.ex {S : Nat → Prop} {a b c : World} (h : Kp S a b) (h' : Ex b c) : Kp S a c := h.trans h' (fun _ _ h => h) (fun _ _ h => h.elim)
theorem Kp.step {S S' : Nat → Prop} {a b c : World} (h : Kp S a b) (h' : Kp S' b c) (h1 : ∀ k, S' k → k < a.heap.size → S k) : Kp S a c := h.trans h' (fun _ _ h => h) (fun k hk hs => h1 k hs hk)
theorem Kp.drew {S : Nat → Prop} {a b : World} (h : Kp S a b) : Kp S a { b with drawn := b.drawn + 1 } := ⟨h.os, h.tape, h.output, h.size, h.block, Nat.le_trans h.drawn (Nat.le_succ _)⟩
theorem Kp.of_gb {w w' : World} {row : Option Nat} (h : w.grownBy w' row) (hd : w.drawn ≤ w'.drawn) : Kp (fun k => some k = row) w w' := ⟨h.os, h.tape, h.output, h.size, fun k hk hn => h.block k hk hn, hd⟩
theorem Kp.gb {w w' : World} {g : Nat} (h : Kp (fun k => k = g) w w') : w.grownBy w' (some g) := ⟨h.os, h.tape, h.output, h.size, fun k hk hn => h.block k hk (fun e => hn (by rw [e]))⟩
theorem Kp.below {w w' : World} (h : Ex w w') : Below w.heap.size w w' := ⟨h.os, h.tape, h.output, h.size, fun k hk => h.block k hk (fun e => e)⟩
theorem Ex.alloc (w : World) (o : Obj) : Ex w (w.alloc o) := ⟨rfl, rfl, rfl, by simp, fun k hk _ => by show (w.heap.push o)[k]? = _; rw [Array.getElem?_push, if_neg (by omega)], Nat.le_refl _⟩
theorem Kp.blk {S : Nat → Prop} {w w' : World} (h : Kp S w w') {g : Nat} {o : Obj} (hg : w.heap[g]? = some o) (hs : ¬ S g) : w'.heap[g]? = some o := (h.block g (Array.getElem?_eq_some_iff.1 hg).1 hs).trans hg
theorem Kp.cell {S : Nat → Prop} {w w' : World} (h : Kp S w w') {a : Addr} {v : Value} (hc : w.cell? a = some v) (hs : ¬ S a.block) : w'.cell? a = some v :=
 (World.cell?_of_block (h.block a.block (World.block_lt_of_cell? w a hc) hs)).trans hc
theorem blk_lt {w : World} {g : Nat} {o : Obj} (h : w.heap[g]? = some o) : g < w.heap.size := (Array.getElem?_eq_some_iff.1 h).1
theorem blk_cell {w : World} {g i : Nat} {c : Array Value} {t : TypeId} {fr : Nat × Nat} {v : Value} (h : w.heap[g]? = some (.cells c t fr)) (hv : c[i]? = some v) : w.cell? ⟨g, i, none⟩ = some v := by
 simp [World.cell?, h, hv]
def Cs (lo hi : Nat) (w : World) (A : Option Addr) (cs : List Value) : Prop := ∀ j u, cs[j]? = some u → ∃ ad, A = some ad ∧ lo ≤ ad.block ∧ ad.block < hi ∧ w.cell? (ad.add j) = some u
theorem add_block (ad : Addr) (j : Nat) : (ad.add j).block = ad.block := by unfold Addr.add; split <;> rfl
theorem add_add (ad : Addr) (i j : Nat) : (ad.add i).add j = ad.add (i + j) := by
 unfold Addr.add
 by_cases h1 : i = 0 <;> by_cases h2 : j = 0 <;> simp [h1, h2, Nat.add_assoc]
section
variable {lo hi : Nat} {w w' : World} {A : Option Addr} {cs : List Value}
theorem Cs.nil (lo hi : Nat) (w : World) (A : Option Addr) : Cs lo hi w A [] := fun j u h => by simp at h
theorem Cs.at_ (h : Cs lo hi w A cs) {j : Nat} {u : Value} (hj : cs[j]? = some u) : ∃ ad, A = some ad ∧ w.cell? (ad.add j) = some u :=
 let ⟨ad, h1, _, _, h2⟩ := h j u hj
 ⟨ad, h1, h2⟩
theorem Cs.mono (h : Cs lo hi w A cs) {lo' hi' : Nat} (h1 : lo' ≤ lo) (h2 : hi ≤ hi') : Cs lo' hi' w A cs := fun j u hj =>
 let ⟨ad, a1, a2, a3, a4⟩ := h j u hj
 ⟨ad, a1, Nat.le_trans h1 a2, Nat.lt_of_lt_of_le a3 h2, a4⟩
theorem Cs.old (h : Cs lo hi w A cs) : Cs 0 w.heap.size w A cs := fun j u hj =>
 let ⟨ad, a1, _, _, a4⟩ := h j u hj
 ⟨ad, a1, Nat.zero_le _, by have := World.block_lt_of_cell? w _ a4; rwa [add_block] at this, a4⟩
theorem Cs.kp {S : Nat → Prop} (h : Cs lo hi w A cs) (hk : Kp S w w') (hs : ∀ k, S k → k < lo ∨ hi ≤ k) : Cs lo hi w' A cs := fun j u hj => by
 obtain ⟨ad, e, h1, h2, hc⟩ := h j u hj
 refine ⟨ad, e, h1, h2, hk.cell hc ?_⟩
 rw [add_block]
 intro hS
 rcases hs _ hS with h3 | h3 <;> omega
theorem Cs.ex (h : Cs lo hi w A cs) (hk : Ex w w') : Cs lo hi w' A cs := h.kp hk (fun _ e => e.elim)
theorem Cs.take (h : Cs lo hi w A cs) (n : Nat) : Cs lo hi w A (cs.take n) := fun j u hj => h j u (by
 rw [List.getElem?_take] at hj
 split at hj
 ·exact hj
 ·cases hj)
theorem Cs.drop (h : Cs lo hi w A cs) (i : Nat) : Cs lo hi w (A.map (·.add i)) (cs.drop i) := fun j u hj => by
 rw [List.getElem?_drop] at hj
 obtain ⟨ad, e, h1, h2, hc⟩ := h _ u hj
 exact ⟨ad.add i, by rw [e]; rfl, by rw [add_block]; exact h1, by rw [add_block]; exact h2, by rw [add_add]; exact hc⟩
theorem Cs.of_blk {g : Nat} {c : Array Value} {t : TypeId} {fr : Nat × Nat} (h : w.heap[g]? = some (.cells c t fr)) : Cs g (g + 1) w (some ⟨g, 0, none⟩) c.toList := fun j u hj => by
 refine ⟨_, rfl, Nat.le_refl _, Nat.lt_succ_self _, ?_⟩
 rw [Addr.add_lit, Nat.zero_add]
 exact blk_cell h (by simpa using hj)
theorem Cs.of_own {base n size : Nat} {e : TypeId} {c : Nat} {xs : List Value} (h : w.ownsRow base e size (.slice A n c) n xs) : Cs base w.heap.size w A xs := by
 intro j u hj
 rcases h.2 with ⟨hv, h0⟩ | ⟨g, cap, cur, hv, hb, hg, _, _, _, ht⟩
 ·have : xs = [] := List.eq_nil_of_length_eq_zero (by rw [h.1, h0]; simp)
  subst this
  simp at hj
 ·cases hv
  refine ⟨_, rfl, hb, blk_lt hg, ?_⟩
  rw [Addr.add_lit, Nat.zero_add]
  refine blk_cell hg ?_
  rw [← ht, List.getElem?_take] at hj
  split at hj
  ·simpa using hj
  ·cases hj
end
theorem own_of_blk {w : World} {g base n sz : Nat} {e : TypeId} {c : Array Value} (hg : w.heap[g]? = some (.cells c e (0, 0))) (hb : base ≤ g) (hn : n ≤ maxLen) (hc : c.size = n * sz) : w.ownsRow base e sz (.slice (some ⟨g, 0, none⟩) n n) n c.toList :=
 ⟨by rw [Array.length_toList]; exact hc, .inr ⟨g, n, c, rfl, hb, hg, Nat.le_refl _, hn, hc, by rw [← hc, ← Array.length_toList, List.take_length]⟩⟩
theorem own_shape {w : World} {base n size : Nat} {e : TypeId} {v : Value} {xs : List Value} (h : w.ownsRow base e size v n xs) : ∃ A c, v = .slice A n c ∧ n ≤ c ∧ c ≤ maxLen := by
 rcases h.2 with ⟨rfl, rfl⟩ | ⟨g, cap, cur, rfl, _, _, h1, h2, _⟩
 ·exact ⟨none, 0, rfl, Nat.le_refl _, by simp [maxLen]⟩
 ·exact ⟨_, cap, rfl, h1, h2⟩
theorem own_cap {w : World} {base n size : Nat} {e : TypeId} {A : Option Addr} {c : Nat} {xs : List Value} (h : w.ownsRow base e size (.slice A n c) n xs) : n ≤ c ∧ c ≤ maxLen := by
 obtain ⟨A', c', e1, h1, h2⟩ := own_shape h
 cases e1
 exact ⟨h1, h2⟩
theorem Cs.cut {lo hi : Nat} {w : World} {A : Option Addr} {cs : List Value} {sz : Nat} (hc : Cs lo hi w A cs) (l cap : Nat) (hl : cs.length ≤ cap * sz) : Cs lo hi w (if cap = l then A else A.map (·.add (l * sz))) (cs.drop (l * sz)) := by
 by_cases e : cap = l
 ·subst e
  rw [if_pos rfl, List.drop_eq_nil_of_le hl]
  exact Cs.nil _ _ _ _
 ·rw [if_neg e]
  exact hc.drop _
theorem blk_cells {w : World} {g off : Nat} {c : Array Value} {t : TypeId} {fr : Nat × Nat} {vs : List Value} (h : w.heap[g]? = some (.cells c t fr)) (hv : (c.toList.drop off).take vs.length = vs) : ∀ j v, vs[j]? = some v → w.cell? ((⟨g, off, none⟩ : Addr).add j) = some v := by
 intro j v hj
 rw [Addr.add_lit]
 refine blk_cell h ?_
 rw [← hv, List.getElem?_take] at hj
 split at hj
 ·simpa using hj
 ·cases hj
theorem own_lt {w : World} {base n size : Nat} {e : TypeId} {v : Value} {xs : List Value} (h : w.ownsRow base e size v n xs) : ∀ k, some k = v.ownBlock → k < w.heap.size := by
 intro k hk
 rcases h.2 with ⟨rfl, _⟩ | ⟨g, cap, cur, rfl, _, hg, _⟩
 ·cases hk
 ·simp only [Value.ownBlock, Option.some.injEq] at hk
  subst hk
  exact blk_lt hg
structure Grew (w : World) (v : Value) (w' : World) (v' : Value) : Prop where
 kp : Kp (fun k => some k = v.ownBlock) w w'
 at_ : ∀ k, v'.ownBlock = some k → v.ownBlock = some k ∨ w.heap.size ≤ k
theorem Grew.refl (w : World) (v : Value) : Grew w v w v := ⟨Kp.refl _ _, fun _ h => .inl h⟩
theorem Grew.trans {a b c : World} {u v x : Value} (h : Grew a u b v) (h' : Grew b v c x) : Grew a u c x :=
 ⟨h.kp.step h'.kp (fun k hk hlt => (h.at_ k hk.symm).elim (fun e => e.symm) (fun e => by omega)),
  fun k hk => by
  rcases h'.at_ k hk with e | e
  ·exact h.at_ k e
  ·exact .inr (Nat.le_trans h.kp.size e)⟩
theorem Grew.app {w w' : World} {v v' : Value} (h : Kp (fun k => some k = v.ownBlock) w w') (hb : v'.ownBlock = v.ownBlock ∨ v'.ownBlock = some w.heap.size) : Grew w v w' v' :=
 ⟨h, fun k hk => hb.elim (fun e => .inl (by rw [← e]; exact hk)) (fun e => .inr (by rw [e] at hk; cases hk; exact Nat.le_refl _))⟩
theorem Grew.ex {w w' w2 : World} {v v' : Value} (h : Grew w v w' v') (hx : Ex w' w2) : Grew w v w2 v' := ⟨h.kp.ex hx, h.at_⟩
theorem own_blk {w : World} {base n sz c : Nat} {e : TypeId} {A : Option Addr} {xs : List Value} (h : w.ownsRow base e sz (.slice A n c) n xs) (hn : 0 < n) : ∃ g cur, A = some ⟨g, 0, none⟩ ∧ base ≤ g ∧ w.heap[g]? = some (.cells cur e (0, 0)) ∧ cur.size = c * sz ∧ cur.toList.take (n * sz) = xs ∧ n ≤ c ∧ c ≤ maxLen := by
 rcases h.2 with ⟨_, h0⟩ | ⟨g, cap, cur, hv, h1, h2, h3, h4, h5, h6⟩
 ·omega
 ·cases hv
  exact ⟨g, cur, rfl, h1, h2, h5, h6, h3, h4⟩
def bs (l : List UInt8) : List Value := l.map fun b => .int .u8 (b.toNat : Int)
@[simp] theorem bs_length (l : List UInt8) : (bs l).length = l.length := by simp [bs]
theorem bs_get (l : List UInt8) (j : Nat) (h : j < l.length) : (bs l)[j]? = some (.int .u8 ((l.getD j 0).toNat : Int)) := by
 simp [bs, List.getElem?_eq_getElem h, List.getD_eq_getElem?_getD]
theorem toList_data (s : ByteArray) : s.toList = s.data.toList := by
 have key : ∀ (k i : Nat) (r : List UInt8), s.size - i = k → ByteArray.toList.loop s i r = r.reverse ++ s.data.toList.drop i := by
  intro k
  induction k with
  | zero =>
   intro i r h
   unfold ByteArray.toList.loop
   have hl : s.data.toList.length = s.size := by rw [Array.length_toList]; rfl
   rw [if_neg (by omega), List.drop_eq_nil_of_le (by omega), List.append_nil]
  | succ k ih =>
   intro i r h
   unfold ByteArray.toList.loop
   have hl : s.data.toList.length = s.size := by rw [Array.length_toList]; rfl
   have hi : i < s.data.toList.length := by omega
   rw [if_pos (by omega), ih (i + 1) _ (by omega), List.drop_eq_getElem_cons hi]
   have hg : s.get! i = s.data.toList[i] := by
    show s.data[i]! = _
    rw [getElem!_pos s.data i (by simpa using hi)]
    simp
   simp [hg]
 unfold ByteArray.toList
 simpa using key s.size 0 [] rfl
theorem w64 {x : Int} (h : -9223372036854775808 ≤ x ∧ x ≤ 9223372036854775807) : IntKind.i64.wrap x = x := by
 rw [IntKind.wrap_i64]
 omega
theorem wu8m (x : Int) : IntKind.u8.wrap x = x % 256 := by simp [IntKind.wrap, IntKind.bits, IntKind.signed]
theorem wu64m (x : Int) : IntKind.u64.wrap x = x % 18446744073709551616 := by simp [IntKind.wrap, IntKind.bits, IntKind.signed]
def vS (s : Sem Value) : Sem Next := do pure (.value (← s))
def uS (s : Sem Unit) : Sem Next := do s; pure .skip
theorem vS_run {P : Program} {s : Sem Value} {w w' : World} {v : Value} (h : s.run P w = .ok v w') : (vS s).run P w = .ok (.value v) w' := by
 simp only [vS, Sem.run_bind, h, Result.andThen_ok, Sem.run_pure]
theorem uS_run {P : Program} {s : Sem Unit} {w w' : World} (h : s.run P w = .ok () w') : (uS s).run P w = .ok .skip w' := by
 simp only [uS, Sem.run_bind, h, Result.andThen_ok, Sem.run_pure]
def oneB (P : Program) (t : TypeId) : Bool := match P.underlying t with
 | some (.struct _) => false
 | some (.array _ _) => false
 | some _ => match P.info? t with
  | some i => Nat.beq i.size 1
  | none => false
 | none => false
def aggB (P : Program) (t : TypeId) (m : Nat) : Bool := match P.underlying t with
 | some (.struct _) => match P.info? t with
  | some i => Nat.beq i.size m
  | none => false
 | some (.array _ _) => match P.info? t with
  | some i => Nat.beq i.size m
  | none => false
 | _ => false
def slB (P : Program) (t e sz : Nat) : Bool := match P.underlying t with
 | some (.slice e') => Nat.beq e' e && (match P.info? e with
  | some i => Nat.beq i.size sz
  | none => false)
 | _ => false
theorem isAgg_one {P : Program} {t : TypeId} (h : oneB P t = true) (w : World) : (isAgg t).run P w = .ok false w := by
 unfold oneB at h
 cases hu : P.underlying t with
 | none => simp [hu] at h
 | some d =>
  unfold isAgg
  rw [Sem.run_bind, run_underlying hu]
  cases d <;> first | rfl | simp [hu] at h
theorem sizeOf_one {P : Program} {t : TypeId} (h : oneB P t = true) (w : World) : (sizeOf t).run P w = .ok 1 w := by
 unfold oneB at h
 cases hu : P.underlying t with
 | none => simp [hu] at h
 | some d =>
  simp only [hu] at h
  cases hi : P.info? t with
  | none => cases d <;> simp [hi] at h
  | some i =>
   have : i.size = 1 := by
    cases d <;> simp [hi] at h <;> exact h
   simp [sizeOf, typeInfo, hi, this]
theorem agg_info {P : Program} {t : TypeId} {m : Nat} (h : aggB P t m = true) : ∃ d i, P.underlying t = some d ∧ P.info? t = some i ∧ i.size = m ∧ (match d with | .struct _ | .array _ _ => true | _ => false) = true := by
 unfold aggB at h
 cases hu : P.underlying t with
 | none => simp [hu] at h
 | some d =>
  cases d <;> simp only [hu, Bool.false_eq_true] at h
  all_goals
   cases hi : P.info? t with
   | none => simp [hi] at h
   | some i =>
    simp only [hi] at h
    exact ⟨_, i, rfl, rfl, Nat.eq_of_beq_eq_true h, rfl⟩
theorem sl_info {P : Program} {t e sz : Nat} (h : slB P t e sz = true) : P.underlying t = some (.slice e) ∧ ∃ i, P.info? e = some i ∧ i.size = sz := by
 unfold slB at h
 cases hu : P.underlying t with
 | none => simp [hu] at h
 | some d =>
  cases d <;> simp only [hu, Bool.false_eq_true] at h
  rename_i e'
  simp only [Bool.and_eq_true] at h
  obtain ⟨h1, h2⟩ := h
  have := Nat.eq_of_beq_eq_true h1
  subst this
  cases hi : P.info? e' with
  | none => rw [hi] at h2; cases h2
  | some i =>
   rw [hi] at h2
   exact ⟨rfl, i, rfl, Nat.eq_of_beq_eq_true h2⟩
section
variable {P : Program} {B : Code} {n : Cx} {p : List Nat} {i : Nat} {κ : Kn} {w : World} {d : Option Nat} {Z : Kn → World → Prop}
def fetchRun (P : Program) (B : Code) (n : Cx) (p : List Nat) (i : Nat) (κ : Kn) (w : World) : Option (Option Nat × Result Next) :=
 match fetch B n p i κ with
 | some (d, s) => some (d, s.run P w)
 | none => none
theorem kerR (d : Option Nat) (v : Value) (w' : World) (h : fetchRun P B n p i κ w = some (d, .ok (.value v) w')) (hk : Z (putk d v κ) w') : Step P B n p i κ w Z := by
 unfold fetchRun at h
 cases hf : fetch B n p i κ with
 | none => simp [hf] at h
 | some x =>
  obtain ⟨d', s⟩ := x
  simp only [hf, Option.some.injEq, Prod.mk.injEq] at h
  obtain ⟨rfl, h2⟩ := h
  exact runR hf h2 hk
theorem newR (d : Option Nat) (v : Nat → Value) (o : Obj) (h : fetchRun P B n p i κ w = some (d, .ok (.value (v w.heap.size)) (w.alloc o)))
  (hk : ∀ g w1, w.heap.size = g → Ex w w1 → w1.heap[g]? = some o → w1.heap.size = g + 1 → Z (putk d (v g) κ) w1) : Step P B n p i κ w Z :=
 kerR d _ _ h (hk _ _ rfl (Ex.alloc w o) (heap_alloc_new w o) (by simp))
theorem ld_run (t : TypeId) (a : Addr) (v : Value) (ht : oneB P t = true) (hc : w.cell? a = some v) : (vS (Instr.loadAt t (.pointer (some a)))).run P w = .ok (.value v) w := by
 refine vS_run ?_
 simp only [Instr.loadAt, Instr.sureAddr, Sem.run_bind, Sem.run_pure, Result.andThen_ok, loadVar, isAgg_one ht, run_load, hc, Bool.false_eq_true, if_false]
theorem ldR (d : Option Nat) (t : TypeId) (a : Addr) (v : Value) (ho : fetch B n p i κ = some (d, vS (Instr.loadAt t (.pointer (some a))))) (ht : oneB P t = true) (hc : w.cell? a = some v) (hk : Z (putk d v κ) w) : Step P B n p i κ w Z :=
 runR ho (ld_run t a v ht hc) hk
theorem ldAggR (d : Option Nat) (t : TypeId) (a : Addr) (vs : List Value) (ho : fetch B n p i κ = some (d, vS (Instr.loadAt t (.pointer (some a))))) (ht : aggB P t vs.length = true) (hc : ∀ j v, vs[j]? = some v → w.cell? (a.add j) = some v)
  (hk : Z (putk d (.agg vs.toArray) κ) w) : Step P B n p i κ w Z := by
 refine runR ho (vS_run ?_) hk
 obtain ⟨de, inf, h1, h2, h3, h4⟩ := agg_info ht
 have hl : (loadCells a vs.length).run P w = .ok vs.toArray w := run_loadCells_list w a vs hc
 have hagg : (isAgg t).run P w = .ok true w := by
  unfold isAgg
  rw [Sem.run_bind, run_underlying h1]
  cases de <;> first | rfl | cases h4
 have hs : (sizeOf t).run P w = .ok vs.length w := by simp [sizeOf, typeInfo, h2, h3]
 simp only [Instr.loadAt, Instr.sureAddr, Sem.run_bind, Sem.run_pure, Result.andThen_ok, loadVar, hagg, if_true, hs, hl]
theorem stR (d : Option Nat) (t : TypeId) (g off : Nat) (v : Value) (c : Array Value) (e : TypeId) (ho : fetch B n p i κ = some (d, uS (Instr.storeAt t (.pointer (some ⟨g, off, none⟩)) v))) (ht : oneB P t = true) (hv : v.oneCell' = true)
  (hg : w.heap[g]? = some (.cells c e (0, 0))) (hoff : off < c.size)
  (hk : ∀ w1, Kp (fun k => k = g) w w1 → w1.heap[g]? = some (.cells (c.set! off v) e (0, 0)) → w1.heap.size = w.heap.size → Z (putk d undef κ) w1) : Step P B n p i κ w Z := by
 have hsz : v.cells.size = 1 := by cases v <;> first | rfl | cases hv
 have hcl : v.cells.toList = [v] := by cases v <;> first | rfl | cases hv
 have hcell : w.cell? ⟨g, off, none⟩ = some c[off] := blk_cell hg (by simp [hoff])
 have hfr : w.frozen? ⟨g, off, none⟩ = false := by simp [World.frozen?, hg]
 have hrun : (Instr.storeAt t (.pointer (some ⟨g, off, none⟩)) v).run P w = .ok () (w.setCell ⟨g, off, none⟩ v) := by
  simp only [Instr.storeAt, Instr.sureAddr, Sem.run_bind, Sem.run_pure, Result.andThen_ok, storeVar, sizeOf_one ht, hsz, ne_eq, not_true_eq_false, if_false, hcl, storeCells, Addr.add_zero', run_store P w _ v _ hv, hcell, hfr, Bool.false_eq_true]
 refine skipR ho (uS_run hrun) ?_
 refine hk _ ⟨rfl, rfl, rfl, by simp, fun k hk hne => ?_, Nat.le_refl _⟩ ?_ (by simp)
 ·simp only [World.setCell, Array.getElem?_modify]
  rw [if_neg (fun e => hne e.symm)]
 ·simp [World.setCell, Array.getElem?_modify, hg, Array.set!_eq_setIfInBounds]
theorem stOwnR (d : Option Nat) (t : TypeId) (base e sz : Nat) (A : Option Addr) (len cap : Nat) (xs : List Value) (ad : Addr) (m : Nat) (v : Value) (ho : fetch B n p i κ = some (d, uS (Instr.storeAt t (.pointer (some (ad.add m))) v))) (ht : oneB P t = true) (hv : v.oneCell' = true)
  (hown : w.ownsRow base e sz (.slice A len cap) len xs) (hA : A = some ad) (hm : m < xs.length)
  (hk : ∀ w1, w1.ownsRow base e sz (.slice A len cap) len (xs.set m v) → Kp (fun k => some k = (Value.slice A len cap).ownBlock) w w1 → w1.heap.size = w.heap.size → Z (putk d undef κ) w1) : Step P B n p i κ w Z := by
 have h0 : 0 < len := by
  rcases Nat.eq_zero_or_pos len with h | h
  ·have := hown.1
   rw [h, Nat.zero_mul] at this
   omega
  ·exact h
 obtain ⟨g, cur, hAg, hb, hg, hcs, htk, hnc, hcm⟩ := own_blk hown h0
 rw [hAg] at hA
 cases hA
 subst hAg
 have hlen : xs.length ≤ cur.size := by
  rw [hown.1, hcs]
  exact Nat.mul_le_mul_right _ hnc
 rw [Addr.add_lit, Nat.zero_add] at ho
 have hst := hown.stored m v
 refine stR d t g m v cur e ho ht hv hg (by omega) ?_
 intro w1 hx hg1 hz
 refine hk w1 ⟨by simpa using hown.1, .inr ⟨g, cap, _, rfl, hb, hg1, hnc, hcm, ?_, ?_⟩⟩ ?_ hz
 ·simpa using hcs
 ·rw [Array.set!_eq_setIfInBounds, Array.toList_setIfInBounds, List.take_set, htk]
 ·exact hx.mono (fun k _ hk => by simp [Value.ownBlock, hk])
theorem callR (d : Option Nat) (f : FuncId) (args : Array Value) {Φ : Value → World → Prop} (hcall : ∀ args w, (callFunc f args).run P w = .ok (.enter f args) w)
  (hc : Calls P f args w fun e w' => ∃ v, e = .returned v ∧ Φ v w') (ho : fetch B n p i κ = some (d, callFunc f args))
  (hk : ∀ v w', Φ v w' → Z (putk d v κ) w') : Step P B n p i κ w Z :=
 enterR ho (hcall args w) hc hk
theorem idx_run (t e sz : Nat) (A : Option Addr) (a : Addr) (len cap : Nat) (ik : IntKind) (ix : Int) (m : Nat) (hA : A = some a) (ht : slB P t e sz = true)
  (h0 : 0 ≤ ix) (h1 : ix < len) (hm : ix.toNat * sz = m) : (vS (Instr.indexAt t (.slice A len cap) (.int ik ix))).run P w = .ok (.value (.pointer (some (a.add m)))) w := by
 subst hA
 obtain ⟨h2, inf, h3, h4⟩ := sl_info ht
 refine vS_run ?_
 have hs : (sizeOf e).run P w = .ok sz w := by simp [sizeOf, typeInfo, h3, h4]
 have hr : (Instr.indexAt t (.slice (some a) len cap) (.int ik ix)).run P w = if 0 ≤ ix ∧ ix < len then ((sizeOf e).run P w).andThen fun s w => .ok (.pointer (some (a.add (ix.toNat * s)))) w else (boundsPanic ik ix len .index).run P w := by
  simp [Instr.indexAt, run_underlying h2, asIntOf]
 rw [hr, if_pos ⟨h0, h1⟩, hs, Result.andThen_ok, hm]
theorem idxR (d : Option Nat) (t e sz : Nat) (A : Option Addr) (a : Addr) (len cap : Nat) (ik : IntKind) (ix : Int) (m : Nat) (hA : A = some a) (ho : fetch B n p i κ = some (d, vS (Instr.indexAt t (.slice A len cap) (.int ik ix)))) (ht : slB P t e sz = true)
  (h0 : 0 ≤ ix) (h1 : ix < len) (hm : ix.toNat * sz = m) (hk : Z (putk d (.pointer (some (a.add m))) κ) w) : Step P B n p i κ w Z :=
 runR ho (idx_run t e sz A a len cap ik ix m hA ht h0 h1 hm) hk
theorem str_run (t : TypeId) (l : List UInt8) (ik : IntKind) (ix : Int) (m : Nat) (ht : P.underlying t = some .string)
  (h0 : 0 ≤ ix) (h1 : ix < l.length) (hm : ix.toNat = m) : (vS (Instr.index t (.string ⟨l.toArray⟩) (.int ik ix))).run P w = .ok (.value (.int .u8 ((l.getD m 0).toNat : Int))) w := by
 subst hm
 refine vS_run ?_
 have hs : (⟨l.toArray⟩ : ByteArray).size = l.length := rfl
 have hl : ix.toNat < (⟨l.toArray⟩ : ByteArray).size := by omega
 have hg : (⟨l.toArray⟩ : ByteArray)[ix.toNat]? = some (l.getD ix.toNat 0) := by
  rw [getElem?_pos _ ix.toNat hl, List.getD_eq_getElem?_getD, List.getElem?_eq_getElem (by omega)]
  rfl
 simp only [Instr.index, asIntOf, Sem.run_bind, Sem.run_pure, Result.andThen_ok, run_underlying ht, h0, if_true, hg]
theorem cat_run (t : TypeId) (l m : List UInt8) (hb : l.length + m.length ≤ 9223372036854775807) : (vS (Op.stringOp .add ⟨l.toArray⟩ ⟨m.toArray⟩)).run P w = .ok (.value (.string ⟨(l ++ m).toArray⟩)) w := by
 refine vS_run ?_
 have hs : ∀ l : List UInt8, (⟨l.toArray⟩ : ByteArray).size = l.length := fun _ => rfl
 have hi : IntKind.i64.max = 9223372036854775807 := by decide
 have ha : (⟨l.toArray⟩ ++ ⟨m.toArray⟩ : ByteArray) = ⟨(l ++ m).toArray⟩ := by
  apply ByteArray.ext
  rw [ByteArray.data_append]
  simp
 simp only [Op.stringOp, hs, hi]
 rw [if_neg (by omega), ha]
 rfl
theorem sli_run (t e sz : Nat) (A : Option Addr) (len cap : Nat) (lo hi : Option Value) (l h : Nat) (ht : slB P t e sz = true)
  (hl : (lo = none ∧ l = 0) ∨ ∃ ik x, lo = some (.int ik x) ∧ x = (l : Int)) (hh : (hi = none ∧ h = len) ∨ ∃ ik x, hi = some (.int ik x) ∧ x = (h : Int)) (h1 : l ≤ h) (h2 : h ≤ cap) :
  (vS (Instr.sliceAt t (.slice A len cap) lo hi none)).run P w = .ok (.value (.slice (if cap = l then A else A.map (·.add (l * sz))) (h - l) (cap - l))) w := by
 obtain ⟨h3, inf, h4, h5⟩ := sl_info ht
 refine vS_run ?_
 have hs : (sizeOf e).run P w = .ok sz w := by simp [sizeOf, typeInfo, h4, h5]
 have hb : ∀ (ik : IntKind) (x m : Nat) (c : BoundsCode), x ≤ m → (Instr.sliceBound (.int ik (x : Int)) m c).run P w = .ok x w := by
  intro ik x m c hx
  have hx' : (0 : Int) ≤ x ∧ (x : Int) ≤ m := by omega
  simp only [Instr.sliceBound, asIntOf, Sem.run_bind, Sem.run_pure, Result.andThen_ok, hx', and_self, if_true, Int.toNat_natCast]
 have hbs : (Instr.sliceBounds true len cap lo hi none).run P w = .ok (l, h, cap) w := by
  rcases hl with ⟨rfl, rfl⟩ | ⟨ik, x, rfl, rfl⟩ <;> rcases hh with ⟨rfl, rfl⟩ | ⟨ik', x', rfl, rfl⟩ <;>
   simp only [Instr.sliceBounds, Sem.run_bind, Sem.run_pure, Result.andThen_ok, hb _ _ _ _ h1, hb _ _ _ _ h2]
 simp only [Instr.sliceAt, Instr.slice, Sem.run_bind, Sem.run_pure, Result.andThen_ok, run_underlying h3, hbs, hs]
end
section
variable {P : Program} {B : Code} {n : Cx} {p : List Nat} {i : Nat} {κ : Kn} {w : World} {d : Option Nat} {Z : Kn → World → Prop}
def elB (P : Program) (t e sz by_ : Nat) (z : Value) : Prop := P.underlying t = some (.slice e) ∧ (P.info? e).map (fun i => (i.zero, i.size, i.bytes)) = some (some z, sz, by_)
theorem appR (d : Option Nat) (t e sz by_ : Nat) (z : Value) (ty : TypeId) (base : Nat) (A X : Option Addr) (m c m' c' : Nat) (xs news : List Value) {lo hi : Nat} (he : elB P t e sz by_ z) (hz : z.cells.size = sz) (hsz : 0 < sz) (ho : fetch B n p i κ = some (d, vS (Builtin.append_ #[t, t] ty #[.slice A m c, .slice X m' c'])))
  (hown : w.ownsRow base e sz (.slice A m c) m xs) (hX : Cs lo hi w X news) (hl : news.length = m' * sz) (h1 : ∀ u ∈ news, u.oneCell' = true) (hb : (m + m') * by_ ≤ 140737488355328) (hby : 0 < by_) (hbase : base ≤ w.heap.size)
  (hk : ∀ A' c1 w1, w1.ownsRow base e sz (.slice A' (m + m') c1) (m + m') (xs ++ news) → Kp (fun k => some k = (Value.slice A m c).ownBlock) w w1 → ((Value.slice A' (m + m') c1).ownBlock = (Value.slice A m c).ownBlock ∨ (Value.slice A' (m + m') c1).ownBlock = some w.heap.size) → m + m' ≤ c1 → w.heap.size ≤ w1.heap.size → Z (putk d (.slice A' (m + m') c1) κ) w1) : Step P B n p i κ w Z := by
 obtain ⟨ht, hinf⟩ := he
 obtain ⟨i0, hi, hzz⟩ := Option.map_eq_some_iff.1 hinf
 simp only [Prod.mk.injEq] at hzz
 obtain ⟨hz0, hz1, hz2⟩ := hzz
 have hmm : m + m' ≤ 140737488355328 := Nat.le_trans (Nat.le_mul_of_pos_right _ hby) hb
 have hrun : ∃ v' w', (Builtin.append_ #[t, t] ty #[.slice A m c, .slice X m' c']).run P w = .ok v' w' ∧ w'.ownsRow base e sz v' (m + m') (xs ++ news) ∧ w.grownBy w' (Value.slice A m c).ownBlock ∧ (v'.ownBlock = (Value.slice A m c).ownBlock ∨ v'.ownBlock = some w.heap.size) := by
  rcases X with _ | ad
  ·have hn : news = [] := by
    cases news with
    | nil => rfl
    | cons u r =>
     obtain ⟨ad, h, _⟩ := hX 0 u rfl
     cases h
   subst hn
   have hm0 : m' = 0 := by
    rcases Nat.eq_zero_or_pos m' with h | h
    ·exact h
    ·have : 0 < m' * sz := Nat.mul_pos h hsz
     simp at hl
     omega
   subst hm0
   refine ⟨.slice A m c, w, ?_, by simpa using hown, World.grownBy.refl w _, .inl rfl⟩
   rcases hown.2 with ⟨hv, hn⟩ | ⟨g, cap, cur, hv, _, _, hnc, _⟩
   ·cases hv
    simp [Builtin.append_, run_underlying ht, sizeOf, typeInfo, hi, Builtin.lenOf, Builtin.firstCells]
   ·cases hv
    simp [Builtin.append_, run_underlying ht, sizeOf, typeInfo, hi, Builtin.lenOf, Builtin.firstCells, hnc, storeCells]
  ·obtain ⟨v1, w1, hr, h2, h3, _, h5⟩ := run_append_own_at (P := P) w base t ty e i0 z sz by_ ht hi hz0 hz1 hz2 hz hsz _ m xs hown ad m' c' news hl (fun j u hu => by
     obtain ⟨ad', e1, _, _, hc⟩ := hX j u hu
     cases e1
     exact hc) h1 (by simp only [maxLen]; omega) hb hbase
   exact ⟨v1, w1, hr, h2, h3, h5⟩
 obtain ⟨v', w', hr, h2, h3, h4⟩ := hrun
 obtain ⟨A', c1, rfl, h5, _⟩ := own_shape h2
 exact runR ho (vS_run hr) (hk A' c1 w' h2 (Kp.of_gb h3 (run_drawn _ _ hr)) h4 h5 h3.size)
theorem b2s_run (src dst e' : TypeId) (X : Option Addr) (m c : Nat) (l : List UInt8) {lo hi : Nat} (hs : P.underlying src = some (.slice e')) (he : P.underlying e' = some (.int .u8)) (hd : P.underlying dst = some .string)
  (hX : Cs lo hi w X (bs l)) (hl : l.length = m) : (vS (convert src dst (.slice X m c))).run P w = .ok (.value (.string ⟨l.toArray⟩)) w := by
 refine vS_run ?_
 have hstr : ∀ l : List UInt8, strOfNums (l.map fun b => (b.toNat : Int)) = ⟨l.toArray⟩ := by
  intro l
  unfold strOfNums
  congr 1
  apply congrArg
  rw [List.map_map]
  conv => rhs; rw [← List.map_id l]
  exact List.map_congr_left fun x _ => by simp
 rcases X with _ | ad
 ·have hn : l = [] := by
   cases l with
   | nil => rfl
   | cons u r =>
    obtain ⟨ad, h, _⟩ := hX 0 (.int .u8 (u.toNat : Int)) rfl
    cases h
  subst hn
  exact run_convert_bytes_nil w src e' hs he m c dst hd
 ·have hlc : (loadCells ad m).run P w = .ok (bs l).toArray w := by
   have := run_loadCells_list (P := P) w ad (bs l) (fun j v hj => by
    obtain ⟨ad', e1, _, _, hc⟩ := hX j v hj
    cases e1
    exact hc)
   rwa [bs_length, hl] at this
  have e : bs l = (l.map fun b => (b.toNat : Int)).map (Value.int .u8) := by rw [List.map_map]; rfl
  rw [e] at hlc
  rw [run_convert_bytes_string w src dst e' _ m c hs he hd, run_bytesToString w _ m c _ hlc, foldl_push_bytes, ← hstr l]
  simp [strOfNums, ByteArray.empty, ByteArray.emptyWithCapacity]
  rfl
end
section
variable {P : Program} {B : Code} {Q : Exit → Act → World → Prop} [NPc Q] {J : Nat → Act → World → Prop} {n : Cx} {p : List Nat} {k : List It} {κ : Kn} {w : World} {fn : Func} {Rp : Ending → World → Prop} {S : World → Prop} {done : List Nat} {i : Nat}
end
end Go.Proofs.YtkleajhiihbefaaGreatDoor.K
set_option linter.unusedVariables false
set_option linter.unusedSimpArgs false
namespace Go.Proofs.YtkleajhiihbefaaGreatDoor.K
open Go Go.RowKit
class Dat (α : Type) where
 cells : α → List Value
 sz : Nat
 ok : Nat → Nat → World → α → Prop
 len : ∀ a, (cells a).length = sz
 kp : ∀ {S : Nat → Prop} {lo hi : Nat} {w w' : World} {a : α}, ok lo hi w a → Kp S w w' → (∀ k, S k → k < lo ∨ hi ≤ k) → ok lo hi w' a
 mono : ∀ {lo hi lo' hi' : Nat} {w : World} {a : α}, ok lo hi w a → lo' ≤ lo → hi ≤ hi' → ok lo' hi' w a
 old : ∀ {lo hi : Nat} {w : World} {a : α}, ok lo hi w a → ok 0 w.heap.size w a
 one : ∀ a, ∀ u ∈ cells a, u.oneCell' = true
structure Sls (α : Type) where
 A : Option Addr
 c : Nat
 l : List α
abbrev Sls.nil {α : Type} : Sls α := ⟨none, 0, []⟩
structure Sls.Ok {α : Type} [Dat α] (lo hi : Nat) (w : World) (s : Sls α) : Prop where
 le : s.l.length ≤ s.c
 max : s.c ≤ maxLen
 cs : Cs lo hi w s.A (s.l.flatMap Dat.cells)
 el : ∀ a ∈ s.l, Dat.ok lo hi w a
theorem Sls.Ok.kp {α : Type} [Dat α] {S : Nat → Prop} {lo hi : Nat} {w w' : World} {s : Sls α} (h : s.Ok lo hi w) (hk : Kp S w w') (hs : ∀ k, S k → k < lo ∨ hi ≤ k) : s.Ok lo hi w' :=
 ⟨h.le, h.max, h.cs.kp hk hs, fun a ha => Dat.kp (h.el a ha) hk hs⟩
theorem Sls.Ok.ex {α : Type} [Dat α] {lo hi : Nat} {w w' : World} {s : Sls α} (h : s.Ok lo hi w) (hk : Ex w w') : s.Ok lo hi w' := h.kp hk (fun _ e => e.elim)
theorem Sls.Ok.mono {α : Type} [Dat α] {lo hi lo' hi' : Nat} {w : World} {s : Sls α} (h : s.Ok lo hi w) (h1 : lo' ≤ lo) (h2 : hi ≤ hi') : s.Ok lo' hi' w :=
 ⟨h.le, h.max, h.cs.mono h1 h2, fun a ha => Dat.mono (h.el a ha) h1 h2⟩
theorem Sls.Ok.old {α : Type} [Dat α] {lo hi : Nat} {w : World} {s : Sls α} (h : s.Ok lo hi w) : s.Ok 0 w.heap.size w :=
 ⟨h.le, h.max, h.cs.old, fun a ha => Dat.old (h.el a ha)⟩
theorem Dat.ex {α : Type} [Dat α] {lo hi : Nat} {w w' : World} {a : α} (h : Dat.ok lo hi w a) (hk : Ex w w') : Dat.ok lo hi w' a := Dat.kp h hk (fun _ e => e.elim)
instance {α : Type} [Dat α] : Dat (Sls α) where
 cells s := [.slice s.A s.l.length s.c]
 sz := 1
 ok lo hi w s := s.Ok lo hi w
 len _ := rfl
 kp h hk hs := h.kp hk hs
 mono h h1 h2 := h.mono h1 h2
 old h := h.old
 one a u h := by
  simp only [List.mem_singleton] at h
  subst h
  rfl
instance : Dat UInt8 where
 cells b := [.int .u8 (b.toNat : Int)]
 sz := 1
 ok _ _ _ _ := True
 len _ := rfl
 kp _ _ _ := trivial
 mono _ _ _ := trivial
 old _ := trivial
 one a u h := by
  simp only [List.mem_singleton] at h
  subst h
  rfl
instance : Dat Int where
 cells n := [.int .i64 n]
 sz := 1
 ok _ _ _ n := -9223372036854775808 ≤ n ∧ n ≤ 9223372036854775807
 len _ := rfl
 kp h _ _ := h
 mono h _ _ := h
 old h := h
 one a u h := by
  simp only [List.mem_singleton] at h
  subst h
  rfl
instance : Dat Nat where
 cells n := [.int .u64 (n : Int)]
 sz := 1
 ok _ _ _ n := n < 18446744073709551616
 len _ := rfl
 kp h _ _ := h
 mono h _ _ := h
 old h := h
 one a u h := by
  simp only [List.mem_singleton] at h
  subst h
  rfl
instance : Dat Bool where
 cells b := [.bool b]
 sz := 1
 ok _ _ _ _ := True
 len _ := rfl
 kp _ _ _ := trivial
 mono _ _ _ := trivial
 old _ := trivial
 one a u h := by
  simp only [List.mem_singleton] at h
  subst h
  rfl
instance : Dat (List UInt8) where
 cells l := [.string ⟨l.toArray⟩]
 sz := 1
 ok _ _ _ l := l.length ≤ maxLen
 len _ := rfl
 kp h _ _ := h
 mono h _ _ := h
 old h := h
 one a u h := by
  simp only [List.mem_singleton] at h
  subst h
  rfl
theorem flat_get {α : Type} [Dat α] {n : Nat} (hn : Dat.sz α = n) (j : Nat) (hj : j < n) : ∀ (l : List α) (i : Nat) (x : α), l[i]? = some x → (l.flatMap Dat.cells)[i * n + j]? = (Dat.cells x)[j]?
 | [], i, x, h => by simp at h
 | y :: l, 0, x, h => by
  simp at h
  subst h
  rw [List.flatMap_cons, List.getElem?_append_left (by rw [Dat.len, hn]; omega)]
  simp
 | y :: l, i + 1, x, h => by
  rw [List.flatMap_cons, List.getElem?_append_right (by rw [Dat.len, hn, Nat.add_mul]; omega), Dat.len, hn, Nat.add_mul, show i * n + 1 * n + j - n = i * n + j by omega]
  exact flat_get hn j hj l i x (by simpa using h)
theorem cells_one {α : Type} [Dat α] (a : α) : ∀ u ∈ Dat.cells a, u.oneCell' = true := Dat.one a
theorem Cs.row {α : Type} [Dat α] {lo hi : Nat} {w : World} {A : Option Addr} {l : List α} (h : Cs lo hi w A (l.flatMap Dat.cells)) {n : Nat} (hn : Dat.sz α = n) (h0 : 0 < n) {i : Nat} {x : α} (hx : l[i]? = some x) :
  ∃ ad, A = some ad ∧ lo ≤ ad.block ∧ ad.block < hi ∧ ∀ j v, (Dat.cells x)[j]? = some v → w.cell? ((ad.add (i * n)).add j) = some v := by
 have hl := Dat.len x
 have h1 := flat_get hn 0 h0 l i x hx
 rw [List.getElem?_eq_getElem (show 0 < (Dat.cells x).length by omega)] at h1
 obtain ⟨ad, rfl, hl1, hl2, _⟩ := h _ _ h1
 refine ⟨ad, rfl, hl1, hl2, fun j v hv => ?_⟩
 have hj : j < n := by
  have := (List.getElem?_eq_some_iff.1 hv).1
  omega
 have h2 := flat_get hn j hj l i x hx
 rw [hv] at h2
 obtain ⟨ad', e, _, _, h3⟩ := h _ _ h2
 cases e
 rw [add_add]
 exact h3
end Go.Proofs.YtkleajhiihbefaaGreatDoor.K
set_option linter.unusedVariables false
set_option linter.unusedSimpArgs false
namespace Go.Proofs.YtkleajhiihbefaaGreatDoor.K
open Go
def le : List UInt8 → Nat
 | [] => 0
 | b :: r => b.toNat + 256 * le r
def enc : Nat → Nat → List UInt8
 | 0, _ => []
 | w + 1, n => UInt8.ofNat n :: enc w (n / 256)
theorem ofNat_toNat (n : Nat) : (UInt8.ofNat n).toNat = n % 256 := by simp
def wideB (a : Int) : Bool := a == 1 || a == 2 || a == 4 || a == 8
def withinB (len : Nat) (a b : Int) : Bool := decide (0 ≤ a) && decide (0 ≤ b) && decide (b ≤ len) && decide (a ≤ len - b)
def fitsB (n : Nat) (w : Nat) : Bool := decide (n < 256 ^ w)
def dv (n : Nat) : Nat → Nat
 | 0 => n
 | i + 1 => dv n i / 256
def setE (len : Nat) (a : Int) (n : Nat) (wd : Int) : Int := if wideB wd = true then (if withinB len a wd = true then (if fitsB n wd.toNat = true then 0 else 9) else 9) else 1
end Go.Proofs.YtkleajhiihbefaaGreatDoor.K
set_option linter.unusedVariables false
set_option linter.unusedSimpArgs false
set_option linter.unusedSectionVars false
namespace Go.Proofs.YtkleajhiihbefaaGreatDoor.K
open Go Go.RowKit
section
variable {P : Program} {B : Code} {n : Cx} {p : List Nat} {i : Nat} {κ : Kn} {w : World} {Z : Kn → World → Prop}
theorem stAggR (d : Option Nat) (t : TypeId) (g off : Nat) (vs : List Value) (c c' : Array Value) (e : TypeId) (ho : fetch B n p i κ = some (d, uS (Instr.storeAt t (.pointer (some ⟨g, off, none⟩)) (.agg vs.toArray)))) (ht : aggB P t vs.length = true) (hv : vs.all (·.oneCell') = true)
  (hg : w.heap[g]? = some (.cells c e (0, 0))) (hoff : off + vs.length ≤ c.size) (hc : (c.toList.take off ++ vs ++ c.toList.drop (off + vs.length)).toArray = c')
  (hk : ∀ w1, Kp (fun k => k = g) w w1 → w1.heap[g]? = some (.cells c' e (0, 0)) → w1.heap.size = w.heap.size → Z (putk d undef κ) w1) : Step P B n p i κ w Z := by
 obtain ⟨de, inf, h1, h2, h3, h4⟩ := agg_info ht
 have hs : (sizeOf t).run P w = .ok vs.length w := by simp [sizeOf, typeInfo, h2, h3]
 have hst := run_storeCells_at (P := P) g off e vs 0 c w hg (by omega) (fun v hv' => List.all_eq_true.1 hv v hv')
 rw [Nat.add_zero, hc] at hst
 have hrun : (Instr.storeAt t (.pointer (some ⟨g, off, none⟩)) (.agg vs.toArray)).run P w = .ok () (w.setRow g c') := by
  simp only [Instr.storeAt, Instr.sureAddr, Sem.run_bind, Sem.run_pure, Result.andThen_ok, storeVar, hs, Value.cells, List.size_toArray, ne_eq, not_true_eq_false, if_false, hst]
 refine skipR ho (uS_run hrun) (hk _ ⟨rfl, rfl, rfl, by simp, fun k _ hk => setRow_other w g k _ hk, Nat.le_refl _⟩ (setRow_heap w g c c' e _ hg) (by simp))
end
def ResOk (P : Program) (κ : Kn) (w : World) : List ResultVar → List Value → Prop
 | [], [] => True
 | .tmp t :: r, v :: vs => fnd κ t = some v ∧ ResOk P κ w r vs
 | .cell a t :: r, v :: vs => (∃ ad, fnd κ a = some (.pointer (some ad)) ∧ (loadVar t ad).run P w = .ok v w) ∧ ResOk P κ w r vs
 | _, _ => False
theorem resOk_run {P : Program} {n : Cx} {κ : Kn} {a : Act} {w : World} (ha : Ag n κ a) : ∀ {l : List ResultVar} {vs : List Value}, ResOk P κ w l vs → (List.mapM (m := Sem) (fun r : ResultVar => match r with
  | .tmp t => pure (a.tmps.getD t undef)
  | .cell x t => do loadVar t (← asAddr (a.tmps.getD x undef))) l).run P w = .ok vs w
 | [], [], _ => rfl
 | .tmp t :: r, v :: vs, h => by
  obtain ⟨h1, h2⟩ := h
  rw [List.mapM_cons]
  simp only [pure_bind, Sem.run_bind, resOk_run ha h2, Result.andThen_ok, Sem.run_pure, ha.get t v h1]
 | .cell x t :: r, v :: vs, h => by
  obtain ⟨⟨ad, h1, h3⟩, h2⟩ := h
  rw [List.mapM_cons]
  have ih := resOk_run ha h2
  have hx : ((do loadVar t (← asAddr (a.tmps.getD x undef)) : Sem Value)).run P w = .ok v w := by
   rw [ha.get x _ h1]
   simp only [asAddr, Sem.run_bind, Sem.run_pure, Result.andThen_ok, h3]
  rw [Sem.run_bind]
  erw [hx]
  simp only [Result.andThen_ok]
  rw [Sem.run_bind]
  erw [ih]
  rfl
 | [], _ :: _, h => h.elim
 | .tmp _ :: _, [], h => h.elim
 | .cell _ _ :: _, [], h => h.elim
theorem resultsC_run {P : Program} {n : Cx} {κ : Kn} {a : Act} {w : World} {fn : Func} {vs : List Value} (ha : Ag n κ a) (h : ResOk P κ w fn.results.toList vs) : (results fn a.tmps).run P w = .ok (packV vs) w := by
 unfold results
 obtain ⟨rs⟩ : ∃ rs, rs = fn.results.toList := ⟨_, rfl⟩
 have e : fn.results = rs.toArray := by rename_i h0; rw [h0]
 rw [e, List.mapM_toArray]
 have := resOk_run ha (by rw [e] at h; simpa using h : ResOk P κ w rs vs)
 simp only [Sem.run_bind]
 rw [show ∀ (X : Sem (List Value)), (List.toArray <$> X : Sem (Array Value)) = X >>= fun l => pure l.toArray from fun _ => rfl]
 rw [Sem.run_bind]
 erw [this]
 simp only [Result.andThen_ok, Sem.run_pure]
 match vs with
 | [] => rfl
 | [v] => rfl
 | u :: v :: r => simp [packV]
section
variable {P : Program} {B : Code} {Q : Exit → Act → World → Prop} [NPc Q] {J : Nat → Act → World → Prop} {n : Cx}
theorem retC {N : Nat} {fn : Func} {Rp : Ending → World → Prop} {p : List Nat} {k : List It} {κ : Kn} {w : World} (vs : List Value) (hc : isRet B p = true) (hr : ResOk P κ w fn.results.toList vs)
  (h : Rp (.returned (packV vs)) w) : R P B (bodyP P fn Rp) J ⟨N, none, [], []⟩ (.co p :: k) κ w := by
 intro a ha
 simp only [Hd, Exit.then]
 have e : cAt B p = .ret := by
  unfold isRet at hc
  split at hc
  ·assumption
  ·cases hc
 rw [e]
 refine wpIn_ret (Hd_ret a w ?_ k)
 show LeavesInM (Fr none) 0 P fn a.tmps Rp a.defers .returning w
 rw [ha.defers]
 exact leavesM (ds := []) ⟨_, resultsC_run ha hr, h⟩
theorem ldv_agg {w : World} (t : TypeId) (a : Addr) (vs : List Value) (ht : aggB P t vs.length = true) (hc : ∀ j v, vs[j]? = some v → w.cell? (a.add j) = some v) : (loadVar t a).run P w = .ok (.agg vs.toArray) w := by
 obtain ⟨de, inf, h1, h2, h3, h4⟩ := agg_info ht
 have hl : (loadCells a vs.length).run P w = .ok vs.toArray w := run_loadCells_list w a vs hc
 have hagg : (isAgg t).run P w = .ok true w := by
  unfold isAgg
  rw [Sem.run_bind, run_underlying h1]
  cases de <;> first | rfl | cases h4
 have hs : (sizeOf t).run P w = .ok vs.length w := by simp [sizeOf, typeInfo, h2, h3]
 simp only [Sem.run_bind, Sem.run_pure, Result.andThen_ok, loadVar, hagg, if_true, hs, hl]
theorem aggRun {w : World} (t : TypeId) (a : Addr) (vs : List Value) (ht : aggB P t vs.length = true) (hc : ∀ j v, vs[j]? = some v → w.cell? (a.add j) = some v) : (vS (Instr.loadAt t (.pointer (some a)))).run P w = .ok (.value (.agg vs.toArray)) w := by
 refine vS_run ?_
 simp only [Instr.loadAt, Instr.sureAddr, Sem.run_bind, Sem.run_pure, Result.andThen_ok, ldv_agg t a vs ht hc]
end
structure WrT (g : Nat) (w : World) (v : Value) (w' : World) (v' : Value) : Prop where
 kp : Kp (fun k => k = g ∨ some k = v.ownBlock) w w'
 at_ : ∀ k, v'.ownBlock = some k → v.ownBlock = some k ∨ w.heap.size ≤ k
theorem WrT.refl (g : Nat) (w : World) (v : Value) : WrT g w v w v := ⟨Kp.refl _ _, fun _ h => .inl h⟩
theorem WrT.trans {g : Nat} {a b c : World} {u v x : Value} (h : WrT g a u b v) (h' : Grew b v c x) : WrT g a u c x :=
 ⟨h.kp.step h'.kp (fun k hk hlt => (h.at_ k hk.symm).elim (fun e => .inr e.symm) (fun e => by omega)),
  fun k hk => by
  rcases h'.at_ k hk with e | e
  ·exact h.at_ k e
  ·exact .inr (Nat.le_trans h.kp.size e)⟩
theorem WrT.ex {g : Nat} {w w' w2 : World} {v v' : Value} (h : WrT g w v w' v') (hx : Ex w' w2) : WrT g w v w2 v' := ⟨h.kp.ex hx, h.at_⟩
theorem WrT.blk {g : Nat} {w w' w2 : World} {v v' : Value} (h : WrT g w v w' v') (hx : Kp (fun k => k = g) w' w2) : WrT g w v w2 v' := ⟨h.kp.step hx (fun k hk _ => .inl hk), h.at_⟩
theorem WrT.next {g : Nat} {a b c : World} {u v x : Value} (h : WrT g a u b v) (h' : WrT g b v c x) : WrT g a u c x :=
 ⟨h.kp.step h'.kp (fun k hk hlt => hk.elim .inl (fun hk => (h.at_ k hk.symm).elim (fun e => .inr e.symm) (fun e => by omega))),
  fun k hk => by
  rcases h'.at_ k hk with e | e
  ·exact h.at_ k e
  ·exact .inr (Nat.le_trans h.kp.size e)⟩
theorem WrT.below {g lo : Nat} {w w' : World} {v v' : Value} (h : WrT g w v w' v') (hg : lo ≤ g) (hv : ∀ k, v.ownBlock = some k → lo ≤ k) : Kp (fun k => lo ≤ k) w w' :=
 h.kp.mono (fun k _ hk => hk.elim (fun e => by omega) (fun e => hv k e.symm))
theorem Kp.cut {lo : Nat} {w0 w w' : World} (h : Ex w0 w) (h' : Kp (fun k => lo ≤ k) w w') (hl : w0.heap.size ≤ lo) : Ex w0 w' := h.step h' (fun k hk hlt => by omega)
def Apart (A B : Option Addr) : Prop := ∀ (m c m' c' : Nat) (k : Nat), some k = (Value.slice A m c).ownBlock → ¬ some k = (Value.slice B m' c').ownBlock
theorem ownB (A : Option Addr) (m c m' c' : Nat) : (Value.slice A m c).ownBlock = (Value.slice A m' c').ownBlock := by cases A <;> rfl
theorem Apart.symm {A B : Option Addr} (h : Apart A B) : Apart B A := fun m c m' c' k h1 h2 => h m' c' m c k h2 h1
theorem Apart.new {A B : Option Addr} {m c m' c' base : Nat} (hl : ∀ k, some k = (Value.slice A m c).ownBlock → k < base) (hb : ∀ k, some k = (Value.slice B m' c').ownBlock → base ≤ k) : Apart A B := by
 intro a b a' b' k h1 h2
 rw [ownB A a b m c] at h1
 rw [ownB B a' b' m' c'] at h2
 have := hl k h1
 have := hb k h2
 omega
end Go.Proofs.YtkleajhiihbefaaGreatDoor.K
set_option linter.unusedVariables false
set_option linter.unusedSimpArgs false
set_option linter.unusedSectionVars false
namespace Go.Proofs.YtkleajhiihbefaaGreatDoor.K
open Go Go.RowKit Go.Op
section
variable {P : Program} {B : Code} {n : Cx} {p : List Nat} {i : Nat} {κ : Kn} {w : World} {Z : Kn → World → Prop}
end
def ltB (l m : List UInt8) : Bool := bytesLess l m
def leB (l m : List UInt8) : Bool := bytesLess l m || l == m
def gtB (l m : List UInt8) : Bool := !(bytesLess l m || l == m)
def geB (l m : List UInt8) : Bool := !bytesLess l m
theorem ltB_raw (l m : List UInt8) : bytesLess (ByteArray.toList ⟨l.toArray⟩) (ByteArray.toList ⟨m.toArray⟩) = ltB l m := by rw [toList_data, toList_data]; rfl
theorem leB_raw (l m : List UInt8) : (bytesLess (ByteArray.toList ⟨l.toArray⟩) (ByteArray.toList ⟨m.toArray⟩) || ByteArray.toList ⟨l.toArray⟩ == ByteArray.toList ⟨m.toArray⟩) = leB l m := by rw [toList_data, toList_data]; rfl
theorem gtB_raw (l m : List UInt8) : (!(bytesLess (ByteArray.toList ⟨l.toArray⟩) (ByteArray.toList ⟨m.toArray⟩) || ByteArray.toList ⟨l.toArray⟩ == ByteArray.toList ⟨m.toArray⟩)) = gtB l m := by rw [toList_data, toList_data]; rfl
theorem geB_raw (l m : List UInt8) : (!bytesLess (ByteArray.toList ⟨l.toArray⟩) (ByteArray.toList ⟨m.toArray⟩)) = geB l m := by rw [toList_data, toList_data]; rfl
end Go.Proofs.YtkleajhiihbefaaGreatDoor.K
set_option linter.unusedVariables false
set_option linter.unusedSimpArgs false
namespace Go.Proofs.YtkleajhiihbefaaGreatDoor.K
open Go Go.RowKit Go.ChangeShapes Go.WideShapes Go.ChangeAt
theorem wf_u8 {n : Int} (h : (Lit.int .u8 n).wf = true) : 0 ≤ n ∧ n < 256 := by
 have := bounds_u8 h
 omega
theorem wf_i64 {n : Int} (h : (Lit.int .i64 n).wf = true) : -9223372036854775808 ≤ n ∧ n ≤ 9223372036854775807 := by
 have := bounds_i64 h
 omega
section
variable {P : Program} {W : World} {H : Type} {enc : TypeId × Value → H} {t e : TypeId} {a : Option Addr} {len cap : Nat} {d : DataW H} {ps : List MemPlace}
end
end Go.Proofs.YtkleajhiihbefaaGreatDoor.K
set_option linter.unusedVariables false
set_option linter.unusedSimpArgs false
namespace Go.Proofs.YtkleajhiihbefaaGreatDoor.K
open Go Go.RowKit Go.ChangeShapes Go.WideShapes Go.ChangeAt
def Op (P : Program) (t : TypeId) (α : Type) [Dat α] : Prop :=
 ∀ (H : Type) (enc : TypeId × Value → H) (W : World) (fuel : Nat) (cs : List Value) (x : DataW H × List MemPlace), DataW.trod enc P W 0 (fun _ => true) true fuel t cs = some x → ∃ a : α, cs = Dat.cells a ∧ Dat.ok 0 W.heap.size W a
variable {P : Program} {t e : TypeId}
end Go.Proofs.YtkleajhiihbefaaGreatDoor.K
set_option linter.unusedVariables false
set_option linter.unusedSimpArgs false
namespace Go.Proofs.YtkleajhiihbefaaGreatDoor.K
open Go Go.RowKit Go.ChangeShapes Go.WideShapes Go.ChangeAt
abbrev Mem := Nat → Option Obj
def Sub (m m' : Mem) : Prop := ∀ k o, m k = some o → m' k = some o
theorem Sub.refl (m : Mem) : Sub m m := fun _ _ h => h
theorem Sub.trans {a b c : Mem} (h : Sub a b) (h' : Sub b c) : Sub a c := fun k o e => h' k o (h k o e)
def Has (m : Mem) (w : World) : Prop := ∀ k o, m k = some o → w.heap[k]? = some o
def mc (m : Mem) (a : Addr) : Option Value := match m a.block with
 | some (.cells c _ _) => if a.spot.isSome then none else c[a.off]?
 | _ => none
theorem mc_some {m : Mem} {a : Addr} {v : Value} (hc : mc m a = some v) : ∃ c t f, m a.block = some (.cells c t f) ∧ (if a.spot.isSome then none else c[a.off]?) = some v := by
 unfold mc at hc
 split at hc
 ·rename_i c t f hb; exact ⟨c, t, f, hb, hc⟩
 ·cases hc
theorem Has.cell {m : Mem} {w : World} {a : Addr} {v : Value} (h : Has m w) (hc : mc m a = some v) : w.cell? a = some v := by
 obtain ⟨c, t, f, h1, h2⟩ := mc_some hc
 simp only [World.cell?, h _ _ h1]
 exact h2
theorem Sub.cell {m m' : Mem} {a : Addr} {v : Value} (h : Sub m m') (hc : mc m a = some v) : mc m' a = some v := by
 obtain ⟨c, t, f, h1, h2⟩ := mc_some hc
 simp only [mc, h _ _ h1]
 exact h2
theorem Has.lt {m : Mem} {w : World} {k : Nat} {o : Obj} (h : Has m w) (hk : m k = some o) : k < w.heap.size := blk_lt (h _ _ hk)
theorem Has.sub {m m' : Mem} {w : World} (h : Has m' w) (hs : Sub m m') : Has m w := fun k o e => h k o (hs k o e)
theorem Has.kp {S : Nat → Prop} {m : Mem} {w w' : World} (h : Has m w) (hk : Kp S w w') (hs : ∀ k, S k → m k = none) : Has m w' := fun k o e => by
 rw [hk.block k (h.lt e) (fun hS => by rw [hs k hS] at e; cases e)]
 exact h k o e
def memOf (w : World) : Mem := fun k => w.heap[k]?
theorem Has.of (w : World) : Has (memOf w) w := fun _ _ h => h
structure Rep (α : Type) where
 sz : Nat
 im : Mem → List Value → α → Prop
 wf : α → Prop
 mono : ∀ {m m' : Mem} {cs : List Value} {x : α}, Sub m m' → im m cs x → im m' cs x
 len : ∀ {m : Mem} {cs : List Value} {x : α}, im m cs x → cs.length = sz
 one : ∀ {m : Mem} {cs : List Value} {x : α}, im m cs x → ∀ u ∈ cs, u.oneCell' = true
def CsM (m : Mem) (A : Option Addr) (cs : List Value) : Prop := ∀ j u, cs[j]? = some u → ∃ ad, A = some ad ∧ mc m (ad.add j) = some u
theorem CsM.mono {m m' : Mem} {A : Option Addr} {cs : List Value} (h : CsM m A cs) (hs : Sub m m') : CsM m' A cs := fun j u hj =>
 let ⟨ad, h1, h2⟩ := h j u hj
 ⟨ad, h1, hs.cell h2⟩
theorem CsM.cs {m : Mem} {w : World} {A : Option Addr} {cs : List Value} (h : CsM m A cs) (hm : Has m w) : Cs 0 w.heap.size w A cs := fun j u hj => by
 obtain ⟨ad, h1, h2⟩ := h j u hj
 have := hm.cell h2
 refine ⟨ad, h1, Nat.zero_le _, ?_, this⟩
 have := World.block_lt_of_cell? w _ this
 rwa [add_block] at this
theorem CsM.nil (m : Mem) (A : Option Addr) : CsM m A [] := fun j u h => by simp at h
theorem CsM.take {m : Mem} {A : Option Addr} {cs : List Value} (h : CsM m A cs) (n : Nat) : CsM m A (cs.take n) := fun j u hj => h j u (by
 rw [List.getElem?_take] at hj
 split at hj
 ·exact hj
 ·cases hj)
theorem CsM.drop {m : Mem} {A : Option Addr} {cs : List Value} (h : CsM m A cs) (i : Nat) : CsM m (A.map (·.add i)) (cs.drop i) := fun j u hj => by
 rw [List.getElem?_drop] at hj
 obtain ⟨ad, e, hc⟩ := h _ u hj
 exact ⟨ad.add i, by rw [e]; rfl, by rw [add_add]; exact hc⟩
theorem CsM.cut {m : Mem} {A : Option Addr} {cs : List Value} {sz : Nat} (hc : CsM m A cs) (l cap : Nat) (hl : cs.length ≤ cap * sz) : CsM m (if cap = l then A else A.map (·.add (l * sz))) (cs.drop (l * sz)) := by
 by_cases e : cap = l
 ·subst e
  rw [if_pos rfl, List.drop_eq_nil_of_le hl]
  exact CsM.nil _ _
 ·rw [if_neg e]
  exact hc.drop _
def Rows {α : Type} (r : Rep α) (m : Mem) : List Value → List α → Prop
 | xs, [] => xs = []
 | xs, x :: l => ∃ cs ys, xs = cs ++ ys ∧ r.im m cs x ∧ Rows r m ys l
section
variable {α : Type} {r : Rep α} {m m' : Mem}
theorem Rows.mono (hs : Sub m m') : ∀ {l : List α} {xs : List Value}, Rows r m xs l → Rows r m' xs l
 | [], _, h => h
 | _ :: _, _, ⟨cs, ys, h1, h2, h3⟩ => ⟨cs, ys, h1, r.mono hs h2, h3.mono hs⟩
theorem Rows.len : ∀ {l : List α} {xs : List Value}, Rows r m xs l → xs.length = l.length * r.sz
 | [], xs, h => by rw [show xs = [] from h]; simp
 | x :: l, xs, ⟨cs, ys, h1, h2, h3⟩ => by rw [h1, List.length_append, r.len h2, h3.len, List.length_cons, Nat.add_mul]; omega
theorem Rows.one : ∀ {l : List α} {xs : List Value}, Rows r m xs l → ∀ u ∈ xs, u.oneCell' = true
 | [], xs, h => by rw [show xs = [] from h]; simp
 | x :: l, xs, ⟨cs, ys, h1, h2, h3⟩ => by
  intro u hu
  rw [h1, List.mem_append] at hu
  exact hu.elim (r.one h2 u) (h3.one u)
theorem Rows.app : ∀ {l l' : List α} {xs ys : List Value}, Rows r m xs l → Rows r m ys l' → Rows r m (xs ++ ys) (l ++ l')
 | [], l', xs, ys, h, h' => by rw [show xs = [] from h]; exact h'
 | x :: l, l', xs, ys, ⟨cs, zs, h1, h2, h3⟩, h' => ⟨cs, zs ++ ys, by rw [h1, List.append_assoc], h2, h3.app h'⟩
theorem Rows.nil : Rows r m [] ([] : List α) := rfl
theorem Rows.cons {cs ys : List Value} {x : α} {l : List α} (h : r.im m cs x) (h' : Rows r m ys l) : Rows r m (cs ++ ys) (x :: l) := ⟨cs, ys, rfl, h, h'⟩
theorem Rows.single {cs : List Value} {x : α} (h : r.im m cs x) : Rows r m cs [x] := ⟨cs, [], by simp, h, rfl⟩
theorem Rows.take : ∀ {l : List α} {xs : List Value} (n : Nat), Rows r m xs l → Rows r m (xs.take (n * r.sz)) (l.take n)
 | [], xs, n, h => by rw [show xs = [] from h]; simp; rfl
 | x :: l, xs, 0, h => by simp; rfl
 | x :: l, xs, n + 1, ⟨cs, ys, h1, h2, h3⟩ => by
  have hl := r.len h2
  refine ⟨cs, ys.take (n * r.sz), ?_, h2, h3.take n⟩
  rw [h1, List.take_append, List.take_of_length_le (by rw [hl, Nat.add_mul]; omega), hl, Nat.add_mul, show n * r.sz + 1 * r.sz - r.sz = n * r.sz by omega]
theorem Rows.drop : ∀ {l : List α} {xs : List Value} (n : Nat), Rows r m xs l → Rows r m (xs.drop (n * r.sz)) (l.drop n)
 | [], xs, n, h => by rw [show xs = [] from h]; simp; rfl
 | x :: l, xs, 0, h => by simpa using h
 | x :: l, xs, n + 1, ⟨cs, ys, h1, h2, h3⟩ => by
  have hl := r.len h2
  rw [h1, List.drop_append, List.drop_eq_nil_of_le (by rw [hl, Nat.add_mul]; omega), hl, Nat.add_mul, show n * r.sz + 1 * r.sz - r.sz = n * r.sz by omega, List.nil_append, List.drop_succ_cons]
  exact h3.drop n
theorem Rows.get : ∀ {l : List α} {xs : List Value} {i : Nat} {x : α}, Rows r m xs l → l[i]? = some x → ∃ cs, r.im m cs x ∧ ∀ j v, cs[j]? = some v → xs[i * r.sz + j]? = some v
 | [], _, i, x, _, h => by simp at h
 | y :: l, xs, 0, x, ⟨cs, ys, h1, h2, h3⟩, h => by
  simp at h
  subst h
  refine ⟨cs, h2, fun j v hv => ?_⟩
  rw [h1, List.getElem?_append_left (by have := (List.getElem?_eq_some_iff.1 hv).1; omega), Nat.zero_mul, Nat.zero_add]
  exact hv
 | y :: l, xs, i + 1, x, ⟨cs, ys, h1, h2, h3⟩, h => by
  obtain ⟨ds, h4, h5⟩ := h3.get (by simpa using h)
  refine ⟨ds, h4, fun j v hv => ?_⟩
  have hl := r.len h2
  rw [h1, List.getElem?_append_right (by rw [hl, Nat.add_mul]; omega), hl, Nat.add_mul, show i * r.sz + 1 * r.sz + j - r.sz = i * r.sz + j by omega]
  exact h5 j v hv
theorem Rows.set : ∀ {l : List α} {xs : List Value} {i : Nat} {x : α} {cs : List Value}, Rows r m xs l → i < l.length → r.im m cs x → Rows r m (xs.take (i * r.sz) ++ cs ++ xs.drop (i * r.sz + r.sz)) (l.set i x) := by
 intro l xs i x cs h hi hx
 have h1 := h.take i
 have h2 := h.drop (i + 1)
 have e : l.set i x = l.take i ++ [x] ++ l.drop (i + 1) := by rw [List.set_eq_take_append_cons_drop, if_pos hi]; simp
 rw [e, show i * r.sz + r.sz = (i + 1) * r.sz by rw [Nat.add_mul]; omega]
 exact (h1.app (Rows.single hx)).app h2
end
structure SlI {α : Type} (r : Rep α) (m : Mem) (A : Option Addr) (c : Nat) (l : List α) : Prop where
 le : l.length ≤ c
 max : c ≤ maxLen
 cs : ∃ xs, Rows r m xs l ∧ CsM m A xs
section
variable {α : Type} {r : Rep α} {m m' : Mem} {A : Option Addr} {c : Nat} {l : List α}
theorem SlI.mono (h : SlI r m A c l) (hs : Sub m m') : SlI r m' A c l :=
 let ⟨xs, h1, h2⟩ := h.cs
 ⟨h.le, h.max, xs, h1.mono hs, h2.mono hs⟩
theorem SlI.nil (r : Rep α) (m : Mem) : SlI r m none 0 ([] : List α) := ⟨Nat.le_refl _, by simp [maxLen], [], rfl, CsM.nil _ _⟩
theorem SlI.bound (h : SlI r m A c l) : l.length ≤ 9223372036854775807 := Nat.le_trans h.le h.max
theorem mc0 {m : Mem} {a : Addr} {v : Value} (h : mc m (a.add 0) = some v) : mc m a = some v := by simpa [Addr.add] using h
theorem SlI.at_ (h : SlI r m A c l) {i : Nat} {x : α} (hx : l[i]? = some x) (h0 : 0 < r.sz) : ∃ ad cs, A = some ad ∧ r.im m cs x ∧ ∀ j v, cs[j]? = some v → mc m ((ad.add (i * r.sz)).add j) = some v := by
 obtain ⟨xs, h1, h2⟩ := h.cs
 obtain ⟨cs, h3, h4⟩ := h1.get hx
 have hl := r.len h3
 have h5 := h4 0 _ (List.getElem?_eq_getElem (by omega))
 obtain ⟨ad, rfl, _⟩ := h2 _ _ h5
 refine ⟨ad, cs, rfl, h3, fun j v hv => ?_⟩
 obtain ⟨ad', e, h6⟩ := h2 _ _ (h4 j v hv)
 cases e
 rw [add_add]
 exact h6
end
def rI64 : Rep Int where
 sz := 1
 im _ cs n := cs = [.int .i64 n]
 wf n := -9223372036854775808 ≤ n ∧ n ≤ 9223372036854775807
 mono _ h := h
 len h := by rw [h]; rfl
 one h := by rw [h]; intro u hu; simp only [List.mem_singleton] at hu; subst hu; rfl
def rU8 : Rep UInt8 where
 sz := 1
 im _ cs n := cs = [.int .u8 (n.toNat : Int)]
 wf _ := True
 mono _ h := h
 len h := by rw [h]; rfl
 one h := by rw [h]; intro u hu; simp only [List.mem_singleton] at hu; subst hu; rfl
def rBool : Rep Bool where
 sz := 1
 im _ cs n := cs = [.bool n]
 wf _ := True
 mono _ h := h
 len h := by rw [h]; rfl
 one h := by rw [h]; intro u hu; simp only [List.mem_singleton] at hu; subst hu; rfl
def rStr : Rep (List UInt8) where
 sz := 1
 im _ cs s := cs = [.string ⟨s.toArray⟩] ∧ s.length ≤ 9223372036854775807
 wf s := s.length ≤ 9223372036854775807
 mono _ h := h
 len h := by rw [h.1]; rfl
 one h := by rw [h.1]; intro u hu; simp only [List.mem_singleton] at hu; subst hu; rfl
def rSl {α : Type} (r : Rep α) : Rep (List α) where
 sz := 1
 im m cs l := ∃ A c, cs = [.slice A l.length c] ∧ SlI r m A c l
 wf l := l.length ≤ 9223372036854775807 ∧ ∀ x ∈ l, r.wf x
 mono hs := fun ⟨A, c, h1, h2⟩ => ⟨A, c, h1, h2.mono hs⟩
 len := fun ⟨A, c, h1, _⟩ => by rw [h1]; rfl
 one := fun ⟨A, c, h1, _⟩ => by rw [h1]; intro u hu; simp only [List.mem_singleton] at hu; subst hu; rfl
theorem Rows.u8 {m : Mem} : ∀ {l : List UInt8} {xs : List Value}, Rows rU8 m xs l ↔ xs = bs l
 | [], xs => Iff.rfl
 | b :: l, xs => by
  constructor
  ·rintro ⟨cs, ys, h1, h2, h3⟩
   rw [h1, show cs = _ from h2, Rows.u8.1 h3]
   rfl
  ·intro h
   exact ⟨_, bs l, by rw [h]; rfl, rfl, Rows.u8.2 rfl⟩
theorem SlI.bytes {m : Mem} {A : Option Addr} {c : Nat} {l : List UInt8} (h : SlI rU8 m A c l) : CsM m A (bs l) := by
 obtain ⟨xs, h1, h2⟩ := h.cs
 rwa [Rows.u8.1 h1] at h2
structure Item where
 P : Mem → World → (Nat → Prop) → Prop
 loc : ∀ {m : Mem} {w w' : World} {F : Nat → Prop}, P m w F → (∀ k, F k → w'.heap[k]? = w.heap[k]?) → P m w' F
 mono : ∀ {m m' : Mem} {w : World} {F : Nat → Prop}, Sub m m' → P m w F → P m' w F
 dom : ∀ {m : Mem} {w : World} {F : Nat → Prop}, P m w F → ∀ k, F k → k < w.heap.size
def blkI (g : Nat) (cs : List Value) (t : TypeId) : Item where
 P _ w F := w.heap[g]? = some (.cells cs.toArray t (0, 0)) ∧ ∀ k, F k ↔ k = g
 loc h hk := ⟨(hk g ((h.2 g).2 rfl)).trans h.1, h.2⟩
 mono _ h := h
 dom h k hk := by rw [(h.2 k).1 hk]; exact blk_lt h.1
theorem own_loc {w w' : World} {base n size : Nat} {e : TypeId} {v : Value} {xs : List Value} (h : w.ownsRow base e size v n xs) (hk : ∀ k, v.ownBlock = some k → w'.heap[k]? = w.heap[k]?) : w'.ownsRow base e size v n xs := by
 refine ⟨h.1, ?_⟩
 rcases h.2 with hn | ⟨g, cap, cur, rfl, hb, hg, r⟩
 ·exact .inl hn
 ·exact .inr ⟨g, cap, cur, rfl, hb, (hk g rfl).trans hg, r⟩
def rowI {α : Type} (r : Rep α) (t : TypeId) (A : Option Addr) (c : Nat) (l : List α) : Item where
 P m w F := (∃ xs, Rows r m xs l ∧ w.ownsRow 0 t r.sz (.slice A l.length c) l.length xs) ∧ ∀ k, F k ↔ (Value.slice A l.length c).ownBlock = some k
 loc := fun ⟨⟨xs, h1, h2⟩, h3⟩ hk => ⟨⟨xs, h1, own_loc h2 (fun k e => hk k ((h3 k).2 e))⟩, h3⟩
 mono hs := fun ⟨⟨xs, h1, h2⟩, h3⟩ => ⟨⟨xs, h1.mono hs, h2⟩, h3⟩
 dom := fun ⟨⟨xs, h1, h2⟩, h3⟩ k hk => own_lt h2 k ((h3 k).1 hk).symm
def objI (g : Nat) (o : Obj) : Item where
 P _ w F := w.heap[g]? = some o ∧ ∀ k, F k ↔ k = g
 loc h hk := ⟨(hk g ((h.2 g).2 rfl)).trans h.1, h.2⟩
 mono _ h := h
 dom h k hk := by rw [(h.2 k).1 hk]; exact blk_lt h.1
def Sep (m : Mem) (w : World) : List Item → (Nat → Prop) → Prop
 | [], F => ∀ k, ¬ F k
 | i :: r, F => ∃ F1 F2, i.P m w F1 ∧ Sep m w r F2 ∧ (∀ k, F1 k → F2 k → False) ∧ ∀ k, F k ↔ F1 k ∨ F2 k
section
variable {m m' : Mem} {w w' : World}
theorem Sep.loc : ∀ {σ : List Item} {F : Nat → Prop}, Sep m w σ F → (∀ k, F k → w'.heap[k]? = w.heap[k]?) → Sep m w' σ F
 | [], _, h, _ => h
 | i :: r, F, ⟨F1, F2, h1, h2, h3, h4⟩, hk => ⟨F1, F2, i.loc h1 (fun k e => hk k ((h4 k).2 (.inl e))), h2.loc (fun k e => hk k ((h4 k).2 (.inr e))), h3, h4⟩
theorem Sep.mono (hs : Sub m m') : ∀ {σ : List Item} {F : Nat → Prop}, Sep m w σ F → Sep m' w σ F
 | [], _, h => h
 | i :: r, F, ⟨F1, F2, h1, h2, h3, h4⟩ => ⟨F1, F2, i.mono hs h1, h2.mono hs, h3, h4⟩
theorem Sep.dom : ∀ {σ : List Item} {F : Nat → Prop}, Sep m w σ F → ∀ k, F k → k < w.heap.size
 | [], _, h, k, hk => (h k hk).elim
 | i :: r, F, ⟨F1, F2, h1, h2, h3, h4⟩, k, hk => ((h4 k).1 hk).elim (i.dom h1 k) (h2.dom k)
theorem Sep.app : ∀ {σ τ : List Item} {F : Nat → Prop}, Sep m w (σ ++ τ) F ↔ ∃ F1 F2, Sep m w σ F1 ∧ Sep m w τ F2 ∧ (∀ k, F1 k → F2 k → False) ∧ ∀ k, F k ↔ F1 k ∨ F2 k
 | [], τ, F => ⟨fun h => ⟨fun _ => False, F, fun _ e => e, h, fun _ e => e.elim, fun k => ⟨.inr, fun e => e.elim False.elim id⟩⟩, fun ⟨F1, F2, h1, h2, h3, h4⟩ => by
   have : F = F2 := funext fun k => propext ⟨fun e => ((h4 k).1 e).elim (fun e => (h1 k e).elim) id, fun e => (h4 k).2 (.inr e)⟩
   subst this
   exact h2⟩
 | i :: r, τ, F => by
  constructor
  ·rintro ⟨F1, F2, h1, h2, h3, h4⟩
   obtain ⟨G1, G2, k1, k2, k3, k4⟩ := Sep.app.1 h2
   refine ⟨fun k => F1 k ∨ G1 k, G2, ⟨F1, G1, h1, k1, fun k a b => h3 k a ((k4 k).2 (.inl b)), fun k => Iff.rfl⟩, k2, ?_, ?_⟩
   ·intro k a b
    exact a.elim (fun a => h3 k a ((k4 k).2 (.inr b))) (fun a => k3 k a b)
   ·intro k
    rw [h4, k4, or_assoc]
  ·rintro ⟨F1, G2, ⟨F3, G1, h1, k1, h3, h4⟩, k2, k3, k4⟩
   refine ⟨F3, fun k => G1 k ∨ G2 k, h1, Sep.app.2 ⟨G1, G2, k1, k2, fun k a b => k3 k ((h4 k).2 (.inr a)) b, fun k => Iff.rfl⟩, ?_, ?_⟩
   ·intro k a b
    exact b.elim (h3 k a) (fun b => k3 k ((h4 k).2 (.inl a)) b)
   ·intro k
    rw [k4, h4, or_assoc]
end
theorem split_at {σ : List Item} {n : Nat} {i : Item} (hn : σ[n]? = some i) : σ = σ.take n ++ i :: σ.drop (n + 1) := by
 have hl := (List.getElem?_eq_some_iff.1 hn).1
 have he := (List.getElem?_eq_some_iff.1 hn).2
 rw [← he, ← List.drop_eq_getElem_cons hl, List.take_append_drop]
theorem erase_at (σ : List Item) (n : Nat) : σ.eraseIdx n = σ.take n ++ σ.drop (n + 1) := List.eraseIdx_eq_take_drop_succ σ n
theorem Sep.mid {m : Mem} {w : World} {σ : List Item} {F : Nat → Prop} {n : Nat} {i : Item} (hn : σ[n]? = some i) :
  Sep m w σ F ↔ Sep m w (i :: σ.eraseIdx n) F := by
 conv => lhs; rw [split_at hn]
 rw [erase_at]
 constructor
 ·intro h
  obtain ⟨F1, F2, h1, ⟨F3, F4, h2, h3, h4, h5⟩, h6, h7⟩ := Sep.app.1 h
  refine ⟨F3, fun k => F1 k ∨ F4 k, h2, Sep.app.2 ⟨F1, F4, h1, h3, fun k a b => h6 k a ((h5 k).2 (.inr b)), fun k => Iff.rfl⟩, ?_, ?_⟩
  ·intro k a b
   exact b.elim (fun b => h6 k b ((h5 k).2 (.inl a))) (h4 k a)
  ·intro k
   rw [h7, h5, or_left_comm]
 ·rintro ⟨F3, F14, h2, h14, h6, h7⟩
  obtain ⟨F1, F4, h1, h3, h4, h5⟩ := Sep.app.1 h14
  refine Sep.app.2 ⟨F1, fun k => F3 k ∨ F4 k, h1, ⟨F3, F4, h2, h3, fun k a b => h6 k a ((h5 k).2 (.inr b)), fun k => Iff.rfl⟩, ?_, ?_⟩
  ·intro k a b
   exact b.elim (fun b => h6 k b ((h5 k).2 (.inl a))) (h4 k a)
  ·intro k
   rw [h7, h5, or_left_comm]
theorem set_erase {σ : List Item} {n : Nat} {i j : Item} (hn : σ[n]? = some i) : (σ.set n j)[n]? = some j ∧ (σ.set n j).eraseIdx n = σ.eraseIdx n := by
 have hl := (List.getElem?_eq_some_iff.1 hn).1
 refine ⟨by simp [hl], ?_⟩
 rw [erase_at, erase_at, List.take_set_of_le (Nat.le_refl _), List.drop_set_of_lt (by omega)]
structure St (w0 : World) (F0 : Nat → Prop) (m0 m : Mem) (σ : List Item) (w : World) : Prop where
 kp : Kp F0 w0 w
 sub : Sub m0 m
 has : Has m w
 new : ∀ k o, m k = some o → m0 k = some o ∨ F0 k ∨ w0.heap.size ≤ k
 sep : ∃ F, Sep m w σ F ∧ (∀ k, F k → m k = none) ∧ ∀ k, F k → F0 k ∨ w0.heap.size ≤ k
abbrev noF : Nat → Prop := fun _ => False
section
variable {w0 : World} {F0 : Nat → Prop} {m0 m : Mem} {σ τ : List Item} {w w1 : World}
theorem St.start {its : List Item} {F : Nat → Prop} (hm : Has m w) (hs : Sep m w its F) (hF : ∀ k, F k → m k = none) : St w F m m its w :=
 ⟨Kp.refl _ _, Sub.refl _, hm, fun _ _ h => .inl h, F, hs, hF, fun _ h => .inl h⟩
theorem St.start0 (hm : Has m w) : St w noF m m [] w := St.start hm (fun _ h => h) (fun _ h => h.elim)
theorem St.ex (H : St w0 F0 m0 m σ w) (hx : Ex w w1) : St w0 F0 m0 m σ w1 := by
 obtain ⟨F, h1, h2, h3⟩ := H.sep
 exact ⟨H.kp.ex hx, H.sub, H.has.kp hx (fun _ h => h.elim), H.new, F, h1.loc (fun k hk => hx.block k (h1.dom k hk) (fun e => e)), h2, h3⟩
theorem St.pull (H : St w0 F0 m0 m σ w) (n : Nat) {i : Item} (hn : σ[n]? = some i) : St w0 F0 m0 m (i :: σ.eraseIdx n) w := by
 obtain ⟨F, h1, h2⟩ := H.sep
 exact ⟨H.kp, H.sub, H.has, H.new, F, (Sep.mid hn).1 h1, h2⟩
theorem St.step0 {i : Item} (H : St w0 F0 m0 m (i :: σ) w) : ∃ F, i.P m w F ∧ (∀ k, F k → m k = none ∧ k < w.heap.size) ∧
  ∀ (m1 : Mem) (w1 : World) (τ : List Item) (G : Nat → Prop), Kp F w w1 → Sub m m1 → Has m1 w1 → (∀ k o, m1 k = some o → m k = some o ∨ F k ∨ w.heap.size ≤ k) → Sep m1 w1 τ G → (∀ k, G k → m1 k = none) → (∀ k, G k → F k ∨ w.heap.size ≤ k) → St w0 F0 m0 m1 (τ ++ σ) w1 := by
 obtain ⟨F, ⟨F1, F2, h1, h2, h3, h4⟩, h5, h6⟩ := H.sep
 refine ⟨F1, h1, fun k hk => ⟨h5 k ((h4 k).2 (.inl hk)), i.dom h1 k hk⟩, ?_⟩
 intro m1 w1 τ G hk hs hh hn hg hgm hgd
 have hsz := H.kp.size
 refine ⟨H.kp.step hk (fun k hF hlt => (h6 k ((h4 k).2 (.inl hF))).elim id (fun h => by omega)), H.sub.trans hs, hh, ?_, fun k => G k ∨ F2 k, ?_, ?_, ?_⟩
 ·intro k o e
  rcases hn k o e with e | e | e
  ·exact H.new k o e
  ·exact .inr (h6 k ((h4 k).2 (.inl e)))
  ·exact .inr (.inr (by omega))
 ·have h2' : Sep m1 w1 σ F2 := (h2.mono hs).loc (fun k hF => hk.block k (h2.dom k hF) (fun e => h3 k e hF))
  refine Sep.app.2 ⟨G, F2, hg, h2', ?_, fun k => Iff.rfl⟩
  intro k a b
  rcases hgd k a with e | e
  ·exact h3 k e b
  ·have := h2.dom k b
   omega
 ·rintro k (e | e)
  ·exact hgm k e
  ·cases hm1 : m1 k with
   | none => rfl
   | some o =>
    exfalso
    rcases hn k o hm1 with e1 | e1 | e1
    ·have := h5 k ((h4 k).2 (.inr e))
     rw [this] at e1
     cases e1
    ·exact h3 k e1 e
    ·have := h2.dom k e
     omega
 ·rintro k (e | e)
  ·rcases hgd k e with e | e
   ·exact h6 k ((h4 k).2 (.inl e))
   ·exact .inr (by omega)
  ·exact h6 k ((h4 k).2 (.inr e))
def emp : Item where
 P _ _ F := ∀ k, ¬ F k
 loc h _ := h
 mono _ h := h
 dom h k hk := (h k hk).elim
theorem St.emp (H : St w0 F0 m0 m σ w) : St w0 F0 m0 m (emp :: σ) w := by
 obtain ⟨F, h1, h2⟩ := H.sep
 exact ⟨H.kp, H.sub, H.has, H.new, F, ⟨fun _ => False, F, fun _ e => e, h1, fun _ e => e.elim, fun k => ⟨.inr, fun e => e.elim False.elim id⟩⟩, h2⟩
theorem Sep.one {i : Item} {m : Mem} {w : World} {F : Nat → Prop} (h : i.P m w F) : Sep m w [i] F := ⟨F, fun _ => False, h, fun _ e => e, fun _ _ e => e, fun k => ⟨.inl, fun e => e.elim id False.elim⟩⟩
theorem St.upd (H : St w0 F0 m0 m σ w) (n : Nat) {i : Item} (hn : σ[n]? = some i) : ∃ F, i.P m w F ∧ (∀ k, F k → m k = none ∧ k < w.heap.size) ∧
  ∀ (w1 : World) (j : Item) (G : Nat → Prop), Kp F w w1 → j.P m w1 G → (∀ k, G k → F k ∨ w.heap.size ≤ k) → St w0 F0 m0 m (σ.set n j) w1 := by
 obtain ⟨F, h1, h2, h3⟩ := (H.pull n hn).step0
 refine ⟨F, h1, h2, fun w1 j G hk hj hG => ?_⟩
 have hgm : ∀ k, G k → m k = none := fun k hk => (hG k hk).elim (fun e => (h2 k e).1) (fun e => by
  cases hm : m k with
  | none => rfl
  | some o => have := H.has.lt hm; omega)
 have hX := h3 m w1 [j] G hk (Sub.refl _) (H.has.kp hk (fun k e => (h2 k e).1)) (fun k o e => .inl e) (Sep.one hj) hgm hG
 obtain ⟨e1, e2⟩ := set_erase (j := j) hn
 obtain ⟨K, k1, k2⟩ := hX.sep
 exact ⟨hX.kp, hX.sub, hX.has, hX.new, K, (Sep.mid e1).2 (by rw [e2]; exact k1), k2⟩
theorem St.add (H : St w0 F0 m0 m σ w) {j : Item} {G : Nat → Prop} (hx : Ex w w1) (hj : j.P m w1 G) (hG : ∀ k, G k → w.heap.size ≤ k) : St w0 F0 m0 m (j :: σ) w1 := by
 obtain ⟨F, h1, h2, h3⟩ := H.emp.step0
 have hgm : ∀ k, G k → m k = none := fun k hk => by
  cases hm : m k with
  | none => rfl
  | some o => have := H.has.lt hm; have := hG k hk; omega
 exact h3 m w1 [j] G (hx.mono (fun _ _ e => e.elim)) (Sub.refl _) (H.has.kp hx (fun _ e => e.elim)) (fun k o e => .inl e) (Sep.one hj) hgm (fun k e => .inr (hG k e))
theorem St.drop0 {i : Item} (H : St w0 F0 m0 m (i :: σ) w) : St w0 F0 m0 m σ w := by
 obtain ⟨F, h1, h2, h3⟩ := H.step0
 exact h3 m w [] (fun _ => False) (Kp.refl _ _) (Sub.refl _) H.has (fun k o e => .inl e) (fun _ e => e) (fun _ e => e.elim) (fun _ e => e.elim)
theorem St.drop (H : St w0 F0 m0 m σ w) (n : Nat) {i : Item} (hn : σ[n]? = some i) : St w0 F0 m0 m (σ.eraseIdx n) w := (H.pull n hn).drop0
theorem St.dropAll : ∀ {σ : List Item}, St w0 F0 m0 m σ w → St w0 F0 m0 m [] w
 | [], H => H
 | _ :: _, H => H.drop0.dropAll
theorem St.scalar (H : St w0 noF m0 m σ w) : Ex w0 w := H.kp
open Classical in
theorem St.fix0 {i : Item} (H : St w0 F0 m0 m (i :: σ) w) : ∃ F m1, i.P m w F ∧ Sub m m1 ∧ (∀ k, F k → m1 k = w.heap[k]?) ∧ St w0 F0 m0 m1 σ w := by
 obtain ⟨F, h1, h2, h3⟩ := H.step0
 have hs : Sub m (fun k => if F k then w.heap[k]? else m k) := fun k o e => by
  show (if F k then w.heap[k]? else m k) = some o
  by_cases h : F k
  ·rw [(h2 k h).1] at e; cases e
  ·rw [if_neg h]; exact e
 refine ⟨F, fun k => if F k then w.heap[k]? else m k, h1, hs, fun k hk => if_pos hk, ?_⟩
 refine h3 _ w [] (fun _ => False) (Kp.refl _ _) hs ?_ ?_ (fun _ e => e) (fun _ e => e.elim) (fun _ e => e.elim)
 ·intro k o e
  have e : (if F k then w.heap[k]? else m k) = some o := e
  split at e
  ·exact e
  ·exact H.has k o e
 ·intro k o e
  have e : (if F k then w.heap[k]? else m k) = some o := e
  split at e
  ·exact .inr (.inl (by assumption))
  ·exact .inl e
theorem St.fixB (H : St w0 F0 m0 m σ w) (n : Nat) {g : Nat} {cs : List Value} {t : TypeId} (hn : σ[n]? = some (blkI g cs t)) : ∃ m1, Sub m m1 ∧ m1 g = some (.cells cs.toArray t (0, 0)) ∧ St w0 F0 m0 m1 (σ.eraseIdx n) w := by
 obtain ⟨F, m1, h1, h2, h3, h4⟩ := (H.pull n hn).fix0
 exact ⟨m1, h2, (h3 g ((h1.2 g).2 rfl)).trans h1.1, h4⟩
theorem mc_blk {m : Mem} {g : Nat} {cs : List Value} {t : TypeId} {f : Nat × Nat} (h : m g = some (.cells cs.toArray t f)) {i : Nat} {v : Value} (hv : cs[i]? = some v) : mc m ⟨g, i, none⟩ = some v := by
 simp [mc, h, hv]
theorem St.fixR (H : St w0 F0 m0 m σ w) {α : Type} {r : Rep α} (n : Nat) {A : Option Addr} {c : Nat} {l : List α} {t : TypeId} (hn : σ[n]? = some (rowI r t A c l)) : ∃ m1, Sub m m1 ∧ SlI r m1 A c l ∧ St w0 F0 m0 m1 (σ.eraseIdx n) w := by
 obtain ⟨F, m1, ⟨⟨xs, h1, ho⟩, hF⟩, h2, h3, h4⟩ := (H.pull n hn).fix0
 have hc := own_cap ho
 refine ⟨m1, h2, ⟨hc.1, hc.2, xs, h1.mono h2, ?_⟩, h4⟩
 intro j u hj
 obtain ⟨ad, e, _, _, hcell⟩ := Cs.of_own ho j u hj
 refine ⟨ad, e, ?_⟩
 subst e
 rcases ho.2 with ⟨hv, h0⟩ | ⟨g, cap, cur, hv, hb, hg, _⟩
 ·cases hv
 ·cases hv
  have := h3 g ((hF g).2 rfl)
  rw [hg] at this
  have hcell : w.cell? ((⟨g, 0, none⟩ : Addr).add j) = some u := hcell
  rw [Addr.add_lit] at hcell ⊢
  simp only [World.cell?, hg] at hcell
  simp only [mc, this]
  exact hcell
theorem St.cellI (H : St w0 F0 m0 m σ w) {a : Addr} {v : Value} (h : mc m a = some v) : w.cell? a = some v := H.has.cell h
theorem St.keep (H : St w0 F0 m0 m (σ ++ τ) w) : St w0 F0 m0 m σ w := by
 obtain ⟨F, h1, h2, h3⟩ := H.sep
 obtain ⟨F1, F2, h4, h5, h6, h7⟩ := Sep.app.1 h1
 exact ⟨H.kp, H.sub, H.has, H.new, F1, h4, fun k hk => h2 k ((h7 k).2 (.inl hk)), fun k hk => h3 k ((h7 k).2 (.inl hk))⟩
theorem St.takeN (n : Nat) (H : St w0 F0 m0 m σ w) : St w0 F0 m0 m (σ.take n) w := St.keep (τ := σ.drop n) (by rw [List.take_append_drop]; exact H)
theorem St.call (its : List Item) (H : St w0 F0 m0 m (its ++ σ) w) : ∃ F, Sep m w its F ∧ (∀ k, F k → m k = none) ∧
  ∀ (m1 : Mem) (τ : List Item) (w1 : World), St w F m m1 τ w1 → St w0 F0 m0 m1 (τ ++ σ) w1 := by
 obtain ⟨F, h0, h5, h6⟩ := H.sep
 obtain ⟨F1, F2, h1, h2, h3, h4⟩ := Sep.app.1 h0
 refine ⟨F1, h1, fun k hk => h5 k ((h4 k).2 (.inl hk)), fun m1 τ w1 hS => ?_⟩
 let big : Item := { P := fun m w F => Sep m w its F, loc := fun h hk => Sep.loc h hk, mono := fun hs h => Sep.mono hs h, dom := fun h => Sep.dom h }
 have HB : St w0 F0 m0 m (big :: σ) w := ⟨H.kp, H.sub, H.has, H.new, F, ⟨F1, F2, h1, h2, h3, h4⟩, h5, h6⟩
 have hsz := H.kp.size
 obtain ⟨G, g1, g2, g3⟩ := hS.sep
 refine ⟨H.kp.step hS.kp (fun k hF hlt => (h6 k ((h4 k).2 (.inl hF))).elim id (fun h => by omega)), H.sub.trans hS.sub, hS.has, ?_, fun k => G k ∨ F2 k, ?_, ?_, ?_⟩
 ·intro k o e
  rcases hS.new k o e with e | e | e
  ·exact H.new k o e
  ·exact .inr (h6 k ((h4 k).2 (.inl e)))
  ·exact .inr (.inr (by omega))
 ·have h2' : Sep m1 w1 σ F2 := (h2.mono hS.sub).loc (fun k hF => hS.kp.block k (h2.dom k hF) (fun e => h3 k e hF))
  refine Sep.app.2 ⟨G, F2, g1, h2', ?_, fun k => Iff.rfl⟩
  intro k a b
  rcases g3 k a with e | e
  ·exact h3 k e b
  ·have := h2.dom k b
   omega
 ·rintro k (e | e)
  ·exact g2 k e
  ·cases hm1 : m1 k with
   | none => rfl
   | some o =>
    exfalso
    rcases hS.new k o hm1 with e1 | e1 | e1
    ·have := h5 k ((h4 k).2 (.inr e))
     rw [this] at e1
     cases e1
    ·exact h3 k e1 e
    ·have := h2.dom k e
     omega
 ·rintro k (e | e)
  ·rcases g3 k e with e | e
   ·exact h6 k ((h4 k).2 (.inl e))
   ·exact .inr (by omega)
  ·exact h6 k ((h4 k).2 (.inr e))
theorem St.call0 (H : St w0 F0 m0 m σ w) {m1 : Mem} {τ : List Item} (hS : St w noF m m1 τ w1) : St w0 F0 m0 m1 (τ ++ σ) w1 := by
 obtain ⟨F, h1, h2, h3⟩ := St.call (σ := σ) (its := []) H
 have : F = noF := funext fun k => propext ⟨fun e => h1 k e, fun e => e.elim⟩
 subst this
 exact h3 _ _ _ hS
theorem St.blk (H : St w0 F0 m0 m σ w) (n : Nat) {g : Nat} {cs : List Value} {t : TypeId} (hn : σ[n]? = some (blkI g cs t)) : w.heap[g]? = some (.cells cs.toArray t (0, 0)) := by
 obtain ⟨F, h1, _⟩ := H.upd n hn
 exact h1.1
theorem St.cellB (H : St w0 F0 m0 m σ w) (n : Nat) {g off : Nat} {cs : List Value} {t : TypeId} {v : Value} (hn : σ[n]? = some (blkI g cs t)) (hv : cs[off]? = some v) : w.cell? ⟨g, off, none⟩ = some v :=
 blk_cell (H.blk n hn) (by simpa using hv)
theorem St.cellsB (H : St w0 F0 m0 m σ w) (n : Nat) {g off : Nat} {cs vs : List Value} {t : TypeId} (hn : σ[n]? = some (blkI g cs t)) (hv : (cs.drop off).take vs.length = vs) : ∀ j v, vs[j]? = some v → w.cell? ((⟨g, off, none⟩ : Addr).add j) = some v :=
 blk_cells (H.blk n hn) (by simpa using hv)
theorem St.rowAt (H : St w0 F0 m0 m σ w) {α : Type} {r : Rep α} (n : Nat) {A : Option Addr} {c : Nat} {l : List α} {t : TypeId} (hn : σ[n]? = some (rowI r t A c l)) {i : Nat} {x : α} (hx : l[i]? = some x) (h0 : 0 < r.sz) :
  ∃ ad cs, A = some ad ∧ r.im m cs x ∧ ∀ j v, cs[j]? = some v → w.cell? ((ad.add (i * r.sz)).add j) = some v := by
 obtain ⟨F, ⟨⟨xs, h1, ho⟩, hF⟩, _⟩ := H.upd n hn
 obtain ⟨cs, h3, h4⟩ := h1.get hx
 have hl := r.len h3
 obtain ⟨ad, rfl, _, _, _⟩ := Cs.of_own ho _ _ (h4 0 _ (List.getElem?_eq_getElem (by omega)))
 refine ⟨ad, cs, rfl, h3, fun j v hv => ?_⟩
 obtain ⟨ad', e, _, _, h6⟩ := Cs.of_own ho _ _ (h4 j v hv)
 cases e
 rw [add_add]
 exact h6
end
end Go.Proofs.YtkleajhiihbefaaGreatDoor.K
