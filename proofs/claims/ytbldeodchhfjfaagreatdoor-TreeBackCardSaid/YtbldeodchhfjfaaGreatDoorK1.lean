/- The walk's own machine, part 1: program points as paths, known slots, segments that the kernel runs. -/
import Derived.Calls
import Derived.Tactics
import Derived.Tactics2
import Derived.OrdersHeld
import Derived.Below
import Derived.Deep.LoopGhost
import Derived.Deep.Quiet
import Derived.KernelRfl
import Derived.Laws.AppendOwn
import Derived.Laws.OwnMore
import Derived.TacticsIn
import Derived.OrdersIn
import Derived.RangeFuncLeaves
import Derived.RangeFuncSeq
import Derived.Sort.LoopGhostIn
set_option linter.unusedVariables false
set_option linter.unusedSimpArgs false
set_option linter.unusedSectionVars false
namespace Go.Proofs.YtbldeodchhfjfaaGreatDoor.K
open Go Go.RowKit

/-! ### Where a walk goes on: how many slots; the loop whose round it is; the blocks of the marks -/
structure Cx where
  n : Nat
  ro : Option Nat := none
  ds : List Nat := []
  df : List Deferred := []
def mkD (D : Nat) : Deferred := { target := .collected D, args := #[] }
/-- What is deferred: the marks, then calls. -/
def Cx.dl (n : Cx) : List Deferred := n.ds.map mkD ++ n.df
def Fr (ro : Option Nat) : Fence := { fn := fun _ => True, depth := none, alive := false, round := ro }
theorem fr_calls {ro : Option Nat} {n : Nat} {P : Program} {f : FuncId} {args : Array Value} {w : World} {R : Ending → World → Prop} (h : Calls P f args w R) : CallsIn (Fr ro) n P f args w R := (callsIn_wide (n := n)).2 h
theorem calls_fr {ro : Option Nat} {n : Nat} {P : Program} {f : FuncId} {args : Array Value} {w : World} {R : Ending → World → Prop} (h : CallsIn (Fr ro) n P f args w R) : Calls P f args w R := (callsIn_wide (n := n)).1 h
theorem fr_rows {ro : Option Nat} {n : Nat} {P : Program} {row : String} {args : Array Value} {w : World} {R : Value → World → Prop} (h : Rows P row args w R) : RowsIn (Fr ro) n P row args w R :=
  fun c cs _ => let ⟨v, w', r, s⟩ := h c cs; ⟨v, w', r, stepsIn_wide.2 s⟩
def noDefer (o : Oper) : Bool := match o.op with
  | .defer _ => false
  | _ => true
theorem noDefer_ne {o : Oper} (h : noDefer o = true) : ∀ c, o.op ≠ .defer c := fun c e => by unfold noDefer at h; rw [e] at h; cases h
/-- What an operation comes to, in a round or not. -/
theorem wp_fr {ro : Option Nat} {P : Program} {o : Oper} {a : Act} {w : World} {K : Act → World → Prop} {Q : Exit → Act → World → Prop} (hd : noDefer o = true) (h : o.wp P a w K Q) : o.wpIn (Fr ro) 0 P a w K Q := by
  refine ⟨fun _ _ => trivial, ?_⟩
  rw [Oper.semAt_eq _ _ _ (noDefer_ne hd)]
  unfold Oper.wp at h
  generalize (execOp a.eval o).run P w = r at h
  cases r with
  | ok x w' =>
    cases x <;> simp only [Oper.upon, Oper.uponIn] at h ⊢
    case value v => exact h
    case skip => exact h
    case defer d => exact h
    case enter f args => exact ⟨fun e => (by cases e), fr_calls h⟩
    case row row args => exact ⟨fun e => (by cases e), fr_rows h⟩
  | halt x w' =>
    cases x <;> simp only [Oper.upon, Oper.uponIn] at h ⊢
    case panic v => exact h
/-- Ways out that are not taken. -/
structure NP (Q : Exit → Act → World → Prop) : Prop where
  panic : ∀ c a w, ¬ Q (.panic c) a w
  out : ∀ a w, ¬ Q .outgrown a w
theorem ops_fr {ro : Option Nat} {P : Program} {ops : Array Oper} {Q : Exit → Act → World → Prop} (hQ : NP Q) (hd : ops.all noDefer = true) : ∀ (l : List Nat) (a : Act) (w : World), wpOps P ops Q l a w → wpOpsIn (Fr ro) 0 P ops Q l a w
  | [], a, w, h => h
  | i :: rest, a, w, h => by
    simp only [wpOps, wpOpsIn] at h ⊢
    cases ho : ops[i]? with
    | none => simp only [ho] at h ⊢; exact ops_fr hQ hd rest a w h
    | some o =>
      simp only [ho] at h ⊢
      split at h
      · rename_i hw
        rw [if_pos hw]
        rcases h with h | h
        · have hnd : noDefer o = true := by
            rw [Array.all_eq_true_iff_forall_mem] at hd
            exact hd o (Array.mem_of_getElem? ho)
          refine (wp_fr (ro := ro) hnd h).imp id ?_
          intro h
          have := Oper.wpIn_mono (K := wpOps P ops Q rest) (K' := wpOpsIn (Fr ro) 0 P ops Q rest) (ops_fr hQ hd rest) (⟨fun _ _ => trivial, h⟩ : o.wpIn (Fr ro) 0 P a w (wpOps P ops Q rest) Q)
          exact this.2
        · obtain ⟨a0, w0, h0⟩ := h.2
          exact absurd h0 (hQ.out a0 w0)
      · rename_i hw
        rw [if_neg hw]
        exact ⟨fun _ _ => trivial, ops_fr hQ hd rest _ w h⟩

/-! ### Known slots -/
abbrev Kn := List (Nat × Value)

def fnd : Kn → Nat → Option Value
  | [], _ => none
  | (i, v) :: r, t => cond (Nat.beq i t) (some v) (fnd r t)

def ev (κ : Kn) : Operand → Option Value
  | .tmp t => fnd κ t
  | .const v => some v
  | .global g => some (.pointer (some ⟨g, 0, none⟩))
  | .func f => some (.func (.func f) #[] #[])

def evT (κ : Kn) (x : Operand) : Value := (ev κ x).getD undef

structure Ag (n : Cx) (κ : Kn) (a : Act) : Prop where
  defers : a.defers = n.dl
  size : a.tmps.size = n.n
  get : ∀ t v, fnd κ t = some v → a.tmps.getD t undef = v

theorem Ag.ev {n : Cx} {κ : Kn} {a : Act} (h : Ag n κ a) {x : Operand} {v : Value} (hx : ev κ x = some v) : a.eval x = v := by
  cases x with
  | tmp t => exact h.get t v hx
  | const u => simpa [K.ev, Act.eval] using hx
  | global g => simpa [K.ev, Act.eval] using hx
  | func f => simpa [K.ev, Act.eval] using hx

theorem Ag.evT {n : Cx} {κ : Kn} {a : Act} (h : Ag n κ a) {x : Operand} (hx : (K.ev κ x).isSome = true) : a.eval x = evT κ x := by
  obtain ⟨v, hv⟩ := Option.isSome_iff_exists.1 hx
  rw [h.ev hv, K.evT, hv]
  rfl

def putk (d : Option Nat) (v : Value) (κ : Kn) : Kn :=
  match d with
  | some d => (d, v) :: κ
  | none => κ

def dok (d : Option Nat) (n : Nat) : Bool :=
  match d with
  | some d => Nat.blt d n
  | none => true

theorem Ag.put {n : Cx} {κ : Kn} {a : Act} (h : Ag n κ a) (d : Option Nat) (hd : dok d n.n = true) (v : Value) : Ag n (putk d v κ) (a.put d v) := by
  cases d with
  | none => exact h
  | some d =>
    have hlt : d < n.n := by simpa [dok, Nat.blt_eq] using hd
    refine ⟨h.defers, by simpa [Act.put] using h.size, ?_⟩
    intro t u hu
    simp only [putk, fnd] at hu
    have hs := h.size
    by_cases e : d = t
    · subst e
      simp only [Nat.beq_refl, cond_true, Option.some.injEq] at hu
      subst hu
      simp only [Act.put]
      rw [Array.getD_eq_getD_getElem?, Array.getElem?_setIfInBounds_self_of_lt (by omega)]
      rfl
    · have hb : Nat.beq d t = false := by
        cases hb : Nat.beq d t with
        | false => rfl
        | true => exact absurd (Nat.eq_of_beq_eq_true hb) e
      rw [hb] at hu
      simp only [cond_false] at hu
      have := h.get t u hu
      simp only [Act.put]
      rw [Array.getD_eq_getD_getElem?, Array.getElem?_setIfInBounds_ne e, ← Array.getD_eq_getD_getElem?]
      exact this

/-- The slots that are told on. -/
def resK (κ : Kn) : List Nat → Option Kn
  | [] => some []
  | t :: r => match fnd κ t with
    | some v => match resK κ r with
      | some l => some ((t, v) :: l)
      | none => none
    | none => none

theorem resK_fnd {κ : Kn} : ∀ {ts : List Nat} {κ' : Kn}, resK κ ts = some κ' → ∀ t v, fnd κ' t = some v → fnd κ t = some v
  | [], κ', h, t, v, hv => by
    simp only [resK, Option.some.injEq] at h
    subst h
    simp [fnd] at hv
  | s :: r, κ', h, t, v, hv => by
    simp only [resK] at h
    cases h1 : fnd κ s with
    | none => rw [h1] at h; cases h
    | some u =>
      rw [h1] at h
      cases h2 : resK κ r with
      | none => rw [h2] at h; cases h
      | some l =>
        rw [h2] at h
        simp only [Option.some.injEq] at h
        subst h
        simp only [fnd] at hv
        cases hb : Nat.beq s t with
        | true =>
          rw [hb] at hv
          have := Nat.eq_of_beq_eq_true hb
          subst this
          simp only [cond_true, Option.some.injEq] at hv
          subst hv
          exact h1
        | false =>
          rw [hb] at hv
          exact resK_fnd h2 t v hv

theorem Ag.res {n : Cx} {κ κ' : Kn} {a : Act} (h : Ag n κ a) (hr : resK κ (κ'.map Prod.fst) = some κ') : Ag n κ' a :=
  ⟨h.defers, h.size, fun t v hv => h.get t v (resK_fnd hr t v hv)⟩

/-! ### What an operation comes to without the world -/
def pureRes (P : Program) : Sem Next → Option Value
  | .pure (.value v) => some v
  | .pure .skip => some undef
  | .program k => pureRes P (k P)
  | .mark _ k => pureRes P k
  | _ => none

theorem pureRes_run {P : Program} : ∀ {s : Sem Next} {v : Value}, pureRes P s = some v → ∀ w, s.run P w = .ok (.value v) w ∨ (s.run P w = .ok .skip w ∧ v = undef)
  | .pure n, v, h, w => by
    cases n <;> simp [pureRes] at h
    · subst h; exact .inl rfl
    · subst h; exact .inr ⟨rfl, rfl⟩
  | .program k, v, h, w => by
    simp only [pureRes] at h
    exact pureRes_run (s := k P) h w
  | .mark m k, v, h, w => by
    simp only [pureRes] at h
    exact pureRes_run (s := k) h w
  | .load .., _, h, _ => by simp [pureRes] at h
  | .store .., _, h, _ => by simp [pureRes] at h
  | .new .., _, h, _ => by simp [pureRes] at h
  | .shape .., _, h, _ => by simp [pureRes] at h
  | .freeze .., _, h, _ => by simp [pureRes] at h
  | .frozen .., _, h, _ => by simp [pureRes] at h
  | .getObj .., _, h, _ => by simp [pureRes] at h
  | .setObj .., _, h, _ => by simp [pureRes] at h
  | .choose .., _, h, _ => by simp [pureRes] at h
  | .sys .., _, h, _ => by simp [pureRes] at h
  | .halt .., _, h, _ => by simp [pureRes] at h

/-! ### Program points -/
inductive It where
  | co (p : List Nat)
  | op (p : List Nat) (i : Nat)
  | bl (id : Nat)
  | le (j : Nat)

def cAt : Code → List Nat → Code
  | c, [] => c
  | .seq a _, 0 :: p => cAt a p
  | .seq _ b, _ :: p => cAt b p
  | .cond _ a _, 0 :: p => cAt a p
  | .cond _ _ b, _ :: p => cAt b p
  | .block _ b, _ :: p => cAt b p
  | .loop b, _ :: p => cAt b p
  | .scope b, _ :: p => cAt b p
  | .rangeFunc _ _ a _, 0 :: p => cAt a p
  | .rangeFunc _ _ _ b, _ :: p => cAt b p
  | _, _ => .skip

theorem cAt_append : ∀ (c : Code) (p q : List Nat), cAt c (p ++ q) = cAt (cAt c p) q
  | c, [], q => by simp [cAt]
  | c, x :: p, q => by
    cases c <;> cases x <;> simp [cAt, cAt_append] <;> (cases q <;> simp [cAt])

def opsAt (c : Code) (p : List Nat) : Array Oper :=
  match cAt c p with
  | .region _ ops _ => ops
  | _ => #[]

def isPlain (c : Code) (p : List Nat) : Bool :=
  match cAt c p with
  | .region _ _ false => true
  | _ => false

/-- Is the operation wanted? -/
def wants (κ : Kn) (ops : Array Oper) (o : Oper) : Option Bool :=
  match o.guard with
  | none => some true
  | some (j, want) => match ops[j]? with
    | none => none
    | some oj => match oj.dst with
      | none => none
      | some d => match fnd κ d with
        | some (.bool b) => some (b == want)
        | some (.tuple _) => some false
        | _ => none

theorem wants_sound {n : Cx} {κ : Kn} {a : Act} (h : Ag n κ a) {ops : Array Oper} {o : Oper} {b : Bool} (hw : wants κ ops o = some b) : Region.wanted o (yielded ops a.tmps) = b := by
  unfold wants at hw
  unfold Region.wanted
  cases hg : o.guard with
  | none => simp only [hg] at hw ⊢; exact Option.some.inj hw
  | some g =>
    obtain ⟨j, want⟩ := g
    simp only [hg] at hw ⊢
    cases hj : ops[j]? with
    | none => simp [hj] at hw
    | some oj =>
      simp only [hj] at hw
      cases hd : oj.dst with
      | none => simp [hd] at hw
      | some d =>
        simp only [hd] at hw
        cases hf : fnd κ d with
        | none => simp [hf] at hw
        | some v =>
          have hget := h.get d v hf
          have key : ∀ u, v ≠ undef → a.tmps[d]? = some u → u = v := by
            intro u _ hu
            rw [Array.getD_eq_getD_getElem?, hu] at hget
            exact hget
          cases v with
          | bool c =>
            simp only [hf, Option.some.injEq] at hw
            subst hw
            have hs : a.tmps[d]? = some (.bool c) := by
              cases hx : a.tmps[d]? with
              | none => rw [Array.getD_eq_getD_getElem?, hx] at hget; simp [undef] at hget
              | some u => rw [Array.getD_eq_getD_getElem?, hx] at hget; simp at hget; rw [hget]
            simp [yielded, hj, hd, hs]
          | tuple vs =>
            simp only [hf, Option.some.injEq] at hw
            subst hw
            have hs : a.tmps[d]? = none ∨ a.tmps[d]? = some (.tuple vs) := by
              cases hx : a.tmps[d]? with
              | none => exact .inl rfl
              | some u => rw [Array.getD_eq_getD_getElem?, hx] at hget; simp at hget; rw [hget]; exact .inr rfl
            rcases hs with hs | hs <;> simp [yielded, hj, hd, hs]
          | _ => simp [hf] at hw

def noSel (o : Op) : Bool :=
  match o with
  | .select _ _ => false
  | .defer _ => false
  | _ => true
theorem noSel_nd {o : Oper} (h : noSel o.op = true) : noDefer o = true := by
  unfold noDefer
  cases hop : o.op <;> first | rfl | (rw [hop] at h; cases h)

/-- The operation at a point, its operands known: where it puts what it comes to, and its run. -/
def fetch (B : Code) (n : Cx) (p : List Nat) (i : Nat) (κ : Kn) : Option (Option Nat × Sem Next) :=
  match (opsAt B p)[i]? with
  | none => none
  | some o =>
    match wants κ (opsAt B p) o with
    | some true =>
      cond (dok o.dst n.n && noSel o.op && o.op.operands.all (fun x => (ev κ x).isSome)) (some (o.dst, execOp (evT κ) o)) none
    | _ => none

theorem fetch_spec {B : Code} {n : Cx} {p : List Nat} {i : Nat} {κ : Kn} {d : Option Nat} {s : Sem Next} (h : fetch B n p i κ = some (d, s)) :
    ∃ o, (opsAt B p)[i]? = some o ∧ noDefer o = true ∧ o.dst = d ∧ dok d n.n = true ∧ ∀ a, Ag n κ a → Region.wanted o (yielded (opsAt B p) a.tmps) = true ∧ execOp a.eval o = s := by
  unfold fetch at h
  cases ho : (opsAt B p)[i]? with
  | none => rw [ho] at h; cases h
  | some o =>
    rw [ho] at h
    simp only at h
    cases hw : wants κ (opsAt B p) o with
    | none => rw [hw] at h; cases h
    | some b =>
      rw [hw] at h
      cases b with
      | false => cases h
      | true =>
        simp only at h
        cases hc : (dok o.dst n.n && noSel o.op && o.op.operands.all (fun x => (ev κ x).isSome)) with
        | false => rw [hc] at h; cases h
        | true =>
          rw [hc] at h
          simp only [cond_true, Option.some.injEq, Prod.mk.injEq] at h
          obtain ⟨rfl, rfl⟩ := h
          simp only [Bool.and_eq_true] at hc
          refine ⟨o, rfl, noSel_nd hc.1.2, rfl, hc.1.1, fun a ha => ⟨wants_sound ha hw, ?_⟩⟩
          refine execOp_congr o ?_ ?_
          · intro cs b e
            have := hc.1.2
            rw [e] at this
            cases this
          · intro x hx
            refine ha.evT ?_
            have := Array.all_eq_true_iff_forall_mem.1 hc.2 x hx
            exact this

/-! ### What stands behind a point -/
section
variable (P : Program) (B : Code) (ro : Option Nat) (Q : Exit → Act → World → Prop) (J : Nat → Act → World → Prop)

def Hd : List It → Exit → Act → World → Prop
  | [] => Q
  | .bl id :: k => Exit.inBlock id (Hd k)
  | .le j :: k => Exit.then (J j) (Hd k)
  | .co p :: k => Exit.then ((cAt B p).wpIn (Fr ro) 0 P (Hd k)) (Hd k)
  | .op p i :: k => Exit.then (wpListIn (Fr ro) 0 P (opsAt B p) (Hd k) ((opsAt B p).toList.drop i)) (Hd k)

end
/-- From this point on, these slots known. -/
def R (P : Program) (B : Code) (Q : Exit → Act → World → Prop) (J : Nat → Act → World → Prop) (n : Cx) (k : List It) (κ : Kn) (w : World) : Prop := ∀ a, Ag n κ a → Hd P B n.ro Q J k .normal a w

section
variable {P : Program} {B : Code} {Q : Exit → Act → World → Prop} {J : Nat → Act → World → Prop} {n : Cx} {ro : Option Nat}

def popTo (id : Nat) : List It → Option (List It)
  | [] => none
  | .bl id' :: k => cond (Nat.beq id' id) (some k) (popTo id k)
  | _ :: k => popTo id k

theorem Hd_exit (id : Nat) (a : Act) (w : World) : ∀ (k k' : List It), popTo id k = some k' → Hd P B ro Q J k' .normal a w → Hd P B ro Q J k (.exit id) a w
  | [], k', h, _ => by simp [popTo] at h
  | .bl id' :: k, k', h, hk => by
    simp only [popTo] at h
    simp only [Hd, Exit.inBlock]
    cases hb : Nat.beq id' id with
    | true =>
      rw [hb] at h
      simp only [cond_true, Option.some.injEq] at h
      subst h
      have := Nat.eq_of_beq_eq_true hb
      rw [if_pos this.symm]
      exact hk
    | false =>
      rw [hb] at h
      have hne : id ≠ id' := fun e => by rw [e, Nat.beq_refl] at hb; cases hb
      rw [if_neg hne]
      exact Hd_exit id a w k k' h hk
  | .co p :: k, k', h, hk => Hd_exit id a w k k' h hk
  | .op p i :: k, k', h, hk => Hd_exit id a w k k' h hk
  | .le j :: k, k', h, hk => Hd_exit id a w k k' h hk

theorem Hd_ret (a : Act) (w : World) (h : Q .ret a w) : ∀ k : List It, Hd P B ro Q J k .ret a w
  | [] => h
  | .bl _ :: k => Hd_ret a w h k
  | .co _ :: k => Hd_ret a w h k
  | .op _ _ :: k => Hd_ret a w h k
  | .le _ :: k => Hd_ret a w h k

/-- One step of what needs no world. -/
def stp (P : Program) (B : Code) (n : Cx) : List It → Kn → Option (List It × Kn)
  | [], _ => none
  | .bl _ :: k, κ => some (k, κ)
  | .le _ :: _, _ => none
  | .co p :: k, κ => match cAt B p with
    | .skip => some (k, κ)
    | .label _ => some (k, κ)
    | .seq _ _ => some (.co (p ++ [0]) :: .co (p ++ [1]) :: k, κ)
    | .block id _ => some (.co (p ++ [0]) :: .bl id :: k, κ)
    | .cond c _ _ => match ev κ c with
      | some (.bool true) => some (.co (p ++ [0]) :: k, κ)
      | some (.bool false) => some (.co (p ++ [1]) :: k, κ)
      | _ => none
    | .exit id => match popTo id k with
      | some k' => some (k', κ)
      | none => none
    | .region _ _ false => some (.op p 0 :: k, κ)
    | _ => none
  | .op p i :: k, κ => match (opsAt B p)[i]? with
    | none => some (k, κ)
    | some o => match wants κ (opsAt B p) o with
      | some false => cond (dok o.dst n.n) (some (.op p (i + 1) :: k, putk o.dst undef κ)) none
      | some true => match fetch B n p i κ with
        | some (d, s) => match pureRes P s with
          | some v => some (.op p (i + 1) :: k, putk d v κ)
          | none => none
        | none => none
      | none => none

theorem R_op_next {p : List Nat} {i : Nat} {k : List It} {a : Act} {w : World} {o : Oper} (ho : (opsAt B p)[i]? = some o)
    (h : ∀ K : Act → World → Prop, (∀ a w, Hd P B ro Q J (.op p (i + 1) :: k) .normal a w → K a w) → if Region.wanted o (yielded (opsAt B p) a.tmps) then o.wpIn (Fr ro) 0 P a w K (Hd P B ro Q J k) else K (a.put o.dst undef) w) :
    Hd P B ro Q J (.op p i :: k) .normal a w := by
  simp only [Hd, Exit.then] at h ⊢
  have hl : (opsAt B p).toList.drop i = o :: (opsAt B p).toList.drop (i + 1) := by
    have hi : i < (opsAt B p).toList.length := by
      have := (Array.getElem?_eq_some_iff.1 ho).1
      simpa using this
    rw [List.drop_eq_getElem_cons hi]
    congr 1
    have h2 := (Array.getElem?_eq_some_iff.1 ho).2
    simpa using h2
  rw [hl]
  refine wpListIn_step fun K hK => ?_
  have := h K hK
  split at this
  · rename_i hw; rw [if_pos hw]; exact this
  · rename_i hw; rw [if_neg hw]; exact ⟨fun _ _ => trivial, this⟩

theorem stp_sound {k k' : List It} {κ κ' : Kn} {w : World} (h : stp P B n k κ = some (k', κ')) (hk : R P B Q J n k' κ' w) : R P B Q J n k κ w := by
  intro a ha
  cases k with
  | nil => simp [stp] at h
  | cons x k =>
    cases x with
    | bl id =>
      simp only [stp, Option.some.injEq, Prod.mk.injEq] at h
      obtain ⟨rfl, rfl⟩ := h
      exact hk a ha
    | le j => simp [stp] at h
    | co p =>
      simp only [stp] at h
      simp only [Hd, Exit.then]
      cases hc : cAt B p with
      | skip =>
        simp only [hc, Option.some.injEq, Prod.mk.injEq] at h
        obtain ⟨rfl, rfl⟩ := h
        exact wpIn_skip (hk a ha)
      | label l =>
        simp only [hc, Option.some.injEq, Prod.mk.injEq] at h
        obtain ⟨rfl, rfl⟩ := h
        exact wpIn_label (hk a ha)
      | seq x y =>
        simp only [hc, Option.some.injEq, Prod.mk.injEq] at h
        obtain ⟨rfl, rfl⟩ := h
        refine wpIn_seq ?_
        have := hk a ha
        simpa only [Hd, Exit.then, cAt_append, hc, cAt] using this
      | block id x =>
        simp only [hc, Option.some.injEq, Prod.mk.injEq] at h
        obtain ⟨rfl, rfl⟩ := h
        refine wpIn_block ?_
        have := hk a ha
        simpa only [Hd, Exit.then, cAt_append, hc, cAt] using this
      | cond c x y =>
        simp only [hc] at h
        cases hv : ev κ c with
        | none => simp [hv] at h
        | some v =>
          cases v <;> simp only [hv, reduceCtorEq] at h
          rename_i b
          cases b with
          | true =>
            simp only [Option.some.injEq, Prod.mk.injEq] at h
            obtain ⟨rfl, rfl⟩ := h
            refine wpIn_cond_true (ha.ev hv) ?_
            have := hk a ha
            simpa only [Hd, Exit.then, cAt_append, hc, cAt] using this
          | false =>
            simp only [Option.some.injEq, Prod.mk.injEq] at h
            obtain ⟨rfl, rfl⟩ := h
            refine wpIn_cond_false (ha.ev hv) ?_
            have := hk a ha
            simpa only [Hd, Exit.then, cAt_append, hc, cAt] using this
      | exit id =>
        simp only [hc] at h
        cases hp : popTo id k with
        | none => simp [hp] at h
        | some k2 =>
          simp only [hp, Option.some.injEq, Prod.mk.injEq] at h
          obtain ⟨rfl, rfl⟩ := h
          exact wpIn_exit (Hd_exit id a w k _ hp (hk a ha))
      | region id ops d =>
        cases d with
        | true => simp [hc] at h
        | false =>
          simp only [hc, Option.some.injEq, Prod.mk.injEq] at h
          obtain ⟨rfl, rfl⟩ := h
          refine wpIn_region_list ?_
          have := hk a ha
          simpa only [Hd, Exit.then, opsAt, hc, List.drop_zero] using this
      | _ => simp [hc] at h
    | op p i =>
      simp only [stp] at h
      cases ho : (opsAt B p)[i]? with
      | none =>
        simp only [ho, Option.some.injEq, Prod.mk.injEq] at h
        obtain ⟨rfl, rfl⟩ := h
        simp only [Hd, Exit.then]
        have hl : (opsAt B p).toList.drop i = [] := by
          rw [List.drop_eq_nil_iff]
          have := Array.getElem?_eq_none_iff.1 ho
          simpa using this
        rw [hl]
        exact wpListIn_nil (hk a ha)
      | some o =>
        simp only [ho] at h
        refine R_op_next ho fun K hK => ?_
        cases hw : wants κ (opsAt B p) o with
        | none => simp [hw] at h
        | some b =>
          have hws := wants_sound ha hw
          cases b with
          | false =>
            simp only [hw] at h
            cases hd : dok o.dst n.n with
            | false => simp [hd] at h
            | true =>
              simp only [hd, cond_true, Option.some.injEq, Prod.mk.injEq] at h
              obtain ⟨rfl, rfl⟩ := h
              rw [hws]
              exact hK _ _ (hk _ (ha.put _ hd _))
          | true =>
            simp only [hw] at h
            cases hf : fetch B n p i κ with
            | none => simp [hf] at h
            | some ds =>
              obtain ⟨d, s⟩ := ds
              simp only [hf] at h
              cases hr : pureRes P s with
              | none => simp [hr] at h
              | some v =>
                simp only [hr, Option.some.injEq, Prod.mk.injEq] at h
                obtain ⟨rfl, rfl⟩ := h
                obtain ⟨o', ho', hnd, rfl, hd, he⟩ := fetch_spec hf
                rw [ho] at ho'
                obtain rfl := Option.some.inj ho'
                obtain ⟨h1, h2⟩ := he a ha
                rw [h1]
                rw [if_pos rfl]
                refine wp_fr hnd ?_
                simp only [Oper.wp, h2]
                rcases pureRes_run hr w with h3 | ⟨h3, h4⟩
                · rw [h3]
                  exact hK _ _ (hk _ (ha.put _ hd _))
                · subst h4
                  rw [h3]
                  exact hK _ _ (hk _ (ha.put _ hd _))

def stpN (P : Program) (B : Code) (n : Cx) : Nat → List It → Kn → Option (List It × Kn)
  | 0, k, κ => some (k, κ)
  | N + 1, k, κ => match stp P B n k κ with
    | some (k', κ') => stpN P B n N k' κ'
    | none => none

theorem stpN_sound : ∀ (N : Nat) {k k' : List It} {κ κ' : Kn} {w : World}, stpN P B n N k κ = some (k', κ') → R P B Q J n k' κ' w → R P B Q J n k κ w
  | 0, k, k', κ, κ', w, h, hk => by
    simp only [stpN, Option.some.injEq, Prod.mk.injEq] at h
    obtain ⟨rfl, rfl⟩ := h
    exact hk
  | N + 1, k, k', κ, κ', w, h, hk => by
    simp only [stpN] at h
    cases hs : stp P B n k κ with
    | none => simp [hs] at h
    | some x =>
      obtain ⟨k1, κ1⟩ := x
      simp only [hs] at h
      exact stp_sound hs (stpN_sound N h hk)

def segN (P : Program) (B : Code) (n : Cx) (N : Nat) (ts : List Nat) (k : List It) (κ : Kn) : Option (List It × Kn) :=
  match stpN P B n N k κ with
  | some (k', κ') => match resK κ' ts with
    | some l => some (k', l)
    | none => none
  | none => none

/-- A segment: N steps that need no world; the kernel runs them. -/
theorem seg (N : Nat) (k' : List It) (κ' : Kn) {k : List It} {κ : Kn} {w : World} (h : segN P B n N (κ'.map Prod.fst) k κ = some (k', κ')) (hk : R P B Q J n k' κ' w) : R P B Q J n k κ w := by
  unfold segN at h
  cases hs : stpN P B n N k κ with
  | none => simp [hs] at h
  | some x =>
    obtain ⟨k1, κ1⟩ := x
    simp only [hs] at h
    cases hr : resK κ1 (κ'.map Prod.fst) with
    | none => simp [hr] at h
    | some l =>
      simp only [hr, Option.some.injEq, Prod.mk.injEq] at h
      obtain ⟨rfl, rfl⟩ := h
      exact stpN_sound N hs fun a ha => hk a (ha.res hr)

/-- Fewer slots. -/
theorem R_res {k : List It} {κ κ' : Kn} {w : World} (hr : resK κ (κ'.map Prod.fst) = some κ') (hk : R P B Q J n k κ' w) : R P B Q J n k κ w := fun a ha => hk a (ha.res hr)

/-- The operation at a point, carried out, leaves what X tells. -/
def Step (P : Program) (B : Code) (n : Cx) (p : List Nat) (i : Nat) (κ : Kn) (w : World) (X : Kn → World → Prop) : Prop :=
  ∀ (Q : Exit → Act → World → Prop) (K : Act → World → Prop), (∀ κ' w' a', X κ' w' → Ag n κ' a' → K a' w') → ∀ a, Ag n κ a →
    ∃ o, (opsAt B p)[i]? = some o ∧ noDefer o = true ∧ Region.wanted o (yielded (opsAt B p) a.tmps) = true ∧ o.wp P a w K Q

/-- In a region whose order is the text's. -/
theorem st {p : List Nat} {i : Nat} {k : List It} {κ : Kn} {w : World} (h : Step P B n p i κ w (fun κ' w' => R P B Q J n (.op p (i + 1) :: k) κ' w')) : R P B Q J n (.op p i :: k) κ w := by
  intro a ha
  obtain ⟨o, ho, _, _, _⟩ := h (Hd P B n.ro Q J k) _ (fun κ' w' a' hx ha' => hx a' ha') a ha
  refine R_op_next ho fun K hK => ?_
  obtain ⟨o', ho', hnd, hw, h2⟩ := h (Hd P B n.ro Q J k) K (fun κ' w' a' hx ha' => hK _ _ (hx a' ha')) a ha
  rw [ho] at ho'
  obtain rfl := Option.some.inj ho'
  rw [hw, if_pos rfl]
  exact wp_fr hnd h2

/-- One that a walk of the machine alone does not tell: a round. -/
def StepIn (P : Program) (B : Code) (n : Cx) (p : List Nat) (i : Nat) (κ : Kn) (w : World) (X : Kn → World → Prop) : Prop :=
  ∀ (Q : Exit → Act → World → Prop) (K : Act → World → Prop), (∀ κ' w' a', X κ' w' → Ag n κ' a' → K a' w') → ∀ a, Ag n κ a →
    ∃ o, (opsAt B p)[i]? = some o ∧ Region.wanted o (yielded (opsAt B p) a.tmps) = true ∧ o.wpIn (Fr n.ro) 0 P a w K Q
theorem stIn {p : List Nat} {i : Nat} {k : List It} {κ : Kn} {w : World} (h : StepIn P B n p i κ w (fun κ' w' => R P B Q J n (.op p (i + 1) :: k) κ' w')) : R P B Q J n (.op p i :: k) κ w := by
  intro a ha
  obtain ⟨o, ho, _, _⟩ := h (Hd P B n.ro Q J k) _ (fun κ' w' a' hx ha' => hx a' ha') a ha
  refine R_op_next ho fun K hK => ?_
  obtain ⟨o', ho', hw, h2⟩ := h (Hd P B n.ro Q J k) K (fun κ' w' a' hx ha' => hK _ _ (hx a' ha')) a ha
  rw [ho] at ho'
  obtain rfl := Option.some.inj ho'
  rw [hw, if_pos rfl]
  exact h2

section
variable {p : List Nat} {i : Nat} {κ : Kn} {w w' w1 : World} {d : Option Nat} {s : Sem Next} {X : Kn → World → Prop}
/-- An operation that needs the world: by its run. -/
theorem runR {v : Value} (ho : fetch B n p i κ = some (d, s)) (hr : s.run P w = .ok (.value v) w') (hk : X (putk d v κ) w') : Step P B n p i κ w X := by
  intro Q K hK a ha
  obtain ⟨o, ho', hnd, rfl, hd, he⟩ := fetch_spec ho
  obtain ⟨h1, h2⟩ := he a ha
  refine ⟨o, ho', hnd, h1, ?_⟩
  simp only [Oper.wp, h2, hr]
  exact hK _ _ _ hk (ha.put _ hd _)

theorem skipR (ho : fetch B n p i κ = some (d, s)) (hr : s.run P w = .ok .skip w') (hk : X (putk d undef κ) w') : Step P B n p i κ w X := by
  intro Q K hK a ha
  obtain ⟨o, ho', hnd, rfl, hd, he⟩ := fetch_spec ho
  obtain ⟨h1, h2⟩ := he a ha
  refine ⟨o, ho', hnd, h1, ?_⟩
  simp only [Oper.wp, h2, hr]
  exact hK _ _ _ hk (ha.put _ hd _)

/-- A call by its contract. -/
theorem enterR {f : FuncId} {args : Array Value} {Φ : Value → World → Prop} (ho : fetch B n p i κ = some (d, s))
    (hr : s.run P w = .ok (.enter f args) w1) (hc : Calls P f args w1 fun e w' => ∃ v, e = .returned v ∧ Φ v w')
    (hk : ∀ v w', Φ v w' → X (putk d v κ) w') : Step P B n p i κ w X := by
  intro Q K hK a ha
  obtain ⟨o, ho', hnd, rfl, hd, he⟩ := fetch_spec ho
  obtain ⟨h1, h2⟩ := he a ha
  refine ⟨o, ho', hnd, h1, ?_⟩
  simp only [Oper.wp, h2, hr, Oper.upon]
  refine hc.mono ?_
  rintro e w' ⟨v, rfl, hΦ⟩
  exact hK _ _ _ (hk _ _ hΦ) (ha.put _ hd _)
end

/-! ### Entry, return, loops -/
def bodyOf (fn : Func) : Code := match fn.body with
  | some c => c
  | none => .skip

def argK : List Value → Nat → Kn
  | [], _ => []
  | v :: r, i => (i, v) :: argK r (i + 1)

theorem argK_get (l : List Value) : ∀ (i t : Nat) (v : Value), fnd (argK l i) t = some v → i ≤ t ∧ l[t - i]? = some v := by
  induction l with
  | nil => intro i t v h; simp [argK, fnd] at h
  | cons x r ih =>
    intro i t v h
    simp only [argK, fnd] at h
    cases hb : Nat.beq i t with
    | true =>
      rw [hb] at h
      have := Nat.eq_of_beq_eq_true hb
      subst this
      simp only [cond_true, Option.some.injEq] at h
      subst h
      simp
    | false =>
      rw [hb] at h
      obtain ⟨h1, h2⟩ := ih (i + 1) t v h
      have e : t - i = (t - (i + 1)) + 1 := by omega
      exact ⟨by omega, by rw [e]; simpa using h2⟩

/-- What a body must achieve. -/
def bodyP (P : Program) (fn : Func) (Rp : Ending → World → Prop) : Exit → Act → World → Prop
  | .normal, a, w => LeavesInM (Fr none) 0 P fn a.tmps Rp a.defers .returning w
  | .ret, a, w => LeavesInM (Fr none) 0 P fn a.tmps Rp a.defers .returning w
  | .panic c, a, w => LeavesInM (Fr none) 0 P fn a.tmps Rp a.defers (.panicking c) w
  | _, _, _ => False
/-- (Of no weight any more: a body may end in a panic.) -/
class NPc (Q : Exit → Act → World → Prop) : Prop where
  np : True
instance {Q : Exit → Act → World → Prop} : NPc Q := ⟨trivial⟩
/-- No panic. -/
def npx (Q : Exit → Act → World → Prop) : Exit → Act → World → Prop
  | .panic _, _, _ => False
  | .outgrown, _, _ => False
  | e, a, w => Q e a w
theorem npx_np (Q : Exit → Act → World → Prop) : NP (npx Q) := ⟨fun _ _ _ h => h, fun _ _ h => h⟩
theorem npx_mono {Q : Exit → Act → World → Prop} (e : Exit) (a : Act) (w : World) (h : npx Q e a w) : Q e a w := by
  cases e <;> first | exact h | exact h.elim
/-- The marks are taken up, one by one. -/
def Lv : List Nat → (World → Prop) → World → Prop
  | [], X, w => X w
  | D :: ds, X, w => w.heap[D]? = some (.deferred (some [])) ∧ Lv ds X (w.putObj D (.deferred none))
theorem leavesM {fn : Func} {tmps : Array Value} {Rp : Ending → World → Prop} : ∀ {ds : List Nat} {w : World}, Lv ds (fun w' => ∃ v, (results fn tmps).run P w' = .ok v w' ∧ Rp (.returned v) w') w → LeavesInM (Fr none) 0 P fn tmps Rp (ds.map mkD) .returning w
  | [], w, h => h
  | D :: ds, w, h => ⟨by simp, .inl ⟨D, _, rfl, run_takeDeferred h.1, leavesM h.2⟩⟩
theorem callsR {f : FuncId} {fn : Func} {args : Array Value} {w : World} {Rp : Ending → World → Prop} (hf : P.funcs[f]? = some fn) (hb : fn.body.isSome = true) (hn : Nat.ble args.size fn.ntmps = true)
    (h : R P (bodyOf fn) (bodyP P fn Rp) (fun _ _ _ => False) ⟨fn.ntmps, none, [], []⟩ [.co []] (argK args.toList 0) w) : Calls P f args w Rp := by
  obtain ⟨c, hc⟩ := Option.isSome_iff_exists.1 hb
  have e : bodyOf fn = c := by simp [bodyOf, hc]
  refine calls_fr (ro := none) (n := 0) (callsIn_of_wp_marks hf hc trivial ?_ rfl)
  have := h { tmps := args ++ Array.replicate (fn.ntmps - args.size) undef, defers := [] } ⟨rfl, ?_, ?_⟩
  · simp only [Hd, Exit.then, cAt, e] at this
    exact wpIn_mono this fun x a w hx => by
      cases x with
      | panic c => exact hx
      | _ => first | exact hx | exact hx.elim
  · have := Nat.le_of_ble_eq_true hn
    simp
    omega
  · intro t v hv
    obtain ⟨_, h2⟩ := argK_get _ 0 t v hv
    simp only [Nat.sub_zero, Array.getElem?_toList] at h2
    have hlt := (Array.getElem?_eq_some_iff.1 h2).1
    show (args ++ Array.replicate (fn.ntmps - args.size) undef).getD t undef = v
    rw [Array.getD_eq_getD_getElem?, Array.getElem?_append_left hlt, h2]
    rfl

def getL (κ : Kn) : List Nat → Option (List Value)
  | [] => some []
  | t :: r => match fnd κ t with
    | some v => match getL κ r with
      | some l => some (v :: l)
      | none => none
    | none => none

theorem getL_sound {κ : Kn} {a : Act} (ha : Ag n κ a) : ∀ {ts : List Nat} {vs : List Value}, getL κ ts = some vs → ts.map (fun t => a.tmps.getD t undef) = vs
  | [], vs, h => by
    simp only [getL, Option.some.injEq] at h
    subst h
    rfl
  | t :: r, vs, h => by
    simp only [getL] at h
    cases hf : fnd κ t with
    | none => simp [hf] at h
    | some v =>
      simp only [hf] at h
      cases hr : getL κ r with
      | none => simp [hr] at h
      | some l =>
        simp only [hr, Option.some.injEq] at h
        subst h
        rw [List.map_cons, getL_sound ha hr, ha.get t v hf]

def packV : List Value → Value
  | [v] => v
  | l => .tuple l.toArray

def isRet (B : Code) (p : List Nat) : Bool := match cAt B p with
  | .ret => true
  | _ => false

def resTs : List ResultVar → Option (List Nat)
  | [] => some []
  | .tmp t :: r => match resTs r with
    | some l => some (t :: l)
    | none => none
  | .cell _ _ :: _ => none

theorem resTs_map : ∀ {l : List ResultVar} {ts : List Nat}, resTs l = some ts → l = ts.map .tmp
  | [], ts, h => by simp only [resTs, Option.some.injEq] at h; subst h; rfl
  | .tmp t :: r, ts, h => by
    simp only [resTs] at h
    cases hr : resTs r with
    | none => simp [hr] at h
    | some l =>
      simp only [hr, Option.some.injEq] at h
      subst h
      rw [List.map_cons, ← resTs_map hr]
  | .cell _ _ :: _, _, h => by simp [resTs] at h

theorem mapM_tmps (P : Program) (w : World) (tmps : Array Value) : ∀ ts : List Nat, (List.mapM (m := Sem) (fun r : ResultVar => match r with
    | .tmp t => pure (tmps.getD t undef)
    | .cell a t => do loadVar t (← asAddr (tmps.getD a undef))) (ts.map .tmp)).run P w = .ok (ts.map fun t => tmps.getD t undef) w
  | [] => rfl
  | t :: r => by
    rw [List.map_cons, List.mapM_cons, List.map_cons]
    simp only [pure_bind, Sem.run_bind, mapM_tmps P w tmps r, Result.andThen_ok, Sem.run_pure]

theorem results_run {fn : Func} {ts : List Nat} (h : resTs fn.results.toList = some ts) (tmps : Array Value) (w : World) : (results fn tmps).run P w = .ok (packV (ts.map fun t => tmps.getD t undef)) w := by
  have e : fn.results = (ts.map ResultVar.tmp).toArray := by
    rw [← resTs_map h]
  unfold results
  rw [e, List.mapM_toArray]
  have := mapM_tmps P w tmps ts
  simp only [Sem.run_bind]
  rw [show ∀ (X : Sem (List Value)), (List.toArray <$> X : Sem (Array Value)) = X >>= fun l => pure l.toArray from fun _ => rfl]
  rw [Sem.run_bind]
  erw [this]
  simp only [Result.andThen_ok, Sem.run_pure]
  generalize List.map (fun t => tmps.getD t undef) ts = l
  match l with
  | [] => rfl
  | [v] => rfl
  | u :: v :: r => simp [packV]

theorem Lv.imp {X Y : World → Prop} (h : ∀ w, X w → Y w) : ∀ {ds : List Nat} {w : World}, Lv ds X w → Lv ds Y w
  | [], w, k => h w k
  | D :: ds, w, k => ⟨k.1, Lv.imp h k.2⟩
theorem retM {fn : Func} {Rp : Ending → World → Prop} {p : List Nat} {k : List It} {κ : Kn} {w : World} (ts : List Nat) (vs : List Value) (hc : isRet B p = true) (hr : resTs fn.results.toList = some ts)
    (hv : getL κ ts = some vs) (h : Lv n.ds (Rp (.returned (packV vs))) w) (hdf : n.df = [] := by rfl) : R P B (bodyP P fn Rp) J n (.co p :: k) κ w := by
  intro a ha
  simp only [Hd, Exit.then]
  have e : cAt B p = .ret := by
    unfold isRet at hc
    split at hc
    · assumption
    · cases hc
  rw [e]
  refine wpIn_ret (Hd_ret a w ?_ k)
  show LeavesInM (Fr none) 0 P fn a.tmps Rp a.defers .returning w
  rw [ha.defers, Cx.dl, hdf, List.append_nil]
  refine leavesM (h.imp fun w' h => ⟨_, results_run hr a.tmps w', ?_⟩)
  rw [getL_sound ha hv]
  exact h
theorem endM {fn : Func} {Rp : Ending → World → Prop} {κ : Kn} {w : World} (ts : List Nat) (vs : List Value) (hr : resTs fn.results.toList = some ts)
    (hv : getL κ ts = some vs) (h : Lv n.ds (Rp (.returned (packV vs))) w) (hdf : n.df = [] := by rfl) : R P B (bodyP P fn Rp) J n [] κ w := by
  intro a ha
  show LeavesInM (Fr none) 0 P fn a.tmps Rp a.defers .returning w
  rw [ha.defers, Cx.dl, hdf, List.append_nil]
  refine leavesM (h.imp fun w' h => ⟨_, results_run hr a.tmps w', ?_⟩)
  rw [getL_sound ha hv]
  exact h
theorem retR {N : Nat} {fn : Func} {Rp : Ending → World → Prop} {p : List Nat} {k : List It} {κ : Kn} {w : World} (ts : List Nat) (vs : List Value) (hc : isRet B p = true) (hr : resTs fn.results.toList = some ts)
    (hv : getL κ ts = some vs) (h : Rp (.returned (packV vs)) w) : R P B (bodyP P fn Rp) J ⟨N, none, [], []⟩ (.co p :: k) κ w := retM (n := ⟨N, none, [], []⟩) ts vs hc hr hv h
theorem endR {N : Nat} {fn : Func} {Rp : Ending → World → Prop} {κ : Kn} {w : World} (ts : List Nat) (vs : List Value) (hr : resTs fn.results.toList = some ts)
    (hv : getL κ ts = some vs) (h : Rp (.returned (packV vs)) w) : R P B (bodyP P fn Rp) J ⟨N, none, [], []⟩ [] κ w := endM (n := ⟨N, none, [], []⟩) ts vs hr hv h

/-! loops -/
def upJ (j : Nat) (I : Act → World → Prop) (J : Nat → Act → World → Prop) : Nat → Act → World → Prop := fun i => cond (Nat.beq i j) I (J i)

def noLe (j : Nat) : List It → Bool
  | [] => true
  | .le i :: k => !(Nat.beq i j) && noLe j k
  | _ :: k => noLe j k

theorem Hd_upJ {j : Nat} {I : Act → World → Prop} : ∀ {k : List It}, noLe j k = true → Hd P B ro Q (upJ j I J) k = Hd P B ro Q J k
  | [], _ => rfl
  | .bl _ :: k, h => by simp only [Hd]; rw [Hd_upJ (k := k) h]
  | .co _ :: k, h => by simp only [Hd]; rw [Hd_upJ (k := k) h]
  | .op _ _ :: k, h => by simp only [Hd]; rw [Hd_upJ (k := k) h]
  | .le i :: k, h => by
    simp only [noLe, Bool.and_eq_true, Bool.not_eq_true'] at h
    simp only [Hd]
    rw [Hd_upJ (k := k) h.2]
    simp only [upJ, h.1, cond_false]

def isLoop (B : Code) (p : List Nat) : Bool := match cAt B p with
  | .loop _ => true
  | _ => false

/-- What a round's end must hand on. -/
def LInv {α : Type} (n : Cx) (κi : α → Kn) (Φ : α → World → Prop) (μ : α → Nat) (x : α) : Act → World → Prop := fun a w => ∃ y, μ y < μ x ∧ Φ y w ∧ Ag n (κi y) a

theorem loopR {α : Type} (j : Nat) (κi : α → Kn) (Φ : α → World → Prop) (μ : α → Nat) (x0 : α) {p : List Nat} {k : List It} {κ : Kn} {w : World}
    (hl : isLoop B p = true) (hj : noLe j k = true) (h0 : resK κ ((κi x0).map Prod.fst) = some (κi x0)) (hΦ : Φ x0 w)
    (round : ∀ x w, Φ x w → R P B Q (upJ j (LInv n κi Φ μ x) J) n (.co (p ++ [0]) :: .le j :: k) (κi x) w) : R P B Q J n (.co p :: k) κ w := by
  intro a ha
  simp only [Hd, Exit.then]
  obtain ⟨c, hc⟩ : ∃ c, cAt B p = .loop c := by
    unfold isLoop at hl
    split at hl
    · exact ⟨_, by assumption⟩
    · cases hl
  rw [hc]
  refine wpIn_loop_ghost (fun m a w => ∃ x, μ x = m ∧ Φ x w ∧ Ag n (κi x) a) (μ x0) ⟨x0, rfl, hΦ, ha.res h0⟩ ?_
  rintro m a w ⟨x, rfl, hx, hax⟩
  have := round x w hx a hax
  simp only [Hd, Exit.then, cAt_append, hc, cAt] at this
  refine wpIn_mono this ?_
  intro e a' w' hq
  cases e with
  | normal =>
    simp only [Exit.then, upJ, Nat.beq_refl, cond_true] at hq
    obtain ⟨y, h1, h2, h3⟩ := hq
    exact ⟨μ y, h1, y, rfl, h2, h3⟩
  | _ => simp only [Exit.then] at hq ⊢; rw [Hd_upJ hj] at hq; exact hq

theorem leR {α : Type} {j : Nat} {κi : α → Kn} {Φ : α → World → Prop} {μ : α → Nat} {x : α} {k : List It} {κ : Kn} {w : World} (y : α) (hμ : μ y < μ x) (hΦ : Φ y w)
    (h : resK κ ((κi y).map Prod.fst) = some (κi y)) : R P B Q (upJ j (LInv n κi Φ μ x) J) n (.le j :: k) κ w := by
  intro a ha
  simp only [Hd, Exit.then, upJ, Nat.beq_refl, cond_true]
  exact ⟨y, hμ, hΦ, ha.res h⟩

/-- What is known behind a piece of code, whichever way was taken through it. -/
def JInv {α : Type} (n : Cx) (κi : α → Kn) (Φ : α → World → Prop) : Act → World → Prop := fun a w => ∃ y, Φ y w ∧ Ag n (κi y) a

theorem joinR {α : Type} (j : Nat) (κi : α → Kn) (Φ : α → World → Prop) {p : List Nat} {k : List It} {κ : Kn} {w : World} (hj : noLe j k = true)
    (code : R P B Q (upJ j (JInv n κi Φ) J) n (.co p :: .le j :: k) κ w) (after : ∀ x w, Φ x w → R P B Q J n k (κi x) w) : R P B Q J n (.co p :: k) κ w := by
  intro a ha
  have := code a ha
  simp only [Hd, Exit.then] at this ⊢
  refine wpIn_mono this ?_
  intro e a' w' hq
  cases e with
  | normal =>
    simp only [Exit.then, upJ, Nat.beq_refl, cond_true] at hq
    obtain ⟨y, h2, h3⟩ := hq
    exact after y w' h2 a' h3
  | _ => simp only [Exit.then] at hq ⊢; rw [Hd_upJ hj] at hq; exact hq

theorem leJ {α : Type} {j : Nat} {κi : α → Kn} {Φ : α → World → Prop} {k : List It} {κ : Kn} {w : World} (y : α) (hΦ : Φ y w)
    (h : resK κ ((κi y).map Prod.fst) = some (κi y)) : R P B Q (upJ j (JInv n κi Φ) J) n (.le j :: k) κ w := by
  intro a ha
  simp only [Hd, Exit.then, upJ, Nat.beq_refl, cond_true]
  exact ⟨y, hΦ, ha.res h⟩

/-- The end of an outer loop's round, met within an inner one. -/
theorem leR_up {j i : Nat} {I : Act → World → Prop} {k k' : List It} {κ : Kn} {w : World} (hij : Nat.beq i j = false) (h : R P B Q J n (.le i :: k') κ w) : R P B Q (upJ j I J) n (.le i :: k) κ w := by
  intro a ha
  have := h a ha
  simp only [Hd, Exit.then, upJ, hij, cond_false] at this ⊢
  exact this

/-! ### A region that draws its order -/
def listedOf (m : Nat) (done : List Nat) : Array Bool := done.foldl (fun l i => l.setIfInBounds i true) (Array.replicate m false)
theorem listedOf_snoc (m : Nat) (done : List Nat) (i : Nat) : listedOf m (done ++ [i]) = (listedOf m done).setIfInBounds i true := by simp [listedOf]

def isDraw (B : Code) (p : List Nat) : Bool := match cAt B p with
  | .region _ ops true => ops.all noDefer
  | _ => false

theorem Hd_panic (c : List PanicEntry) (a : Act) (w : World) : ∀ k : List It, Hd P B ro Q J k (.panic c) a w = Q (.panic c) a w
  | [] => rfl
  | .bl _ :: k => Hd_panic c a w k
  | .co _ :: k => Hd_panic c a w k
  | .op _ _ :: k => Hd_panic c a w k
  | .le _ :: k => Hd_panic c a w k
theorem Hd_out (a : Act) (w : World) : ∀ k : List It, Hd P B ro Q J k .outgrown a w = Q .outgrown a w
  | [] => rfl
  | .bl _ :: k => Hd_out a w k
  | .co _ :: k => Hd_out a w k
  | .op _ _ :: k => Hd_out a w k
  | .le _ :: k => Hd_out a w k
/-- Within a region that draws its order: these operations are done; in every world that comes S holds. -/
def D (P : Program) (B : Code) (Q : Exit → Act → World → Prop) (J : Nat → Act → World → Prop) (n : Cx) (p : List Nat) (k : List It) (S : World → Prop) (done : List Nat) (κ : Kn) (w : World) : Prop :=
  S w ∧ ∀ a, Ag n κ a → wpAnyH P .any (opsAt B p) (npx (Hd P B n.ro Q J k)) S ((opsAt B p).size - done.length) (listedOf (opsAt B p).size done) a w

section
variable {p : List Nat} {k : List It} {κ : Kn} {w : World} {S : World → Prop} {done : List Nat} [NPc Q]
theorem drawR (S : World → Prop) (hd : isDraw B p = true) (hm : P.follows .mixedOrders = true)
    (h : D P B Q J n p k S [] κ { w with drawn := w.drawn + 1 }) : R P B Q J n (.co p :: k) κ w := by
  intro a ha
  simp only [Hd, Exit.then]
  obtain ⟨id, ops, hc, hnd⟩ : ∃ id ops, cAt B p = .region id ops true ∧ ops.all noDefer = true := by
    unfold isDraw at hd
    split at hd
    · exact ⟨_, _, by assumption, hd⟩
    · cases hd
  have ho : opsAt B p = ops := by simp [opsAt, hc]
  rw [hc]
  have := h.2 a ha
  rw [ho] at this
  refine wpIn_mono (Q := npx (Hd P B n.ro Q J k)) (wpIn_region_draw fun t => ?_) npx_mono
  simp only [Region.schedule, hm, Bool.true_or, if_true]
  exact ops_fr (npx_np _) hnd _ _ _ (wpAny_sound ops.size t _ a _ (wpAny_of_held _ _ _ _ this))

def onlyB (B : Code) (p : List Nat) (done : List Nat) (i : Nat) : Bool := match Region.ready .any (opsAt B p) (listedOf (opsAt B p).size done) with
  | [j] => Nat.beq j i && Nat.blt done.length (opsAt B p).size
  | _ => false

/-- The one operation that may come up. -/
theorem stD {i : Nat} (hr : onlyB B p done i = true) (hS : S w) (h : Step P B n p i κ w (fun κ' w' => D P B Q J n p k S (done ++ [i]) κ' w')) : D P B Q J n p k S done κ w := by
  refine ⟨hS, fun a ha => ?_⟩
  unfold onlyB at hr
  split at hr
  · rename_i j hj
    simp only [Bool.and_eq_true] at hr
    have := Nat.eq_of_beq_eq_true hr.1
    subst this
    have hlt : done.length < (opsAt B p).size := by simpa [Nat.blt_eq] using hr.2
    obtain ⟨f, hf⟩ : ∃ f, (opsAt B p).size - done.length = f + 1 := ⟨(opsAt B p).size - done.length - 1, by omega⟩
    rw [hf]
    refine wpAnyH_all hj (by simp) ?_
    intro i' hi'
    simp only [List.mem_singleton] at hi'
    subst hi'
    obtain ⟨o, ho, _, hw, h2⟩ := h (npx (Hd P B n.ro Q J k)) (fun a' w' => S w' ∧ wpAnyH P .any (opsAt B p) (npx (Hd P B n.ro Q J k)) S f ((listedOf (opsAt B p).size done).setIfInBounds i' true) a' w') (by
      intro κ' w' a' hD ha'
      refine ⟨hD.1, ?_⟩
      have := hD.2 a' ha'
      rw [listedOf_snoc, List.length_append, List.length_singleton, show (opsAt B p).size - (done.length + 1) = f by omega] at this
      exact this) a ha
    unfold wpOp
    rw [ho]
    simp only [hw, if_true]
    exact .inl h2
  · cases hr

def readyB (B : Code) (p : List Nat) (done rs : List Nat) : Bool := (Region.ready .any (opsAt B p) (listedOf (opsAt B p).size done) == rs) && (!rs.isEmpty && Nat.blt done.length (opsAt B p).size)
def AllL (Q : Nat → Prop) : List Nat → Prop
  | [] => True
  | i :: r => Q i ∧ AllL Q r
theorem AllL.mem {Q : Nat → Prop} : ∀ {l : List Nat}, AllL Q l → ∀ i ∈ l, Q i
  | [], _, i, h => by cases h
  | _ :: _, h, i, hi => by
    cases hi with
    | head => exact h.1
    | tail _ hi => exact AllL.mem h.2 i hi

/-- Whichever comes up next. -/
theorem allD (rs : List Nat) (hr : readyB B p done rs = true) (hS : S w) (h : AllL (fun i => Step P B n p i κ w (fun κ' w' => D P B Q J n p k S (done ++ [i]) κ' w')) rs) : D P B Q J n p k S done κ w := by
  refine ⟨hS, fun a ha => ?_⟩
  unfold readyB at hr
  simp only [Bool.and_eq_true, beq_iff_eq, Bool.not_eq_true', List.isEmpty_eq_false_iff] at hr
  obtain ⟨h1, h2, h3⟩ := hr
  have hlt : done.length < (opsAt B p).size := by simpa [Nat.blt_eq] using h3
  obtain ⟨f, hf⟩ : ∃ f, (opsAt B p).size - done.length = f + 1 := ⟨(opsAt B p).size - done.length - 1, by omega⟩
  rw [hf]
  refine wpAnyH_all h1 h2 ?_
  intro i hi
  obtain ⟨o, ho, _, hw, h4⟩ := h.mem i hi (npx (Hd P B n.ro Q J k)) (fun a' w' => S w' ∧ wpAnyH P .any (opsAt B p) (npx (Hd P B n.ro Q J k)) S f ((listedOf (opsAt B p).size done).setIfInBounds i true) a' w') (by
    intro κ' w' a' hD ha'
    refine ⟨hD.1, ?_⟩
    have := hD.2 a' ha'
    rw [listedOf_snoc, List.length_append, List.length_singleton, show (opsAt B p).size - (done.length + 1) = f by omega] at this
    exact this) a ha
  unfold wpOp
  rw [ho]
  simp only [hw, if_true]
  exact .inl h4

def freeB (B : Code) (p : List Nat) (done : List Nat) (i : Nat) : Bool :=
  Region.noSelect (opsAt B p) && (Region.free .any (opsAt B p) (listedOf (opsAt B p).size done) i && ((Region.ready .any (opsAt B p) (listedOf (opsAt B p).size done)).contains i && Nat.blt done.length (opsAt B p).size))

theorem takeD0 {i : Nat} {o : Oper} {v : Value} (hf : freeB B p done i = true) (ho : (opsAt B p)[i]? = some o) (hy : ∀ a, Ag n κ a → YieldsIf P (opsAt B p) S o v a) (hdk : dok o.dst n.n = true)
    (h : D P B Q J n p k S (done ++ [i]) (putk o.dst v κ) w) : D P B Q J n p k S done κ w := by
  refine ⟨h.1, fun a ha => ?_⟩
  unfold freeB at hf
  simp only [Bool.and_eq_true] at hf
  obtain ⟨h1, h2, h3, h4⟩ := hf
  have hlt : done.length < (opsAt B p).size := by simpa [Nat.blt_eq] using h4
  obtain ⟨f, hf⟩ : ∃ f, (opsAt B p).size - done.length = f + 1 := ⟨(opsAt B p).size - done.length - 1, by omega⟩
  rw [hf]
  refine wpAnyH_take (v := v) ho h1 h2 h3 (fun _ _ _ h => h.elim) (hy a ha) h.1 ?_
  have := h.2 (a.put o.dst v) (ha.put _ hdk _)
  rw [listedOf_snoc, List.length_append, List.length_singleton, show (opsAt B p).size - (done.length + 1) = f by omega] at this
  exact this

/-- One that reads, or tells the same whatever else has been done. -/
theorem takeD {i : Nat} {d : Option Nat} {s : Sem Next} {v : Value} (hf : freeB B p done i = true) (ho : fetch B n p i κ = some (d, s)) (hs : ∀ w', S w' → s.run P w' = .ok (.value v) w')
    (h : D P B Q J n p k S (done ++ [i]) (putk d v κ) w) : D P B Q J n p k S done κ w := by
  obtain ⟨o, ho', hnd, rfl, hd, he⟩ := fetch_spec ho
  refine takeD0 hf ho' (fun a ha => .inl ?_) hd h
  obtain ⟨h1, h2⟩ := he a ha
  exact ⟨h1, fun w' hw' => by rw [h2]; exact hs w' hw'⟩

/-- Those that need no world, one by one. -/
def takeN (P : Program) (B : Code) (n : Cx) (p : List Nat) : List Nat → List Nat → Kn → Option (List Nat × Kn)
  | [], done, κ => some (done, κ)
  | i :: r, done, κ => cond (freeB B p done i)
    (match (opsAt B p)[i]? with
      | none => none
      | some o => match wants κ (opsAt B p) o with
        | some false => cond (dok o.dst n.n) (takeN P B n p r (done ++ [i]) (putk o.dst undef κ)) none
        | some true => match fetch B n p i κ with
          | some (d, .pure (.value v)) => takeN P B n p r (done ++ [i]) (putk d v κ)
          | some (d, s) => match pureV P s with
            | some v => takeN P B n p r (done ++ [i]) (putk d v κ)
            | none => none
          | none => none
        | none => none) none
  where
  pureV (P : Program) : Sem Next → Option Value
    | .pure (.value v) => some v
    | .program k => pureV P (k P)
    | .mark _ k => pureV P k
    | _ => none

theorem pureV_run {P : Program} : ∀ {s : Sem Next} {v : Value}, takeN.pureV P s = some v → ∀ w, s.run P w = .ok (.value v) w
  | .pure n, v, h, w => by
    cases n <;> simp [takeN.pureV] at h
    subst h; rfl
  | .program k, v, h, w => by
    simp only [takeN.pureV] at h
    exact pureV_run (s := k P) h w
  | .mark m k, v, h, w => by
    simp only [takeN.pureV] at h
    exact pureV_run (s := k) h w
  | .load .., _, h, _ => by simp [takeN.pureV] at h
  | .store .., _, h, _ => by simp [takeN.pureV] at h
  | .new .., _, h, _ => by simp [takeN.pureV] at h
  | .shape .., _, h, _ => by simp [takeN.pureV] at h
  | .freeze .., _, h, _ => by simp [takeN.pureV] at h
  | .frozen .., _, h, _ => by simp [takeN.pureV] at h
  | .getObj .., _, h, _ => by simp [takeN.pureV] at h
  | .setObj .., _, h, _ => by simp [takeN.pureV] at h
  | .choose .., _, h, _ => by simp [takeN.pureV] at h
  | .sys .., _, h, _ => by simp [takeN.pureV] at h
  | .halt .., _, h, _ => by simp [takeN.pureV] at h

theorem takeN_sound : ∀ (is : List Nat) {done done' : List Nat} {κ κ' : Kn}, takeN P B n p is done κ = some (done', κ') → D P B Q J n p k S done' κ' w → D P B Q J n p k S done κ w
  | [], done, done', κ, κ', h, hD => by
    simp only [takeN, Option.some.injEq, Prod.mk.injEq] at h
    obtain ⟨rfl, rfl⟩ := h
    exact hD
  | i :: r, done, done', κ, κ', h, hD => by
    simp only [takeN] at h
    cases hf : freeB B p done i with
    | false => simp [hf] at h
    | true =>
      simp only [hf, cond_true] at h
      cases ho : (opsAt B p)[i]? with
      | none => simp [ho] at h
      | some o =>
        simp only [ho] at h
        cases hw : wants κ (opsAt B p) o with
        | none => simp [hw] at h
        | some b =>
          cases b with
          | false =>
            simp only [hw] at h
            cases hdk : dok o.dst n.n with
            | false => simp [hdk] at h
            | true =>
              simp only [hdk, cond_true] at h
              exact takeD0 hf ho (fun a ha => .inr ⟨wants_sound ha hw, rfl⟩) hdk (takeN_sound r h hD)
          | true =>
            simp only [hw] at h
            cases hfe : fetch B n p i κ with
            | none => simp [hfe] at h
            | some ds =>
              obtain ⟨d, s⟩ := ds
              simp only [hfe] at h
              have key : ∃ v, takeN.pureV P s = some v ∧ takeN P B n p r (done ++ [i]) (putk d v κ) = some (done', κ') := by
                split at h
                · rename_i heq
                  simp only [Option.some.injEq, Prod.mk.injEq] at heq
                  obtain ⟨rfl, rfl⟩ := heq
                  exact ⟨_, rfl, h⟩
                · rename_i heq
                  simp only [Option.some.injEq, Prod.mk.injEq] at heq
                  obtain ⟨rfl, rfl⟩ := heq
                  split at h
                  · exact ⟨_, by assumption, h⟩
                  · cases h
                · rename_i heq
                  cases heq
              obtain ⟨v, hv, h⟩ := key
              exact takeD hf hfe (fun w' _ => pureV_run hv w') (takeN_sound r h hD)

def segDN (P : Program) (B : Code) (n : Cx) (p : List Nat) (is ts done : List Nat) (κ : Kn) : Option (List Nat × Kn) :=
  match takeN P B n p is done κ with
  | some (done', κ') => match resK κ' ts with
    | some l => some (done', l)
    | none => none
  | none => none

theorem segD (is done' : List Nat) (κ' : Kn) (h : segDN P B n p is (κ'.map Prod.fst) done κ = some (done', κ')) (hk : D P B Q J n p k S done' κ' w) : D P B Q J n p k S done κ w := by
  unfold segDN at h
  cases hs : takeN P B n p is done κ with
  | none => simp [hs] at h
  | some x =>
    obtain ⟨d1, κ1⟩ := x
    simp only [hs] at h
    cases hr : resK κ1 (κ'.map Prod.fst) with
    | none => simp [hr] at h
    | some l =>
      simp only [hr, Option.some.injEq, Prod.mk.injEq] at h
      obtain ⟨rfl, rfl⟩ := h
      exact takeN_sound is hs ⟨hk.1, fun a ha => hk.2 a (ha.res hr)⟩

def doneB (B : Code) (p : List Nat) (done : List Nat) : Bool := (Region.ready .any (opsAt B p) (listedOf (opsAt B p).size done)).isEmpty

theorem endD (hr : doneB B p done = true) (hS : S w) (h : R P B Q J n k κ w) : D P B Q J n p k S done κ w :=
  ⟨hS, fun a ha => wpAnyH_done (Q := npx (Hd P B n.ro Q J k)) (by simpa [doneB] using hr) (show npx (Hd P B n.ro Q J k) .normal a w from h a ha) _⟩
end
end
end Go.Proofs.YtbldeodchhfjfaaGreatDoor.K
