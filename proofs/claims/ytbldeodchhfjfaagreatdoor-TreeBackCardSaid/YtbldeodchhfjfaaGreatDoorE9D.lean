/- E, part 9 d: rows whose elements own a row. -/
import Derived.Test.YtbldeodchhfjfaaGreatDoorE9M
set_option linter.unusedVariables false
set_option linter.unusedSimpArgs false
set_option linter.unusedSectionVars false
namespace Go.Proofs.YtbldeodchhfjfaaGreatDoor.K.E
open Go Go.RowKit

section
variable (P : Program) (tb : Tab) {ρ : Type}
def withDeep {C : Type} (s : S tb.T) (id : Nat) (f : (k : Nat) → (d : DP tb.T tb.rep k) → List (tb.T d.n) → Option C) : Option C := match lk s.σ id with
  | some (_, .gen k x j) => cond (Nat.beq j id) (match tb.dp k with
    | some d => f k d (d.to x)
    | none => none) none
  | _ => none
theorem withDeep_some {C : Type} {s : S tb.T} {id : Nat} {f : (k : Nat) → (d : DP tb.T tb.rep k) → List (tb.T d.n) → Option C} {c : C} (h : withDeep tb s id f = some c) : ∃ st k d x, lk s.σ id = some (st, .gen k x id) ∧ tb.dp k = some d ∧ f k d (d.to x) = some c := by
  unfold withDeep at h
  split at h
  · rename_i st k x j hl
    cases hb : Nat.beq j id with
    | false => rw [hb] at h; cases h
    | true =>
      have := beq_t hb
      subst this
      rw [hb] at h
      simp only [cond_true] at h
      split at h
      · rename_i d hd
        exact ⟨st, k, d, x, hl, hd, h⟩
      · cases h
  · cases h
def withHole {C : Type} (s : S tb.T) (id : Nat) (f : (k : Nat) → (d : DP tb.T tb.rep k) → List (tb.T d.n) × Int × tb.T d.n → Nat → Option C) : Option C := match lk s.σ id with
  | some (_, .gen h x j) => match tb.hd h with
    | some k => match tb.dp k with
      | some d => match castE d.hk h x with
        | some q => f k d (d.toh q) j
        | none => none
      | none => none
    | none => none
  | _ => none
theorem withHole_some {C : Type} {s : S tb.T} {id : Nat} {f : (k : Nat) → (d : DP tb.T tb.rep k) → List (tb.T d.n) × Int × tb.T d.n → Nat → Option C} {c : C} (h : withHole tb s id f = some c) : ∃ st k d x j, lk s.σ id = some (st, .gen d.hk x j) ∧ tb.dp k = some d ∧ f k d (d.toh x) j = some c := by
  unfold withHole at h
  split at h
  · rename_i st hh x j hl
    split at h
    · rename_i k _
      split at h
      · rename_i d hd
        split at h
        · rename_i q hq
          obtain ⟨e, rfl⟩ := castE_some hq
          subst e
          exact ⟨st, k, d, x, j, hl, hd, h⟩
        · cases h
      · cases h
    · cases h
  · cases h
/-- The row that was taken out is laid back. -/
def closeD (s : S tb.T) (id : Nat) : Option (S tb.T) := withHole tb s id fun k d q j => match lk s.σ j with
  | some (_, .row nk tk l2) => cond (Nat.beq tk d.tk) (match castL d.nk nk l2 with
    | some l2 => some { s with σ := (id, s.d, .gen k (d.of (q.1.set q.2.1.toNat (d.D.setk q.2.2 l2))) id) :: del (del s.σ id) j, d := s.d + 1 }
    | none => none) none
  | _ => none
def holesL : Sg tb.T → List Nat
  | [] => []
  | (id, _, .gen h _ _) :: r => cond (tb.hd h).isSome (id :: holesL r) (holesL r)
  | _ :: r => holesL r
def closeL : List Nat → S tb.T → S tb.T
  | [], s => s
  | id :: r, s => match closeD tb s id with
    | some s' => closeL r s'
    | none => closeL r s
def closeAll (s : S tb.T) : S tb.T := closeL tb (holesL tb s.σ) s
/-- .. where there is one that stands open. -/
def shutD (s : S tb.T) (id : Nat) : S tb.T := match closeD tb s id with
  | some s' => s'
  | none => s
def elD {k : Nat} (d : DP tb.T tb.rep k) (x : tb.T d.n) : List (AV tb.T) := (tb.ex d.n (d.D.setk x [])).set d.off .any
/-- The list, whether it stands open or not. -/
def seenD (s : S tb.T) (id : Nat) {C : Type} (f : (k : Nat) → (d : DP tb.T tb.rep k) → List (tb.T d.n) → Option C) : Option C := match withDeep tb s id (fun k d l => some (f k d l)) with
  | some r => r
  | none => match withHole tb s id (fun k d q _ => some (f k d q.1)) with
    | some r => r
    | none => none
def idxD (t : TypeId) (id : Nat) (b : AV tb.T) (s : S tb.T) (k : KO tb.T ρ) : Option ρ := match iv b with
  | some i => seenD tb s id fun _ d l => cond (slB' P tb t d.n && Nat.blt 0 (tb.rep d.n).sz) ((idx l i).bind fun _ => k (.elt id i d.n 0) s) none
  | none => none
def lenD (t : TypeId) (id : Nat) (s : S tb.T) (k : KO tb.T ρ) : Option ρ := seenD tb s id fun _ d l => cond (slcE P t).isSome (k (.i64 (l.length : Int)) s) none
def openD (t : TypeId) (id : Nat) (i : Int) (n off : Nat) (s : S tb.T) (k : KO tb.T ρ) : Option ρ := withDeep tb s id fun _ d l => cond (Nat.beq n d.n && (Nat.beq off d.off && oneB P t)) ((idx l i).bind fun x =>
  k (.row s.c) { κ := s.κ, σ := (s.c, s.d, .row d.nk d.tk (d.D.getk x)) :: (id, s.d, .gen d.hk (d.ofh (l, i, x)) s.c) :: del s.σ id, c := s.c + 1, d := s.d + 1 }) none
def loadD1 (t : TypeId) (id : Nat) (i : Int) (n off : Nat) (s : S tb.T) (k : KO tb.T ρ) : Option ρ := withDeep tb s id fun _ d l => cond (Nat.beq n d.n) (cond (Nat.beq off d.off) (openD P tb t id i n off s k)
  ((idx l i).bind fun x => match getC P tb t (elD tb d x) off with
    | some v => k v s
    | none => none)) none
def loadD (t : TypeId) (id : Nat) (i : Int) (n off : Nat) (s : S tb.T) (k : KO tb.T ρ) : Option ρ := loadD1 P tb t id i n off (shutD tb s id) k
def storeD1 (t : TypeId) (id : Nat) (i : Int) (n off : Nat) (a : AV tb.T) (s : S tb.T) (k : KO tb.T ρ) : Option ρ := withDeep tb s id fun kk d l => cond (Nat.beq n d.n && (oneB P t && (oneA a && (Nat.blt off (tb.rep d.n).sz && !Nat.beq off d.off)))) ((idx l i).bind fun x =>
  match tb.im d.n ((tb.ex d.n (d.D.setk x [])).set off a) with
  | some y => k undA { s with σ := sto s.σ id s.d (.gen kk (d.of (l.set i.toNat (d.D.setk y (d.D.getk x)))) id), d := s.d + 1 }
  | none => none) none
def storeD2 (t : TypeId) (id : Nat) (i : Int) (n off : Nat) (a : AV tb.T) (s : S tb.T) (k : KO tb.T ρ) : Option ρ := withHole tb s id fun kk d q j => match a with
  | .row id3 => match lk s.σ id3 with
    | some (_, .row nk tk l3) => cond (Nat.beq n d.n && (Nat.beq off d.off && (oneB P t && Nat.beq tk d.tk))) (match castL d.nk nk l3 with
      | some l3 => (chk (decide (i = q.2.1))).bind fun _ => k undA { s with σ := (id, s.d, .gen kk (d.of (q.1.set q.2.1.toNat (d.D.setk q.2.2 l3))) id) :: del (del s.σ id) id3, d := s.d + 1 }
      | none => none) none
    | _ => none
  | _ => none
def storeD (t : TypeId) (id : Nat) (i : Int) (n off : Nat) (a : AV tb.T) (s : S tb.T) (k : KO tb.T ρ) : Option ρ := seenD tb s id fun _ d _ => cond (Nat.beq off d.off) (storeD2 P tb t id i n off a s k) (match frzA tb 20 [a] s with
  | some ([a], s) => storeD1 P tb t id i n off a (shutD tb s id) k
  | _ => none)
/-- The row that an element's cells hold. -/
def kidsA {k : Nat} (d : DP tb.T tb.rep k) (c : List (AV tb.T)) (σ : Sg tb.T) : Option (List (tb.T d.nk) × Sg tb.T) := match c[d.off]? with
  | some .nils => some ([], σ)
  | some (.row id) => match lk σ id with
    | some (_, .row nk tk l) => cond (Nat.beq tk d.tk) (match castL d.nk nk l with
      | some l => some (l, del σ id)
      | none => none) none
    | _ => none
  | _ => none
/-- A literal of one element becomes a row of such. -/
def litD (s : S tb.T) (id : Nat) : Option (S tb.T) := match lk s.σ id with
  | some (_, .lit e 1 c) => match tb.gcode e with
    | some kk => match tb.dp kk with
      | some d => cond (Nat.beq d.t e) (match kidsA tb d c (del s.σ id), tb.im d.n (c.set d.off .nils) with
        | some (l, σ), some x => some { s with σ := (id, s.d, .gen kk (d.of [d.D.setk x l]) id) :: σ, d := s.d + 1 }
        | _, _ => none) none
      | none => none
    | none => none
  | _ => none
def baseD {k : Nat} (d : DP tb.T tb.rep k) (kk : Nat) (a : AV tb.T) (s : S tb.T) : Option (List (tb.T d.n) × S tb.T) := match a with
  | .nils => some ([], s)
  | .row id => match lk s.σ id with
    | some (_, .gen k' x j) => cond (Nat.beq j id && Nat.beq k' kk) (match tb.dp k' with
      | some d' => match castL d.n d'.n (d'.to x) with
        | some l => some (l, delI s id)
        | none => none
      | none => none) none
    | _ => none
  | _ => none
def shutA (s : S tb.T) (a : AV tb.T) : S tb.T := match a with
  | .row id => match litD tb (shutD tb s id) id with
    | some s' => s'
    | none => shutD tb s id
  | _ => s
def appD (t t2 : TypeId) (a b : AV tb.T) (s : S tb.T) (k : KO tb.T ρ) : Option ρ := match slcE P t, b with
  | some e, .row idb => match tb.gcode e with
    | some kk => match tb.dp kk with
      | some d => cond (Nat.beq t2 t && (Nat.beq d.t e && elC P t e (tb.rep d.n).sz)) (match baseD tb d kk a (shutA tb s a) with
        | some (l, s) => match lk s.σ idb with
          | some (_, .lit _ 1 c) => match kidsA tb d c (del s.σ idb), tb.im d.n (c.set d.off .nils) with
            | some (lk', σ), some x => (app l [d.D.setk x lk']).bind fun y => k (.row s.c) (addI { s with σ := σ } (.gen kk (d.of y) s.c))
            | _, _ => none
          | _ => none
        | none => none) none
      | none => none
    | none => none
  | _, _ => none
end
section
variable {P : Program} {tb : Tab} {bs : Bs} {η : List Value} {m : Mem} {s s' : S tb.T} {w : World} {κc : Kn}
/-- .. one that stands open. -/
theorem Wd.hole (T : TabOk tb) (h : Wd tb bs η m s w) {id st kk j : Nat} {d : DP tb.T tb.rep kk} {x : tb.T d.hk} (hl : lk s.σ id = some (st, .gen d.hk x j)) (hd : tb.dp kk = some d) :
    ∃ A c cs u, η[id]? = some (.slice A (d.toh x).1.length c) ∧ η[j]? = some u ∧ (d.toh x).1[(d.toh x).2.1.toNat]? = some (d.toh x).2.2 ∧ cs[d.off]? = some u ∧ u.oneCell' = true ∧ But d.D m cs (d.toh x).2.2 ∧ St bs.w0 bs.F0 bs.m0 m (holeO (oD d.D d.tk) d.t A c (d.toh x).1 (d.toh x).2.1.toNat cs :: its tb η (E.del s.σ id)) w := by
  obtain ⟨v, u, h1, h2, h3, h4⟩ := h.gen hl
  rw [(T.kd.dgi hd).2.1] at h4
  obtain ⟨⟨A, c, cs⟩, q1, q2⟩ := St_ex (j := fun q : Option Addr × Nat × List Value => holeO (oD d.D d.tk) d.t q.1 q.2.1 (d.toh x).1 (d.toh x).2.1.toNat q.2.2)
    (Q := fun q => (v = .slice q.1 (d.toh x).1.length q.2.1 ∧ (d.toh x).1[(d.toh x).2.1.toNat]? = some (d.toh x).2.2 ∧ q.2.2[d.off]? = some u ∧ u.oneCell' = true) ∧ But d.D m q.2.2 (d.toh x).2.2) h4 (fun F ⟨A, c, cs, e1, e2, e3⟩ => ⟨(A, c, cs), ⟨e1, e2⟩, e3⟩)
  obtain ⟨⟨e1, e2, e3, e4⟩, e5⟩ := q1
  simp only at e1 e2 e3 e4 e5 q2
  subst e1
  exact ⟨A, c, cs, u, h1, h2, e2, e3, e4, e5, q2⟩
theorem deep_item (T : TabOk tb) {kk id : Nat} {d : DP tb.T tb.rep kk} (hd : tb.dp kk = some d) {A : Option Addr} {c : Nat} {l : List (tb.T d.n)} (h1 : η[id]? = some (.slice A l.length c)) {F : Nat → Prop}
    (h3 : (rowO (oD d.D d.tk) d.t A c l).P m w F) : ((DI.gen kk (d.of l) id).item tb η id).P m w F := by
  refine ⟨_, _, ⟨h1, h1⟩, rfl, ?_⟩
  rw [(T.kd.dgi hd).1, (T.kd.dgi hd).2.2.1]
  exact ⟨A, c, rfl, h3⟩
theorem hole_item (T : TabOk tb) {kk id j : Nat} {d : DP tb.T tb.rep kk} (hd : tb.dp kk = some d) {A : Option Addr} {c : Nat} {i : Int} {l : List (tb.T d.n)} {y : tb.T d.n} {cs : List Value} {u : Value} (h1 : η[id]? = some (.slice A l.length c)) (h2 : η[j]? = some u)
    (e2 : l[i.toNat]? = some y) (e3 : cs[d.off]? = some u) (e4 : u.oneCell' = true) (e5 : But d.D m cs y) {F : Nat → Prop}
    (h3 : (holeO (oD d.D d.tk) d.t A c l i.toNat cs).P m w F) : ((DI.gen d.hk (d.ofh (l, i, y)) j).item tb η id).P m w F := by
  refine ⟨_, _, ⟨h1, h2⟩, rfl, ?_⟩
  rw [(T.kd.dgi hd).2.1, (T.kd.dgi hd).2.2.2]
  exact ⟨A, c, cs, ⟨rfl, e2, e3, e4⟩, e5, h3⟩
theorem St_swap {w0 : World} {F0 : Nat → Prop} {m0 : Mem} {i j : Item} {σ : List Item} (H : St w0 F0 m0 m (i :: j :: σ) w) : St w0 F0 m0 m (j :: i :: σ) w := H.perm (List.Perm.swap _ _ _)
/-- An item out of those behind the first. -/
theorem St_pull2 {w0 : World} {F0 : Nat → Prop} {m0 : Mem} {i : Item} {σ : Sg tb.T} {id : Nat} {p : Nat × DI tb.T} (hl : lk σ id = some p) (H : St w0 F0 m0 m (i :: its tb η σ) w) : St w0 F0 m0 m (p.2.item tb η id :: i :: its tb η (E.del σ id)) w := by
  refine St_sub H ?_
  rintro F ⟨F1, F2, h1, h2, h3, h4⟩
  obtain ⟨G1, G2, k1, k2, k3, k4⟩ := Sep_lk hl h2
  refine ⟨fun k => G1 k ∨ (F1 k ∨ G2 k), fun k e => (h4 k).2 (e.elim (fun e => .inr (k4 k (.inl e))) (fun e => e.elim .inl (fun e => .inr (k4 k (.inr e))))), G1, fun k => F1 k ∨ G2 k, k1, ⟨F1, G2, h1, k2, fun k a b => h3 k a (k4 k (.inr b)), fun k => Iff.rfl⟩, ?_, fun k => Iff.rfl⟩
  intro k a b
  exact b.elim (fun b => h3 k b (k4 k (.inl a))) (k3 k a)
theorem row_ex {w0 : World} {F0 : Nat → Prop} {m0 : Mem} {σ : List Item} {id n t : Nat} {l : List (tb.T n)} (H : St w0 F0 m0 m ((DI.row n t l).item tb η id :: σ) w) : ∃ A c, η[id]? = some (.slice A l.length c) ∧ St w0 F0 m0 m (rowI (tb.rep n) t A c l :: σ) w := by
  obtain ⟨⟨A, c⟩, h1, h2⟩ := St_ex (j := fun y : Option Addr × Nat => rowI (tb.rep n) t y.1 y.2 l) (Q := fun y => η[id]? = some (.slice y.1 l.length y.2)) H (fun F ⟨A, c, h1, h2⟩ => ⟨(A, c), h1, h2⟩)
  exact ⟨A, c, h1, h2⟩
/-- An element's item out of its row. -/
theorem St.oIt {w0 : World} {F0 : Nat → Prop} {m0 : Mem} {σ : List Item} {α β : Type} {r : Rep α} {rk : Rep β} {off : Nat} (D : Deep α β r rk off) {tk : TypeId} {A : Option Addr} {c : Nat} {l : List β} {cs : List Value} {x : α}
    (e : D.getk x = l) (h1 : cs[off]? = some (.slice A l.length c)) (h2 : But D m cs x) (H : St w0 F0 m0 m (rowI rk tk A c l :: σ) w) : St w0 F0 m0 m ((oD D tk).it cs x :: σ) w := by
  subst e
  exact St_conv H (fun F hF => ⟨A, c, h1, h2, hF⟩) (fun _ e => e)
theorem St.unIt {w0 : World} {F0 : Nat → Prop} {m0 : Mem} {σ : List Item} {α β : Type} {r : Rep α} {rk : Rep β} {off : Nat} {D : Deep α β r rk off} {tk : TypeId} {cs : List Value} {x : α}
    (H : St w0 F0 m0 m ((oD D tk).it cs x :: σ) w) : ∃ A c, cs[off]? = some (.slice A (D.getk x).length c) ∧ But D m cs x ∧ St w0 F0 m0 m (rowI rk tk A c (D.getk x) :: σ) w := by
  obtain ⟨⟨A, c⟩, ⟨h1, h2⟩, h3⟩ := St_ex (j := fun y : Option Addr × Nat => rowI rk tk y.1 y.2 (D.getk x)) (Q := fun y => cs[off]? = some (.slice y.1 (D.getk x).length y.2) ∧ But D m cs x) H (fun F ⟨A, c, h1, h2, h3⟩ => ⟨(A, c), ⟨h1, h2⟩, h3⟩)
  exact ⟨A, c, h1, h2, h3⟩
theorem But.setk {α β : Type} {r : Rep α} {rk : Rep β} {off : Nat} {D : Deep α β r rk off} {cs : List Value} {x : α} (h : But D m cs x) (l : List β) : But D m cs (D.setk x l) := by
  unfold But at h ⊢
  rw [D.ss]
  exact h
theorem Ext_new {s : S tb.T} {σ' : Sg tb.T} {c' : Nat} (hc : s.c ≤ c') (h : ∀ t st v, lk σ' t = some (st, v) → st < s.d → lk s.σ t = some (st, v)) : Ext s { κ := s.κ, σ := σ', c := c', d := s.d + 1 } := ⟨hc, Nat.le_succ _, fun _ _ _ e _ => e, h⟩
theorem lk_new {σ τ : Sg tb.T} {id d : Nat} {x : DI tb.T} (h : ∀ t p, lk τ t = some p → lk σ t = some p) : ∀ t st v, lk ((id, d, x) :: τ) t = some (st, v) → st < d → lk σ t = some (st, v) := by
  intro t st v e l
  simp only [lk] at e
  cases hb : Nat.beq id t with
  | true => rw [hb] at e; simp only [cond_true, Option.some.injEq, Prod.mk.injEq] at e; rw [← e.1] at l; exact absurd l (Nat.lt_irrefl _)
  | false => rw [hb] at e; exact h t _ e
theorem closeD_ok (T : TabOk tb) {id : Nat} (h : closeD tb s id = some s') (hw : Wd tb bs η m s w) : s'.κ = s.κ ∧ Ext s s' ∧ Wd tb bs η m s' w := by
  unfold closeD at h
  obtain ⟨st, kk, d, x, j, hl, hd, h⟩ := withHole_some tb h
  split at h
  · rename_i st2 nk tk l2 hl2
    cases hb : Nat.beq tk d.tk with
    | false => rw [hb] at h; cases h
    | true =>
      have := beq_t hb
      subst this
      rw [hb] at h
      simp only [cond_true] at h
      split at h
      · rename_i l2' hc
        obtain ⟨en, rfl⟩ := castL_some hc
        subst en
        cases h
        obtain ⟨A, c, cs, u, h1, h2, h3, h4, h5, h6, H⟩ := hw.hole T hl hd
        have hne : j ≠ id := fun e => by subst e; rw [hl] at hl2; cases hl2
        have H2 := St_pull2 (lk_del_ne hne hl2) H
        obtain ⟨A2, c2, g1, H3⟩ := row_ex H2
        rw [h2] at g1
        cases g1
        have H4 := St.closeO (St.oIt d.D (d.D.gs _ l2) h4 (h6.setk l2) H3)
        refine ⟨rfl, Ext_new (Nat.le_refl _) (lk_new fun t p e => (lk_del (lk_del e).2).2), hw.len, hw.le, ?_, hw.gl⟩
        exact St_conv H4 (fun F hF => deep_item T hd (by rw [List.length_set]; exact h1) hF) (fun _ e => e)
      · cases h
  · cases h
theorem closeL_ok (T : TabOk tb) : ∀ (l : List Nat) {s : S tb.T}, Wd tb bs η m s w → (closeL tb l s).κ = s.κ ∧ Ext s (closeL tb l s) ∧ Wd tb bs η m (closeL tb l s) w
  | [], s, hw => ⟨rfl, Ext.refl _, hw⟩
  | id :: r, s, hw => by
    simp only [closeL]
    split
    · rename_i s1 h1
      obtain ⟨e1, e2, e3⟩ := closeD_ok T h1 hw
      obtain ⟨k1, k2, k3⟩ := closeL_ok T r e3
      exact ⟨k1.trans e1, e2.trans k2, k3⟩
    · exact closeL_ok T r hw
theorem shutD_ok (T : TabOk tb) (id : Nat) (hw : Wd tb bs η m s w) : (shutD tb s id).κ = s.κ ∧ Ext s (shutD tb s id) ∧ Wd tb bs η m (shutD tb s id) w := by
  unfold shutD
  split
  · rename_i s1 h1; exact closeD_ok T h1 hw
  · exact ⟨rfl, Ext.refl _, hw⟩
theorem kidsA_ok {kk : Nat} {d : DP tb.T tb.rep kk} {c : List (AV tb.T)} {σ σ' : Sg tb.T} {l : List (tb.T d.nk)} (h : kidsA tb d c σ = some (l, σ')) {cs : List Value} (hr : RL tb η m c cs) {w0 : World} {F0 : Nat → Prop} {m0 : Mem} {i : Item} (H : St w0 F0 m0 m (i :: its tb η σ) w) :
    (∀ t p, lk σ' t = some p → lk σ t = some p) ∧ ∃ A cc, cs[d.off]? = some (.slice A l.length cc) ∧ RL tb η m (c.set d.off .nils) (cs.set d.off (.slice none 0 0)) ∧ St w0 F0 m0 m (rowI (tb.rep d.nk) d.tk A cc l :: i :: its tb η σ') w := by
  have hset : RL tb η m (c.set d.off .nils) (cs.set d.off (.slice none 0 0)) := hr.set (a := .nils) rfl
  unfold kidsA at h
  split at h
  · rename_i hc
    cases h
    obtain ⟨v, h1, h2⟩ := hr.get hc
    have h2 : v = .slice none 0 0 := h2
    subst h2
    exact ⟨fun _ _ e => e, none, 0, h1, hset, H.nilR _ _⟩
  · rename_i id hc
    obtain ⟨v, h1, h2, _⟩ := hr.get hc
    split at h
    · rename_i st nk tk l' hl
      cases hb : Nat.beq tk d.tk with
      | false => rw [hb] at h; cases h
      | true =>
        have := beq_t hb
        subst this
        rw [hb] at h
        simp only [cond_true] at h
        split at h
        · rename_i l2 hl2
          cases h
          obtain ⟨en, rfl⟩ := castL_some hl2
          subst en
          obtain ⟨A2, c2, g1, H3⟩ := row_ex (St_pull2 hl H)
          rw [h2] at g1
          cases g1
          exact ⟨fun _ _ e => (lk_del e).2, A2, c2, h1, hset, H3⟩
        · cases h
    · cases h
  · cases h
theorem But_of (T : TabOk tb) {kk : Nat} {d : DP tb.T tb.rep kk} {c : List (AV tb.T)} {cs : List Value} {x : tb.T d.n} (h : tb.im d.n c = some x) (hr : RL tb η m c (cs.set d.off (.slice none 0 0))) (l : List (tb.T d.nk)) : But d.D m cs (d.D.setk x l) := by
  have := d.D.empt (T.im h hr)
  rw [List.set_set] at this
  unfold But
  rw [d.D.ss]
  exact this
theorem lit_ex {w0 : World} {F0 : Nat → Prop} {m0 : Mem} {σ : List Item} {id t k : Nat} {c : List (AV tb.T)} (H : St w0 F0 m0 m ((DI.lit t k c).item tb η id :: σ) w) : ∃ g cs, η[id]? = some (.slice (some ⟨g, 0, none⟩) k k) ∧ RL tb η m c cs ∧ St w0 F0 m0 m (blkI g cs t :: σ) w := by
  obtain ⟨⟨g, cs⟩, ⟨h1, h2⟩, h3⟩ := St_ex (j := fun y : Nat × List Value => blkI y.1 y.2 t) (Q := fun y => η[id]? = some (.slice (some ⟨y.1, 0, none⟩) k k) ∧ RL tb η m c y.2) H (fun F ⟨g, cs, h1, h2, h3⟩ => ⟨(g, cs), ⟨h1, h2⟩, h3⟩)
  exact ⟨g, cs, h1, h2, h3⟩
/-- A block as the row of one element. -/
theorem St.toO1 {w0 : World} {F0 : Nat → Prop} {m0 : Mem} {σ : List Item} {α : Type} {o : ORep α} {g : Nat} {cs : List Value} {t : TypeId} {x : α} (H : St w0 F0 m0 m (blkI g cs t :: o.it cs x :: σ) w) : St w0 F0 m0 m (rowO o t (some ⟨g, 0, none⟩) 1 [x] :: σ) w := by
  have hlen : cs.length = o.fr.sz := by
    obtain ⟨F, ⟨F1, F2, _, ⟨F3, F4, h, _⟩, _⟩, _⟩ := H.sep
    exact o.len h
  have hb := H.blk 0 rfl
  have hown := own_of_blk (base := 0) (n := 1) (sz := o.fr.sz) (e := t) hb (Nat.zero_le _) (by decide) (by simp [hlen])
  have H2 : St w0 F0 m0 m (rawI t o.fr.sz (some ⟨g, 0, none⟩) 1 1 cs :: o.it cs x :: σ) w := St_conv H (fun F hF => ⟨by simpa using hown, fun k => by rw [hF.2 k]; exact ⟨fun e => by subst e; rfl, fun e => by cases e; rfl⟩⟩) (fun _ e => e)
  refine St.exi [cs] (St.big _ (St.fac0 rfl ?_))
  have e1 : ([cs] : List (List Value)).flatten = cs := by simp
  rw [e1]
  exact H2
theorem litD_ok (T : TabOk tb) {id : Nat} (h : litD tb s id = some s') (hw : Wd tb bs η m s w) : s'.κ = s.κ ∧ Ext s s' ∧ Wd tb bs η m s' w := by
  unfold litD at h
  split at h
  · rename_i st e c hl
    split at h
    · rename_i kk hkk
      split at h
      · rename_i d hd
        cases hb : Nat.beq d.t e with
        | false => rw [hb] at h; cases h
        | true =>
          have := beq_t hb
          subst this
          rw [hb] at h
          simp only [cond_true] at h
          split at h
          · rename_i l σ x hk hx
            cases h
            obtain ⟨g, cs, h1, h2, H⟩ := lit_ex (hw.pull hl)
            obtain ⟨k1, A, cc, k2, k3, k4⟩ := kidsA_ok hk h2 H
            have H2 := St.toO1 (St_swap (St.oIt d.D (d.D.gs x l) k2 (But_of T hx k3 l) k4))
            refine ⟨rfl, Ext_new (Nat.le_refl _) (lk_new fun t p e => (lk_del (k1 t p e)).2), hw.len, hw.le, ?_, hw.gl⟩
            exact St_conv H2 (fun F hF => deep_item T hd h1 hF) (fun _ e => e)
          · cases h
      · cases h
    · cases h
  · cases h
theorem shutA_ok (T : TabOk tb) (a : AV tb.T) (hw : Wd tb bs η m s w) : (shutA tb s a).κ = s.κ ∧ Ext s (shutA tb s a) ∧ Wd tb bs η m (shutA tb s a) w := by
  unfold shutA
  split
  · rename_i id
    obtain ⟨e1, e2, e3⟩ := shutD_ok T id hw
    split
    · rename_i s1 h1
      obtain ⟨k1, k2, k3⟩ := litD_ok T h1 e3
      exact ⟨k1.trans e1, e2.trans k2, k3⟩
    · exact ⟨e1, e2, e3⟩
  · exact ⟨rfl, Ext.refl _, hw⟩
end
end Go.Proofs.YtbldeodchhfjfaaGreatDoor.K.E
