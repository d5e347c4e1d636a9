/- E, part 9: operations that turn memory, part three: rows. -/
import Derived.Test.YtbldeodchhfjfaaGreatDoorE8Z
import Derived.Laws.MakeOwn
set_option linter.unusedVariables false
set_option linter.unusedSimpArgs false
set_option linter.unusedSectionVars false
namespace Go.Proofs.YtbldeodchhfjfaaGreatDoor.K.E
open Go Go.RowKit

def mkz {α : Type} (b : Nat) (z : α) (n : Int) : Option (List α) := cond (decide (0 ≤ n) && decide ((b : Int) * n ≤ 281474976710656)) (some (List.replicate n.toNat z)) none
theorem mkz_some {α : Type} {b : Nat} {z : α} {n : Int} {l : List α} (h : mkz b z n = some l) : 0 ≤ n ∧ (b : Int) * n ≤ 281474976710656 ∧ l = List.replicate n.toNat z := by
  unfold mkz at h
  cases hc : (decide (0 ≤ n) && decide ((b : Int) * n ≤ 281474976710656)) with
  | false => rw [hc] at h; cases h
  | true =>
    rw [hc] at h
    rw [Bool.and_eq_true] at hc
    cases h
    exact ⟨of_decide_eq_true hc.1, of_decide_eq_true hc.2, rfl⟩
section
variable (P : Program) (tb : Tab) {ρ : Type}
/-- Which of a few places? -/
def whichE {ρ : Type} (i : Int) (k : Nat → Option ρ) : Nat → Nat → Option ρ
  | _, 0 => none
  | j, n + 1 => cond (decide (i = (j : Int))) (k j) (whichE i k (j + 1) n)
theorem whichE_some {ρ : Type} {i : Int} {k : Nat → Option ρ} {a : ρ} : ∀ {j n : Nat}, whichE i k j n = some a → ∃ q : Nat, i = (q : Int) ∧ q < j + n ∧ k q = some a
  | _, 0, h => by cases h
  | j, n + 1, h => by
    simp only [whichE] at h
    rcases condT h with ⟨h1, h2⟩ | ⟨_, h2⟩
    · exact ⟨j, of_decide_eq_true h1, by omega, h2⟩
    · obtain ⟨q, e1, e2, e3⟩ := whichE_some h2
      exact ⟨q, e1, by omega, e3⟩
def idxM (t : TypeId) (a b : AV tb.T) (s : S tb.T) (k : KO tb.T ρ) : Option ρ := match a, iv b with
  | .row id, some i => match lk s.σ id with
    | some (_, .row n _ l) => cond (slB' P tb t n && Nat.blt 0 (tb.rep n).sz) ((idx l i).bind fun _ => k (.elt id i n 0) s) none
    | some (_, .lit _ _ _) => match frz tb s id with
      | some (.sl n l, s) => idxB P tb t (.sl n l) b (fun v => k v s)
      | _ => none
    | _ => none
  | .ptr id off, some i => match P.underlying t with
    | some (.array N e) => cond (arB P t N e (sizeA P e) && Nat.ble N 16) (whichE i (fun j => k (.ptr id (off + j * sizeA P e)) s) 0 N) none
    | _ => none
  | .cells off l, some i => match P.underlying t with
    | some (.array N e) => cond (arB P t N e (sizeA P e) && Nat.ble N 16) (whichE i (fun j => k (.cells (off + j * sizeA P e) l) s) 0 N) none
    | _ => none
  | _, _ => none
def lenM (t : TypeId) (a : AV tb.T) (s : S tb.T) (k : KO tb.T ρ) : Option ρ := match a with
  | .row id => match slcE P t, lk s.σ id with
    | some _, some (_, .row _ _ l) => k (.i64 (l.length : Int)) s
    | some _, some (_, .lit _ j _) => k (.i64 (j : Int)) s
    | _, _ => none
  | _ => none
def sliceM (t : TypeId) (a : AV tb.T) (lo hi : Option Operand) (s : S tb.T) (k : KO tb.T ρ) : Option ρ := match frzA tb 20 [a] s with
  | some ([a], s) => sliceB P tb (evA s.κ) t a lo hi (fun v => k v s)
  | _ => none
def convM (sT d : TypeId) (a : AV tb.T) (s : S tb.T) (k : KO tb.T ρ) : Option ρ := match a with
  | .str l => match (P.underlying sT).isSome, P.underlying d with
    | true, some (.slice e) => match P.underlying e with
      | some (.int .u8) => k (.sl tb.u8c (tb.ofu8 l)) s
      | _ => none
    | _, _ => none
  | .row id => match lk s.σ id, P.underlying sT, P.underlying d with
    | some (_, .row n _ l), some (.slice e), some .string => match P.underlying e, tb.tou8 n l with
      | some (.int .u8), some x => k (.str x) s
      | _, _ => none
    | some (_, .lit _ _ _), _, _ => match frz tb s id with
      | some (b, s) => match convB P tb sT d b with
        | some v => k v s
        | none => none
      | none => none
    | _, _, _ => none
  | _ => none
def elC (t e sz : Nat) : Bool := match P.underlying t, P.info? e with
  | some (.slice e'), some i => Nat.beq e' e && (Nat.beq i.size sz && (Nat.blt 0 sz && (Nat.blt 0 i.bytes && (Nat.ble i.bytes 1024 && (match i.zero with
    | some z => Nat.beq z.cells.size sz
    | none => false)))))
  | _, _ => false
def elU8 (t e : Nat) : Bool := match P.underlying t, P.info? e with
  | some (.slice e'), some i => Nat.beq e' e && (Nat.beq i.size 1 && (Nat.beq i.bytes 1 && (match i.zero with
    | some (.int .u8 z) => decide (z = 0)
    | _ => false)))
  | _, _ => false
def newsA (n : Nat) (b : AV tb.T) (s : S tb.T) : Option (List (tb.T n) × S tb.T) := match b with
  | .sl n' l => match castL n n' l with
    | some x => some (x, s)
    | none => none
  | .nils => some ([], s)
  | .row id => match lk s.σ id with
    | some (_, .row n' _ l) => match castL n n' l with
      | some x => some (x, s)
      | none => none
    | some (_, .lit _ _ c) => match frzA tb 20 c s with
      | some (_, s) => match lk s.σ id with
        | some (_, .lit _ j c) => match imL tb n (tb.rep n).sz j c with
          | some x => some (x, delI s id)
          | none => none
        | _ => none
      | none => none
    | _ => none
  | _ => none
def baseA (n e : Nat) (a : AV tb.T) (s : S tb.T) : Option (List (tb.T n) × S tb.T) := match a with
  | .nils => some ([], s)
  | .row id => match lk s.σ id with
    | some (_, .row n' e' l) => cond (Nat.beq e' e) (match castL n n' l with
      | some x => some (x, delI s id)
      | none => none) none
    | some (_, .lit _ _ c) => match frzA tb 20 c s with
      | some (_, s) => match lk s.σ id with
        | some (_, .lit e' j c) => cond (Nat.beq e' e && Nat.ble j 137438953472) (match imL tb n (tb.rep n).sz j c with
          | some x => some (x, delI s id)
          | none => none) none
        | _ => none
      | none => none
    | _ => none
  | _ => none
/-- What a call of append lays behind bytes of one's own. -/
def appU (e : TypeId) (x : List UInt8) (a : AV tb.T) (s : S tb.T) (k : KO tb.T ρ) : Option ρ := match a with
  | .nils => (app [] x).bind fun y => k (.row s.c) (addI s (.row tb.u8c e (tb.ofu8 y)))
  | .row id => match lk s.σ id with
    | some (_, .row n' e' l) => cond (Nat.beq e' e) (match tb.tou8 n' l with
      | some l => (app l x).bind fun y => k (.row s.c) (addI (delI s id) (.row tb.u8c e (tb.ofu8 y)))
      | none => none) none
    | _ => none
  | _ => none
def strT : Option TypeId := (List.range P.types.size).find? (isStrT P ·)
def isIntT (t : TypeId) : Bool := match P.underlying t with
  | some (.int _) => true
  | _ => false
def appM (t t2 : TypeId) (a b : AV tb.T) (s : S tb.T) (k : KO tb.T ρ) : Option ρ := match slcE P t with
  | none => none
  | some e => match b with
    | .str x => cond (isStrT P t2 && elU8 P t e) (appU tb e x a s k) none
    | .i64 x => cond (isIntT P t2 && (elU8 P t e && (strT P).isSome)) ((mkz 1 (0 : UInt8) x).bind fun z => appU tb e z a s k) none
    | b => match tb.code e with
      | none => none
      | some n => cond (Nat.beq t2 t && elC P t e (tb.rep n).sz) (match newsA tb n b s with
        | some (x, s) => match baseA tb n e a s with
          | some (l, s) => (app l x).bind fun y => k (.row s.c) (addI s (.row n e y))
          | none => none
        | none => none) none
end
section
variable {P : Program} {tb : Tab} {bs : Bs} {η : List Value} {m : Mem} {s : S tb.T} {w : World} {κc : Kn} {B : Code} {n : Cx} {p : List Nat} {i : Nat} {o : Oper} {ρ' : Type} {k : KO tb.T ρ'} {ans : ρ'} {a b v : AV tb.T} {x y : Value}
theorem slcE_ok {t e : Nat} (h : slcE P t = some e) : P.underlying t = some (.slice e) := by
  unfold slcE at h
  split at h
  · cases h; assumption
  · cases h
theorem elU8_ok {t e : Nat} (h : elU8 P t e = true) : elB P t e 1 1 (.int .u8 0) := by
  unfold elU8 at h
  split at h
  · rename_i e' inf hu hi
    simp only [Bool.and_eq_true] at h
    obtain ⟨h1, h2, h3, h4⟩ := h
    have := beq_t h1
    subst this
    split at h4
    · rename_i z hz
      have := of_decide_eq_true h4
      subst this
      exact ⟨hu, by simp [hi, hz, beq_t h2, beq_t h3]⟩
    · cases h4
  · cases h
theorem elC_ok {t e sz : Nat} (h : elC P t e sz = true) : ∃ by_ z, elB P t e sz by_ z ∧ z.cells.size = sz ∧ 0 < sz ∧ 0 < by_ ∧ by_ ≤ 1024 := by
  unfold elC at h
  split at h
  · rename_i e' inf hu hi
    simp only [Bool.and_eq_true, Nat.blt_eq] at h
    obtain ⟨h1, h2, h3, h4, h5, h6⟩ := h
    have := beq_t h1
    subst this
    have := beq_t h2
    subst this
    cases hz : inf.zero with
    | none => rw [hz] at h6; cases h6
    | some z =>
      rw [hz] at h6
      exact ⟨inf.bytes, z, ⟨hu, by simp [hi, hz]⟩, beq_t h6, h3, h4, Nat.le_of_ble_eq_true h5⟩
  · cases h
variable (hw : Wd tb bs η m s w) (hk : KR tb η m s.κ κc)
include hw hk
theorem idxM_step (T : TabOk tb) {t : TypeId} (fo' : fetch B n p i κc = some (o.dst, vS (Instr.indexAt t x y))) (ha : R tb η m a x) (hb : R tb η m b y) (h : idxM P tb t a b s k = some ans) : Step P B n p i κc w (YX tb bs η m o.dst s k ans κc) := by
  unfold idxM at h
  split at h
  · rename_i id j hj
    obtain ⟨ik, rfl⟩ := iv_ok hj hb
    obtain ⟨hη, _⟩ := ha
    split at h
    · rename_i st n' e l hl
      cases hc : (slB' P tb t n' && Nat.blt 0 (tb.rep n').sz) with
      | false => rw [hc] at h; cases h
      | true =>
        rw [hc] at h
        rw [Bool.and_eq_true] at hc
        obtain ⟨z, hz, h⟩ := bindE h
        obtain ⟨i0, i1, i2⟩ := idx_some hz
        obtain ⟨A, c, g1, H⟩ := hw.row hl
        rw [hη] at g1
        cases g1
        obtain ⟨ad, cs, hA, _⟩ := H.rowAt 0 rfl i2 (by simpa [Nat.blt_eq] using hc.2)
        cases hA
        obtain ⟨e2, he2⟩ := slB'_ok hc.1
        refine runR fo' (idx_run t e2 (tb.rep n').sz (some ad) ad l.length c ik j _ rfl he2 i0 i1 rfl) ⟨_, s, _, η, m, h, Ext.refl _, rfl, Le.refl _, Sub.refl _, ⟨ad, l.length, c, hη, i0, i1, ?_⟩, hk, hw⟩
        simp [Addr.add]
    · split at h
      · rename_i n' l s1 hf
        obtain ⟨h1, m1, h2, h3, h4, h5⟩ := frz_ok T hf hw hk
        obtain ⟨v, hv, u, hu, hr⟩ := idxB_ok T h4.gl h (h5 x ⟨hη, by assumption⟩) (R.mono (Le.refl _) h2 b hb)
        exact Step.imp (runR fo' (hu w h4.st.has) ⟨v, s1, u, η, m1, hv, h1, rfl, Le.refl _, h2, hr, h3, h4⟩) fun _ _ e => e
      · cases h
    · cases h
  · rename_i id off j hj
    obtain ⟨ik, rfl⟩ := iv_ok hj hb
    obtain ⟨g, hg, rfl⟩ := ha
    split at h
    · rename_i N e hu
      cases hc : (arB P t N e (sizeA P e) && Nat.ble N 16) with
      | false => rw [hc] at h; cases h
      | true =>
        rw [hc] at h
        simp only [Bool.and_eq_true] at hc
        obtain ⟨q, rfl, h1, h⟩ := whichE_some h
        refine runR fo' (idxA_run t N e (sizeA P e) ⟨g, off, none⟩ ik (q : Int) hc.1 (by omega) (by omega)) ⟨_, s, _, η, m, h, Ext.refl _, rfl, Le.refl _, Sub.refl _, ⟨g, hg, by rw [Addr.add_lit, Int.toNat_natCast]⟩, hk, hw⟩
    · cases h
  · rename_i off l j hj
    obtain ⟨ik, rfl⟩ := iv_ok hj hb
    obtain ⟨A, cs, rfl, h1, h2⟩ := ha
    split at h
    · rename_i N e hu
      cases hc : (arB P t N e (sizeA P e) && Nat.ble N 16) with
      | false => rw [hc] at h; cases h
      | true =>
        rw [hc] at h
        simp only [Bool.and_eq_true] at hc
        obtain ⟨q, rfl, h3, h⟩ := whichE_some h
        refine runR fo' (idxA_run t N e (sizeA P e) (A.add off) ik (q : Int) hc.1 (by omega) (by omega)) ⟨_, s, _, η, m, h, Ext.refl _, rfl, Le.refl _, Sub.refl _, ⟨A, cs, by rw [add_add, Int.toNat_natCast], h1, h2⟩, hk, hw⟩
    · cases h
  · cases h
theorem lenM_step {t ty : TypeId} (fo' : fetch B n p i κc = some (o.dst, vS (Builtin.len_ #[t] ty #[x]))) (ha : R tb η m a x) (h : lenM P tb t a s k = some ans) : Step P B n p i κc w (YX tb bs η m o.dst s k ans κc) := by
  have run : ∀ (A : Option Addr) (l c e : Nat), P.underlying t = some (.slice e) → (vS (Builtin.len_ #[t] ty #[.slice A l c])).run P w = .ok (.value (.int .i64 (l : Int))) w := by
    intro A l c e hu
    refine vS_run ?_
    simp only [Builtin.len_, List.getElem?_toArray, List.getElem?_cons_zero, Sem.run_bind, run_und hu, Result.andThen_ok]
    rfl
  unfold lenM at h
  split at h
  · rename_i id
    obtain ⟨hη, _⟩ := ha
    split at h
    · rename_i e st n' e' l he hl
      obtain ⟨A, c, g1, H⟩ := hw.row hl
      rw [hη] at g1
      cases g1
      exact runR fo' (run _ _ _ e (slcE_ok he)) ⟨_, s, _, η, m, h, Ext.refl _, rfl, Le.refl _, Sub.refl _, rfl, hk, hw⟩
    · rename_i e st t' j c he hl
      obtain ⟨g, cs, g1, _⟩ := hw.lit hl
      rw [hη] at g1
      cases g1
      exact runR fo' (run _ _ _ e (slcE_ok he)) ⟨_, s, _, η, m, h, Ext.refl _, rfl, Le.refl _, Sub.refl _, rfl, hk, hw⟩
    · cases h
  · cases h
theorem sliceM_step (T : TabOk tb) {t : TypeId} {lo hi : Option Operand} (fo' : fetch B n p i κc = some (o.dst, vS (Instr.sliceAt t x (lo.map (evT κc)) (hi.map (evT κc)) none))) (ha : R tb η m a x) (h : sliceM P tb t a lo hi s k = some ans) : Step P B n p i κc w (YX tb bs η m o.dst s k ans κc) := by
  unfold sliceM at h
  split at h
  · rename_i a' s1 hf
    obtain ⟨h1, m1, h2, h3, h4, h5⟩ := frzA_ok T 20 hf hw hk (RL.mk1 ha)
    obtain ⟨x', hx', ha'⟩ := h5.one
    cases hx'
    obtain ⟨v, hv, u, hu, hr⟩ := sliceB_ok h3.ev h ha'
    exact runR fo' (hu w h4.st.has) ⟨v, s1, u, η, m1, hv, h1, rfl, Le.refl _, h2, hr, h3, h4⟩
  · cases h
theorem convM_step (T : TabOk tb) {sT d : TypeId} (fo' : fetch B n p i κc = some (o.dst, vS (convert sT d x))) (ha : R tb η m a x) (h : convM P tb sT d a s k = some ans) : Step P B n p i κc w (YX tb bs η m o.dst s k ans κc) := by
  unfold convM at h
  split at h
  · rename_i l
    obtain ⟨rfl, hl⟩ := ha
    split at h
    · rename_i e hs hu
      split at h
      · rename_i he
        obtain ⟨ds, hds⟩ := Option.isSome_iff_exists.1 hs
        refine s2bS (H := hw.st) o.dst sT d e l hds hu he fo' ?_ hl
        intro A' c' m1 w1 h1 h2 H1
        have h3 : (.slice A' l.length c' : Value) = .slice A' (tb.ofu8 l).length c' ∧ SlI (tb.rep tb.u8c) m1 A' c' (tb.ofu8 l) := T.ofu8 (x := l) (fun α r y => (Value.slice A' l.length c' = .slice A' y.length c') ∧ SlI r m1 A' c' y) ⟨rfl, h2⟩
        exact ⟨_, s, _, η, m1, h, Ext.refl _, rfl, Le.refl _, h1, ⟨A', c', h3.1, h3.2⟩, hk.mono (Le.refl _) h1, hw.len, hw.le, St_imp H1 (fun _ e => e), Glob.mono hw.gl h1⟩
      · cases h
    · cases h
  · rename_i id
    obtain ⟨hη, _⟩ := ha
    split at h
    · rename_i st n' e' l e hl hus hud
      split at h
      · rename_i z hue hz
        obtain ⟨A, c, g1, H⟩ := hw.row hl
        rw [hη] at g1
        cases g1
        have h3 : ∃ F0, l.length = z.length ∧ (rowI rU8 e' A c z).P m w F0 := by
          obtain ⟨F, ⟨F1, F2, h1, _⟩, _⟩ := H.sep
          exact ⟨F1, T.tou8 hz (fun α r y => l.length = y.length ∧ (rowI r e' A c y).P m w F1) ⟨rfl, h1⟩⟩
        obtain ⟨F0, h4, ⟨xs, h5, h6⟩, h7⟩ := h3
        rw [Rows.u8.1 h5] at h6
        have hcap := own_cap h6
        rw [h4] at fo'
        exact runR fo' (b2s_run sT d e A z.length c z hus hue hud (Cs.of_own h6) rfl) ⟨_, s, _, η, m, h, Ext.refl _, rfl, Le.refl _, Sub.refl _, ⟨rfl, Nat.le_trans hcap.1 hcap.2⟩, hk, hw⟩
      · cases h
    · split at h
      · rename_i b s1 hf
        obtain ⟨h1, m1, h2, h3, h4, h5⟩ := frz_ok T hf hw hk
        split at h
        · rename_i v hv
          obtain ⟨u, hu, hr⟩ := convB_ok T hv (h5 x ⟨hη, by assumption⟩)
          exact runR fo' (hu w h4.st.has) ⟨v, s1, u, η, m1, h, h1, rfl, Le.refl _, h2, hr, h3, h4⟩
        · cases h
      · cases h
    · cases h
  · cases h
omit hk in
theorem newsA_ok (T : TabOk tb) {n1 : Nat} {z : List (tb.T n1)} {s1 : S tb.T} (hk : KR tb η m s.κ κc) (h : newsA tb n1 b s = some (z, s1)) (hb : R tb η m b y) :
    ∃ m1, Ext s s1 ∧ Sub m m1 ∧ KR tb η m1 s1.κ κc ∧ Wd tb bs η m1 s1 w ∧ ∃ X c' news, y = .slice X z.length c' ∧ Rows (tb.rep n1) m1 news z ∧ Cs 0 w.heap.size w X news := by
  unfold newsA at h
  split at h
  · rename_i n' l
    cases hc : castL n1 n' l with
    | none => rw [hc] at h; cases h
    | some z' =>
      rw [hc] at h
      cases h
      obtain ⟨en, rfl⟩ := castL_some hc
      subst en
      obtain ⟨A, c, rfl, hs⟩ := hb
      obtain ⟨xs, h1, h2⟩ := hs.cs
      exact ⟨m, Ext.refl _, Sub.refl _, hk, hw, A, c, xs, rfl, h1, h2.cs hw.st.has⟩
  · cases h
    have hb : y = .slice none 0 0 := hb
    subst hb
    exact ⟨m, Ext.refl _, Sub.refl _, hk, hw, none, 0, [], rfl, rfl, Cs.nil _ _ _ _⟩
  · rename_i id
    obtain ⟨hη, _⟩ := hb
    split at h
    · rename_i st n' e' l hl
      cases hc : castL n1 n' l with
      | none => rw [hc] at h; cases h
      | some z' =>
        rw [hc] at h
        cases h
        obtain ⟨en, rfl⟩ := castL_some hc
        subst en
        obtain ⟨A, c, g1, H⟩ := hw.row hl
        rw [hη] at g1
        cases g1
        obtain ⟨xs, h1, h2⟩ := H.rowCs' 0 rfl
        exact ⟨m, Ext.refl _, Sub.refl _, hk, hw, A, c, xs, rfl, h1, h2⟩
    · rename_i st t' j0 c hl
      split at h
      · rename_i c2 s2 hf
        obtain ⟨g0, cs0, _, hr0, _⟩ := hw.lit hl
        obtain ⟨h1, m1, h2, h3, h4, _⟩ := frzA_ok T 20 hf hw hk hr0
        split at h
        · rename_i st2 t2 j c3 hl2
          split at h
          · rename_i z' hz
            cases h
            obtain ⟨g, cs, g1, hr, H⟩ := h4.lit hl2
            obtain ⟨h6, h7⟩ := imL_ok T hz hr
            rw [hη] at g1
            cases g1
            have hg := H.blk 0 rfl
            exact ⟨m1, h1.trans (Ext.del h4 id), h2, h3, h4.drop hl2, some ⟨g, 0, none⟩, j, cs, by rw [h7], h6, (Cs.of_blk hg).old⟩
          · cases h
        · cases h
      · cases h
    · cases h
  · cases h
omit hk in
theorem baseA_ok (T : TabOk tb) {n1 e : Nat} {z : List (tb.T n1)} {s1 : S tb.T} (hk : KR tb η m s.κ κc) (h : baseA tb n1 e a s = some (z, s1)) (ha : R tb η m a x) :
    ∃ m1, Ext s s1 ∧ Sub m m1 ∧ KR tb η m1 s1.κ κc ∧ Wd tb bs η m1 s1 w ∧ ∃ A c, x = .slice A z.length c ∧ St bs.w0 bs.F0 bs.m0 m1 (rowI (tb.rep n1) e A c z :: its tb η s1.σ) w := by
  unfold baseA at h
  split at h
  · cases h
    have ha : x = .slice none 0 0 := ha
    subst ha
    exact ⟨m, Ext.refl _, Sub.refl _, hk, hw, none, 0, rfl, hw.st.nilR _ _⟩
  · rename_i id
    obtain ⟨hη, _⟩ := ha
    split at h
    · rename_i st n' e' l hl
      cases hc : Nat.beq e' e with
      | false => rw [hc] at h; cases h
      | true =>
        rw [hc] at h
        have := beq_t hc
        subst this
        simp only [cond_true] at h
        split at h
        · rename_i z' hz
          cases h
          obtain ⟨en, rfl⟩ := castL_some hz
          subst en
          obtain ⟨A, c, g1, H⟩ := hw.row hl
          rw [hη] at g1
          cases g1
          exact ⟨m, Ext.del hw id, Sub.refl _, hk, hw.drop hl, A, c, rfl, H⟩
        · cases h
    · rename_i st t' j0 c hl
      split at h
      · rename_i c2 s2 hf
        obtain ⟨g0, cs0, _, hr0, _⟩ := hw.lit hl
        obtain ⟨h1, m1, h2, h3, h4, _⟩ := frzA_ok T 20 hf hw hk hr0
        split at h
        · rename_i st2 t2 j c3 hl2
          cases hc : (Nat.beq t2 e && Nat.ble j 137438953472) with
          | false => rw [hc] at h; cases h
          | true =>
            rw [hc] at h
            rw [Bool.and_eq_true] at hc
            have := beq_t hc.1
            subst this
            simp only [cond_true] at h
            split at h
            · rename_i z' hz
              cases h
              obtain ⟨g, cs, g1, hr, H⟩ := h4.lit hl2
              obtain ⟨h6, h7⟩ := lit_row T hz (Nat.le_of_ble_eq_true hc.2) hr H
              rw [hη] at g1
              cases g1
              exact ⟨m1, h1.trans (Ext.del h4 id), h2, h3, h4.drop hl2, some ⟨g, 0, none⟩, z.length, by rw [h6], h7⟩
            · cases h
        · cases h
      · cases h
    · cases h
  · cases h
theorem appU_step (T : TabOk tb) {e : TypeId} {z : List UInt8} (ha : R tb η m a x) (h : appU tb e z a s k = some ans)
    (hS : ∀ {σ : List Item} {Z : Kn → World → Prop} {l yy : List UInt8} {A : Option Addr} {c : Nat}, x = .slice A l.length c → St bs.w0 bs.F0 bs.m0 m (rowI rU8 e A c l :: σ) w → app l z = some yy → (∀ A' c1 w1, St bs.w0 bs.F0 bs.m0 m (rowI rU8 e A' c1 yy :: σ) w1 → Z (putk o.dst (.slice A' yy.length c1) κc) w1) → Step P B n p i κc w Z) : Step P B n p i κc w (YX tb bs η m o.dst s k ans κc) := by
  unfold appU at h
  have fin : ∀ {s1 : S tb.T} {l yy : List UInt8} {A : Option Addr} {c : Nat}, Ext s s1 → KR tb η m s1.κ κc → Wd tb bs η m s1 w → x = .slice A l.length c → St bs.w0 bs.F0 bs.m0 m (rowI rU8 e A c l :: its tb η s1.σ) w → app l z = some yy →
      k (.row s1.c) (addI s1 (.row tb.u8c e (tb.ofu8 yy))) = some ans → Step P B n p i κc w (YX tb bs η m o.dst s k ans κc) := by
    intro s1 l yy A c k1 k3 q4 hx H hy h
    refine hS hx H hy ?_
    intro A' c1 w1 H1
    have e1 : yy.length = (tb.ofu8 yy).length := T.ofu8 (x := yy) (fun α r y => yy.length = y.length) rfl
    have hadd := q4.add q4.gl (x := .row tb.u8c e (tb.ofu8 yy)) (u := .slice A' yy.length c1) (w' := w1) (St_conv H1 (fun F hF => ⟨A', c1, by rw [← e1]; exact at_new q4 _, T.ofu8 (x := yy) (fun α r y => (rowI r e A' c1 y).P m w1 F) hF⟩) (fun _ hF => hF))
    exact ⟨_, _, _, _, m, h, k1.trans (Ext.add _ _), rfl, Le.app _ _, Sub.refl _, ⟨at_new q4 _, rfl⟩, k3.mono (Le.app _ _) (Sub.refl _), hadd⟩
  split at h
  · obtain ⟨yy, hy, h⟩ := bindE h
    have ha : x = .slice none 0 0 := ha
    exact fin (Ext.refl _) hk hw ha (hw.st.nilR _ _) hy h
  · rename_i id
    obtain ⟨hη, _⟩ := ha
    split at h
    · rename_i st n' e' l hl
      cases hbe : Nat.beq e' e with
      | false => rw [hbe] at h; cases h
      | true =>
        rw [hbe] at h
        have := beq_t hbe
        subst this
        simp only [cond_true] at h
        split at h
        · rename_i l' hl'
          obtain ⟨yy, hy, h⟩ := bindE h
          obtain ⟨A, c, g1, H⟩ := hw.row hl
          rw [hη] at g1
          cases g1
          have hlen : l.length = l'.length := T.tou8 hl' (fun α r y => l.length = y.length) rfl
          refine fin (Ext.del hw id) hk (hw.drop hl) (by rw [hlen]) (St_conv H (fun F hF => ?_) (fun _ e => e)) hy h
          exact T.tou8 hl' (fun α r y => (rowI r e' A c y).P m w F) hF
        · cases h
    · cases h
  · cases h
theorem appM_step (T : TabOk tb) {t t2 ty : TypeId} (fo' : fetch B n p i κc = some (o.dst, vS (Builtin.append_ #[t, t2] ty #[x, y]))) (ha : R tb η m a x) (hb : R tb η m b y) (h : appM P tb t t2 a b s k = some ans) : Step P B n p i κc w (YX tb bs η m o.dst s k ans κc) := by
  unfold appM at h
  split at h
  · cases h
  · rename_i e he
    split at h
    · rename_i z
      obtain ⟨rfl, hzl⟩ := hb
      cases hc : (isStrT P t2 && elU8 P t e) with
      | false => rw [hc] at h; cases h
      | true =>
        rw [hc] at h
        rw [Bool.and_eq_true] at hc
        simp only [cond_true] at h
        exact appU_step hw hk T ha h (fun hx H hy hk1 => by
          subst hx
          exact appstrS (H := H) o.dst t t2 e ty 0 _ _ _ z _ rfl (elU8_ok hc.2) (isStrT_ok hc.1) fo' hy hk1)
    · rename_i z
      obtain rfl : y = .int .i64 z := hb
      cases hc : (isIntT P t2 && (elU8 P t e && (strT P).isSome)) with
      | false => rw [hc] at h; cases h
      | true =>
        rw [hc] at h
        rw [Bool.and_eq_true, Bool.and_eq_true] at hc
        simp only [cond_true] at h
        obtain ⟨zz, hz, h⟩ := bindE h
        obtain ⟨g0, g1, rfl⟩ := mkz_some hz
        obtain ⟨ik1, hu⟩ : ∃ ik1, P.underlying t2 = some (.int ik1) := by
          have := hc.1
          unfold isIntT at this
          split at this
          · exact ⟨_, by assumption⟩
          · cases this
        obtain ⟨us, hus⟩ := Option.isSome_iff_exists.1 hc.2.2
        have hus' := isStrT_ok (List.find?_some hus)
        exact appU_step hw hk T ha h (fun hx H hy hk1 => by
          subst hx
          refine appzS (ik' := .i64) (H := H) o.dst t t2 e ty 0 _ _ _ _ z.toNat rfl (elU8_ok hc.2.1) hu hus' ?_ hy hk1
          rw [show ((z.toNat : Nat) : Int) = z by omega]
          exact fo')
    · split at h
      · cases h
      · rename_i n1 hn1
        cases hc : (Nat.beq t2 t && elC P t e (tb.rep n1).sz) with
        | false => rw [hc] at h; cases h
        | true =>
          rw [hc] at h
          rw [Bool.and_eq_true] at hc
          have := beq_t hc.1
          subst this
          simp only [cond_true] at h
          split at h
          · rename_i z s1 hz
            obtain ⟨m1, k1, k2, k3, k4, X, c', news, rfl, k5, k6⟩ := newsA_ok hw T hk hz hb
            split at h
            · rename_i l s2 hl
              obtain ⟨m2, q1, q2, q3, q4, A, c, rfl, H⟩ := baseA_ok k4 T k3 hl (R.mono (Le.refl _) k2 a ha)
              obtain ⟨yy, hy, h⟩ := bindE h
              obtain ⟨by_, z0, e1, e2, e3, e4, e5⟩ := elC_ok hc.2
              refine appS (H := H) o.dst t2 e by_ z0 ty 0 A X c z.length c' l z yy news rfl e1 e2 e3 fo' k6 (k5.mono q2) rfl hy e4 e5 ?_
              intro A' c1 w1 H1
              have hadd := q4.add q4.gl (x := .row n1 e yy) (u := .slice A' yy.length c1) (w' := w1) (St_conv H1 (fun F hF => ⟨A', c1, at_new q4 _, hF⟩) (fun _ hF => hF))
              exact ⟨_, _, _, _, m2, h, (k1.trans q1).trans (Ext.add _ _), rfl, Le.app _ _, k2.trans q2, ⟨at_new q4 _, rfl⟩, q3.mono (Le.app _ _) (Sub.refl _), hadd⟩
            · cases h
          · cases h
end
/-! ### make([]T, n) for elements of one cell -/
theorem made1 (u : Value) (n : Nat) : madeCells #[u] n = (List.replicate n u).toArray := by
  apply Array.ext'
  unfold madeCells
  simp only [Array.toList_map, Array.toList_range]
  rw [List.eq_replicate_iff]
  refine ⟨by simp, fun b hb => ?_⟩
  obtain ⟨i, _, rfl⟩ := List.mem_map.1 hb
  simp [Nat.mod_one]
theorem rows_rep {α : Type} {r : Rep α} {m : Mem} {u : Value} {z : α} (h : r.im m [u] z) : ∀ k : Nat, Rows r m (List.replicate k u) (List.replicate k z)
  | 0 => rfl
  | k + 1 => ⟨[u], List.replicate k u, rfl, h, rows_rep h k⟩
def opEq : Operand → Operand → Bool
  | .tmp a, .tmp b => Nat.beq a b
  | .const (.int .i64 a), .const (.int .i64 b) => decide (a = b)
  | _, _ => false
section
variable (P : Program) (tb : Tab) {ρ : Type}
def makM (t : TypeId) (l c : Operand) (s : S tb.T) (k : KO tb.T ρ) : Option ρ := cond (opEq l c) (match slcE P t, evA s.κ l with
  | some e, some (.i64 x) => match P.info? e, tb.code e with
    | some i, some n => match i.zero with
      | some z => cond (Nat.beq i.size 1 && Nat.ble 1 i.bytes) (match z.cells.toList with
        | [u] => match tb.im n [cst u] with
          | some zz => (mkz i.bytes zz x).bind fun y => k (.row s.c) (addI s (.row n e y))
          | none => none
        | _ => none) none
      | none => none
    | _, _ => none
  | _, _ => none) none
end
section
variable {P : Program} {tb : Tab} {bs : Bs} {η : List Value} {m : Mem} {s : S tb.T} {w : World} {κc : Kn} {B : Code} {n : Cx} {p : List Nat} {i : Nat} {o : Oper} {ρ' : Type} {k : KO tb.T ρ'} {ans : ρ'}
theorem makM_step (T : TabOk tb) (hw : Wd tb bs η m s w) (hk : KR tb η m s.κ κc) (fo : fetch B n p i κc = some (o.dst, execOp (evT κc) o)) {t : TypeId} {l c : Operand} (ho : o.op = .makeSlice t l c) (h : makM P tb t l c s k = some ans) : Step P B n p i κc w (YX tb bs η m o.dst s k ans κc) := by
  unfold makM at h
  cases hq : opEq l c with
  | false => rw [hq] at h; cases h
  | true =>
    rw [hq] at h
    simp only [cond_true] at h
    have hlc : evT κc c = evT κc l := by
      unfold opEq at hq
      split at hq
      · have := beq_t hq; subst this; rfl
      · have := of_decide_eq_true hq; subst this; rfl
      · cases hq
    split at h
    · rename_i e x he hx
      split at h
      · rename_i inf nn hi hn
        split at h
        · rename_i z hz
          cases hb : (Nat.beq inf.size 1 && Nat.ble 1 inf.bytes) with
          | false => rw [hb] at h; cases h
          | true =>
            rw [hb] at h
            rw [Bool.and_eq_true] at hb
            have hs1 := beq_t hb.1
            have hb1 := Nat.le_of_ble_eq_true hb.2
            simp only [cond_true] at h
            split at h
            · rename_i u hu
              split at h
              · rename_i zz hzz
                obtain ⟨y, hy, h⟩ := bindE h
                obtain ⟨g0, g1, rfl⟩ := mkz_some hy
                have hzc : z.cells = #[u] := by apply Array.ext'; rw [hu]
                have hut : P.underlying t = some (.slice e) := by
                  unfold slcE at he
                  split at he
                  · cases he; assumption
                  · cases he
                have hxe : evT κc l = .int .i64 x := hk.ev _ _ hx
                have him : (tb.rep nn).im m [u] zz := T.im (η := η) hzz ⟨u, [], rfl, cst_ok u, rfl⟩
                have hsz : (tb.rep nn).sz = 1 := ((tb.rep nn).len him).symm
                have hle : x ≤ 281474976710656 := by
                  have : (1 : Int) * x ≤ (inf.bytes : Int) * x := Int.mul_le_mul_of_nonneg_right (by omega) g0
                  omega
                have hrun := run_make (P := P) w t e inf z hut hi hz .i64 .i64 x x g0 (Int.le_refl _) g1 (by omega)
                rw [hs1, Nat.mul_one, hzc, made1] at hrun
                have hown : (w.alloc (.cells (List.replicate x.toNat u).toArray e)).ownsRow 0 e (tb.rep nn).sz (.slice (some ⟨w.heap.size, 0, none⟩) x.toNat x.toNat) x.toNat (List.replicate x.toNat u) := by
                  have := own_of_blk (w := w.alloc (.cells (List.replicate x.toNat u).toArray e)) (g := w.heap.size) (base := 0) (n := x.toNat) (sz := (tb.rep nn).sz) (e := e) (c := (List.replicate x.toNat u).toArray) (heap_alloc_new w _) (Nat.zero_le _) (by simp only [maxLen]; omega) (by rw [hsz]; simp)
                  simpa using this
                have hl : (List.replicate x.toNat zz).length = x.toNat := List.length_replicate ..
                have hadd := hw.add hw.gl (x := .row nn e (List.replicate x.toNat zz)) (u := .slice (some ⟨w.heap.size, 0, none⟩) x.toNat x.toNat) (w' := w.alloc (.cells (List.replicate x.toNat u).toArray e))
                  (St_conv (hw.st.add (j := rowI (tb.rep nn) e (some ⟨w.heap.size, 0, none⟩) x.toNat (List.replicate x.toNat zz)) (G := fun k => k = w.heap.size) (Ex.alloc w _)
                    ⟨⟨_, rows_rep him x.toNat, by rw [hl]; exact hown⟩, fun k => ⟨fun e => by subst e; rfl, fun e => by cases e; rfl⟩⟩ (fun k e => by subst e; exact Nat.le_refl _))
                    (fun F hF => ⟨_, _, by rw [hl]; exact at_new hw _, hF⟩) (fun _ hF => hF))
                refine runR fo (v := .slice (some ⟨w.heap.size, 0, none⟩) x.toNat x.toNat) (w' := w.alloc (.cells (List.replicate x.toNat u).toArray e)) ?_ ⟨_, _, _, _, m, h, Ext.add _ _, rfl, Le.app _ _, Sub.refl _, ⟨at_new hw _, rfl⟩, hk.mono (Le.app _ _) (Sub.refl _), hadd⟩
                unfold execOp
                rw [ho]
                simp only [hlc, hxe]
                show (vS (Instr.makeSlice t (.int .i64 x) (.int .i64 x))).run P w = _
                unfold vS
                simp only [Sem.run_bind, hrun, Result.andThen_ok]
                rfl
              · cases h
            · cases h
        · cases h
      · cases h
    · cases h
end
end Go.Proofs.YtbldeodchhfjfaaGreatDoor.K.E
