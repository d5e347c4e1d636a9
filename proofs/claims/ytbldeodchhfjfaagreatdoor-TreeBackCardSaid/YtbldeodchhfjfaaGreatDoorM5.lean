/- Memory of one's own, part 5: arrays whose places are numbers; tables. -/
import Derived.Test.YtbldeodchhfjfaaGreatDoorM4
set_option linter.unusedVariables false
set_option linter.unusedSimpArgs false
set_option linter.unusedSectionVars false
namespace Go.Proofs.YtbldeodchhfjfaaGreatDoor.K
open Go Go.RowKit

def fU8 (x : UInt8) : Value := .int .u8 (x.toNat : Int)
def fI64 (x : Int) : Value := .int .i64 x
def fU64 (x : UInt64) : Value := .int .u64 (x.toNat : Int)
def fBool (x : Bool) : Value := .bool x
theorem fU8_bs (l : List UInt8) : l.map fU8 = bs l := rfl
/-- Is it an array of N of these? -/
def arB (P : Program) (t N e sz : Nat) : Bool := match P.underlying t with
  | some (.array n e') => Nat.beq n N && (Nat.beq e' e && (match P.info? e with
    | some i => Nat.beq i.size sz
    | none => false))
  | _ => false
theorem ar_info {P : Program} {t N e sz : Nat} (h : arB P t N e sz = true) : P.underlying t = some (.array N e) ∧ ∃ i, P.info? e = some i ∧ i.size = sz := by
  unfold arB at h
  cases hu : P.underlying t with
  | none => simp [hu] at h
  | some d =>
    cases d <;> simp only [hu, Bool.false_eq_true] at h
    rename_i n e'
    simp only [Bool.and_eq_true] at h
    obtain ⟨h0, h1, h2⟩ := h
    have := Nat.eq_of_beq_eq_true h0
    subst this
    have := Nat.eq_of_beq_eq_true h1
    subst this
    cases hi : P.info? e' with
    | none => rw [hi] at h2; cases h2
    | some i =>
      rw [hi] at h2
      exact ⟨rfl, i, rfl, Nat.eq_of_beq_eq_true h2⟩
section
variable {P : Program} {B : Code} {n : Cx} {p : List Nat} {i : Nat} {κ : Kn} {w : World} {Z : Kn → World → Prop} {w0 : World} {F0 : Nat → Prop} {m0 m : Mem} {σ : List Item}
theorem idxA_run (t N e sz : Nat) (a : Addr) (ik : IntKind) (ix : Int) (ht : arB P t N e sz = true) (h0 : 0 ≤ ix) (h1 : ix < N) : (vS (Instr.indexAt t (.pointer (some a)) (.int ik ix))).run P w = .ok (.value (.pointer (some (a.add (ix.toNat * sz))))) w := by
  obtain ⟨h2, inf, h3, h4⟩ := ar_info ht
  refine vS_run ?_
  have hs : (sizeOf e).run P w = .ok sz w := by simp [sizeOf, typeInfo, h3, h4]
  have hc : 0 ≤ ix ∧ ix < N := ⟨h0, h1⟩
  simp only [Instr.indexAt, Instr.sureAddr, asIntOf, Sem.run_bind, Sem.run_pure, Result.andThen_ok, run_underlying h2, hc, and_self, if_true, hs]
theorem idxAS_run (t N e : Nat) (g : Nat) (ik : IntKind) (ix : Int) (ht : arB P t N e 1 = true) (h0 : 0 ≤ ix) (h1 : ix < N) : (vS (Instr.indexAt t (.pointer (some ⟨g, 0, none⟩)) (.int ik ix))).run P w = .ok (.value (.pointer (some ⟨g, ix.toNat, none⟩))) w := by
  rw [idxA_run t N e 1 ⟨g, 0, none⟩ ik ix ht h0 h1, Addr.add_lit, Nat.zero_add, Nat.mul_one]
theorem quo_run (k : IntKind) (x y : Int) (h : y ≠ 0) : (vS (Op.intDiv .quo k x y)).run P w = .ok (.value (.int k (k.wrap (x.tdiv y)))) w :=
  vS_run (by simp only [Op.intDiv, if_neg h]; rfl)
theorem rem_run (k : IntKind) (x y : Int) (h : y ≠ 0) : (vS (Op.intDiv .rem k x y)).run P w = .ok (.value (.int k (x.tmod y))) w :=
  vS_run (by simp only [Op.intDiv, if_neg h]; rfl)
theorem quo64_run (x y : UInt64) (h : (y.toNat : Int) ≠ 0) : (vS (Op.intDiv .quo .u64 (x.toNat : Int) (y.toNat : Int))).run P w = .ok (.value (.int .u64 ((x / y).toNat : Int))) w := by
  rw [quo_run .u64 _ _ h, q64_quo x y _ _ rfl rfl]
theorem rem64_run (x y : UInt64) (h : (y.toNat : Int) ≠ 0) : (vS (Op.intDiv .rem .u64 (x.toNat : Int) (y.toNat : Int))).run P w = .ok (.value (.int .u64 ((x % y).toNat : Int))) w := by
  rw [rem_run .u64 _ _ h, q64_rem x y _ _ rfl rfl]
/-- &a[i] -/
theorem idxAS (d : Option Nat) (t N e : Nat) (g : Nat) (ik : IntKind) (ix : Int) (ho : fetch B n p i κ = some (d, vS (Instr.indexAt t (.pointer (some ⟨g, 0, none⟩)) (.int ik ix)))) (ht : arB P t N e 1 = true)
    (h0 : 0 ≤ ix) (h1 : ix < N) (hk : Z (putk d (.pointer (some ⟨g, ix.toNat, none⟩)) κ) w) : Step P B n p i κ w Z := by
  refine runR ho (idxA_run t N e 1 ⟨g, 0, none⟩ ik ix ht h0 h1) ?_
  rw [Addr.add_lit, Nat.zero_add, Nat.mul_one]
  exact hk
theorem St.toArr {α : Type} (H : St w0 F0 m0 m σ w) (n' : Nat) {g : Nat} {cs : List Value} {t : TypeId} (f : α → Value) (l : List α) (hn : σ[n']? = some (blkI g cs t)) (h : l.map f = cs) : St w0 F0 m0 m (σ.set n' (blkI g (l.map f) t)) w := by
  have e : σ.set n' (blkI g (l.map f) t) = σ := by
    rw [h]
    apply List.ext_getElem?
    intro j
    rw [List.getElem?_set]
    split
    · rename_i hj
      subst hj
      rw [hn]
      split
      · rfl
      · rename_i hlt
        exact absurd (List.getElem?_eq_some_iff.1 hn).1 hlt
    · rfl
  rw [e]
  exact H
theorem St.cellA {α : Type} {f : α → Value} (H : St w0 F0 m0 m σ w) (n' : Nat) {g off : Nat} {l : List α} {t : TypeId} {x : α} (hn : σ[n']? = some (blkI g (l.map f) t)) (hx : l[off]? = some x) : w.cell? ⟨g, off, none⟩ = some (f x) :=
  H.cellB n' hn (by rw [List.getElem?_map, hx]; rfl)
/-- a[i] = x -/
theorem stAS {α : Type} (f : α → Value) (d : Option Nat) (t : TypeId) (n' g off : Nat) (x : α) (l : List α) (e : TypeId) (H : St w0 F0 m0 m σ w) (hn : σ[n']? = some (blkI g (l.map f) e)) (ho : fetch B n p i κ = some (d, uS (Instr.storeAt t (.pointer (some ⟨g, off, none⟩)) (f x)))) (ht : oneB P t = true) (hv : (f x).oneCell' = true) (hoff : off < l.length)
    (hk : ∀ w1, St w0 F0 m0 m (σ.set n' (blkI g ((l.set off x).map f) e)) w1 → Z (putk d undef κ) w1) : Step P B n p i κ w Z :=
  stS d t n' g off (f x) (l.map f) e H hn ho ht hv (by rw [List.length_map]; exact hoff) (fun w1 h => hk w1 (by rw [List.map_set]; exact h))
/-- A table's cell. -/
theorem mcA {α : Type} {f : α → Value} {g off : Nat} {l : List α} {t : TypeId} {fr : Nat × Nat} {x : α} (h : m g = some (.cells (l.map f).toArray t fr)) (hx : l[off]? = some x) : mc m ⟨g, off, none⟩ = some (f x) :=
  mc_blk h (by rw [List.getElem?_map, hx]; rfl)
/-- A table that is laid. -/
def TabM (m : Mem) (g : Nat) (cs : List Value) : Prop := ∃ t fr, m g = some (.cells cs.toArray t fr)
theorem TabM.mono {m m' : Mem} {g : Nat} {cs : List Value} (h : TabM m g cs) (hs : Sub m m') : TabM m' g cs := let ⟨t, fr, h1⟩ := h; ⟨t, fr, hs _ _ h1⟩
theorem TabM.at_ {α : Type} {f : α → Value} {g off : Nat} {l : List α} {x : α} (h : TabM m g (l.map f)) (hx : l[off]? = some x) : mc m ⟨g, off, none⟩ = some (f x) := let ⟨_, _, h1⟩ := h; mcA h1 hx
theorem SlI.ofArr {g : Nat} {l : List UInt8} {t : TypeId} {fr : Nat × Nat} (h : m g = some (.cells (l.map fU8).toArray t fr)) (hl : l.length ≤ maxLen) : SlI rU8 m (some ⟨g, 0, none⟩) l.length l :=
  ⟨Nat.le_refl _, hl, bs l, Rows.u8.2 rfl, fun j u hj => ⟨_, rfl, by rw [Addr.add_lit, Nat.zero_add]; exact mc_blk h hj⟩⟩
/-- &x[i], x a slice of an array of one's own -/
theorem idxSA (d : Option Nat) (t e g len cap : Nat) (ik : IntKind) (ix : Int) (ho : fetch B n p i κ = some (d, vS (Instr.indexAt t (.slice (some ⟨g, 0, none⟩) len cap) (.int ik ix)))) (ht : slB P t e 1 = true)
    (h0 : 0 ≤ ix) (h1 : ix < len) (hk : Z (putk d (.pointer (some ⟨g, ix.toNat, none⟩)) κ) w) : Step P B n p i κ w Z := by
  refine runR ho (idx_run t e 1 _ ⟨g, 0, none⟩ len cap ik ix (ix.toNat * 1) rfl ht h0 h1 rfl) ?_
  rw [Addr.add_lit, Nat.zero_add, Nat.mul_one]
  exact hk
theorem sliA_run (t N e sz : Nat) (a : Addr) (lo hi : Option Value) (l h : Nat) (ht : arB P t N e sz = true)
    (hl : (lo = none ∧ l = 0) ∨ ∃ ik x, lo = some (.int ik x) ∧ x = (l : Int)) (hh : (hi = none ∧ h = N) ∨ ∃ ik x, hi = some (.int ik x) ∧ x = (h : Int)) (h1 : l ≤ h) (h2 : h ≤ N) :
    (vS (Instr.sliceAt t (.pointer (some a)) lo hi none)).run P w = .ok (.value (.slice (some (if N = l then a else a.add (l * sz))) (h - l) (N - l))) w := by
  obtain ⟨h3, inf, h4, h5⟩ := ar_info ht
  refine vS_run ?_
  have hs : (sizeOf e).run P w = .ok sz w := by simp [sizeOf, typeInfo, h4, h5]
  have hb : ∀ (ik : IntKind) (x m : Nat) (c : BoundsCode), x ≤ m → (Instr.sliceBound (.int ik (x : Int)) m c).run P w = .ok x w := by
    intro ik x m c hx
    have hx' : (0 : Int) ≤ x ∧ (x : Int) ≤ m := by omega
    simp only [Instr.sliceBound, asIntOf, Sem.run_bind, Sem.run_pure, Result.andThen_ok, hx', and_self, if_true, Int.toNat_natCast]
  have hbs : (Instr.sliceBounds false N N lo hi none).run P w = .ok (l, h, N) w := by
    rcases hl with ⟨rfl, rfl⟩ | ⟨ik, x, rfl, rfl⟩ <;> rcases hh with ⟨rfl, rfl⟩ | ⟨ik', x', rfl, rfl⟩ <;>
      simp only [Instr.sliceBounds, Sem.run_bind, Sem.run_pure, Result.andThen_ok, hb _ _ _ _ h1, hb _ _ _ _ h2]
  simp only [Instr.sliceAt, Instr.sureAddr, Sem.run_bind, Sem.run_pure, Result.andThen_ok, run_underlying h3, hbs, hs]
/-- a[:hi] of an array of one's own -/
theorem sliA0 (d : Option Nat) (t N e g : Nat) (ik : IntKind) (b : Int) (ho : fetch B n p i κ = some (d, vS (Instr.sliceAt t (.pointer (some ⟨g, 0, none⟩)) none (some (.int ik b)) none))) (ht : arB P t N e 1 = true) (hN : Nat.ble 1 N = true) (h : 0 ≤ b ∧ b ≤ N)
    (hk : Z (putk d (.slice (some ⟨g, 0, none⟩) b.toNat N) κ) w) : Step P B n p i κ w Z := by
  have hN' := Nat.le_of_ble_eq_true hN
  refine runR ho (sliA_run t N e 1 ⟨g, 0, none⟩ none (some (.int ik b)) 0 b.toNat ht (.inl ⟨rfl, rfl⟩) (.inr ⟨ik, b, rfl, by omega⟩) (Nat.zero_le _) (by omega)) ?_
  rw [if_neg (by omega), Addr.add_lit]
  exact hk
theorem Cs.arr {g : Nat} {l : List UInt8} {t : TypeId} {fr : Nat × Nat} (h : w.heap[g]? = some (.cells (l.map fU8).toArray t fr)) (k : Nat) : Cs g (g + 1) w (some ⟨g, 0, none⟩) (bs (l.take k)) := by
  rw [bs_take]
  exact (Cs.of_blk h).take k
/-- a[lo:hi] of an array that turns no more -/
theorem sliAS (d : Option Nat) (t N e : Nat) (a0 : Addr) (l y : List UInt8) (lo hi : Option Value) (a b : Int) (hs : SlI rU8 m (some a0) l.length l) (hN : l.length = N) (ho : fetch B n p i κ = some (d, vS (Instr.sliceAt t (.pointer (some a0)) lo hi none))) (ht : arB P t N e 1 = true)
    (hl : (lo = none ∧ a = 0) ∨ ∃ ik, lo = some (.int ik a)) (hh : (hi = none ∧ b = l.length) ∨ ∃ ik, hi = some (.int ik b)) (hy : slc l a b = some y)
    (hk : ∀ A' c', SlI rU8 m A' c' y → Z (putk d (.slice A' y.length c') κ) w) : Step P B n p i κ w Z := by
  subst hN
  obtain ⟨⟨h1, h2, h3⟩, hy1, hy2⟩ := slc_some hy
  have e1 : ((a.toNat : Nat) : Int) = a := by omega
  have e2 : ((b.toNat : Nat) : Int) = b := by omega
  refine runR ho (sliA_run t l.length e 1 a0 lo hi a.toNat b.toNat ht ?_ ?_ (by omega) (by omega)) ?_
  · rcases hl with ⟨h, h'⟩ | ⟨ik, h⟩
    · exact .inl ⟨h, by omega⟩
    · exact .inr ⟨ik, a, h, e1.symm⟩
  · rcases hh with ⟨h, h'⟩ | ⟨ik, h⟩
    · exact .inl ⟨h, by omega⟩
    · exact .inr ⟨ik, b, h, e2.symm⟩
  · rw [show b.toNat - a.toNat = y.length by omega]
    refine hk _ _ ⟨by omega, Nat.le_trans (Nat.sub_le _ _) hs.max, ?_⟩
    obtain ⟨xs, h4, h5⟩ := hs.cs
    refine ⟨(xs.take (b.toNat * 1)).drop (a.toNat * 1), by rw [hy1]; exact (h4.take _).drop _, ?_⟩
    have := (h5.take (b.toNat * 1)).cut a.toNat l.length (sz := 1) (by
      rw [List.length_take, h4.len]
      exact Nat.min_le_right _ _)
    have e3 : (some (if l.length = a.toNat then a0 else a0.add (a.toNat * 1))) = (if l.length = a.toNat then some a0 else (some a0).map (·.add (a.toNat * 1))) := by split <;> rfl
    rw [e3]
    exact this
end
end Go.Proofs.YtbldeodchhfjfaaGreatDoor.K
