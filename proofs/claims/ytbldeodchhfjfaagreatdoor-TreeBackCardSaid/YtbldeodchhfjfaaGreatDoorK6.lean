/- Deep values: arguments opened. -/
import Derived.Test.YtbldeodchhfjfaaGreatDoorK4
import Derived.Test.YtbldeodchhfjfaaGreatDoorK5
import Derived.ChangeArms
import Derived.Deep.Slices
set_option linter.unusedVariables false
set_option linter.unusedSimpArgs false
namespace Go.Proofs.YtbldeodchhfjfaaGreatDoor.K
open Go Go.RowKit Go.ChangeShapes Go.WideShapes Go.ChangeAt

def Op (P : Program) (t : TypeId) (α : Type) [Dat α] : Prop :=
  ∀ (H : Type) (enc : TypeId × Value → H) (W : World) (fuel : Nat) (cs : List Value) (x : DataW H × List MemPlace), DataW.trod enc P W 0 (fun _ => true) true fuel t cs = some x → ∃ a : α, cs = Dat.cells a ∧ Dat.ok 0 W.heap.size W a

variable {P : Program} {t e : TypeId}
theorem op_i64 (ht : P.underlying t = some (.int .i64)) : Op P t Int := by
  intro H enc W fuel cs x h
  obtain ⟨n, rfl, _, hw⟩ := DataW.trod_int ht h
  exact ⟨n, rfl, wf_i64 hw⟩
theorem op_u64 (ht : P.underlying t = some (.int .u64)) : Op P t Nat := by
  intro H enc W fuel cs x h
  obtain ⟨n, rfl, _, hw⟩ := DataW.trod_int ht h
  obtain ⟨m, rfl, hm⟩ := wf_u64 hw
  exact ⟨m, rfl, hm⟩
theorem op_u8 (ht : P.underlying t = some (.int .u8)) : Op P t UInt8 := by
  intro H enc W fuel cs x h
  obtain ⟨n, rfl, _, hw⟩ := DataW.trod_int ht h
  have := wf_u8 hw
  refine ⟨UInt8.ofNat n.toNat, ?_, trivial⟩
  have e : (UInt8.ofNat n.toNat).toNat = n.toNat % 256 := by simp
  show [Value.int .u8 n] = [Value.int .u8 ((UInt8.ofNat n.toNat).toNat : Int)]
  rw [e, show ((n.toNat % 256 : Nat) : Int) = n by omega]
theorem op_bool (ht : P.underlying t = some .bool) : Op P t Bool := by
  intro H enc W fuel cs x h
  obtain ⟨b, rfl, _⟩ := DataW.trod_bool ht h
  exact ⟨b, rfl, trivial⟩
theorem op_str (ht : P.underlying t = some .string) : Op P t (List UInt8) := by
  intro H enc W fuel cs x h
  obtain ⟨s, rfl, _, hs⟩ := DataW.trod_string ht h
  refine ⟨s.data.toList, rfl, ?_⟩
  show s.data.toList.length ≤ maxLen
  simpa using hs
theorem op_slice {α : Type} [Dat α] (ht : P.underlying t = some (.slice e)) (hc : P.cellsOf e = Dat.sz α) (h0 : 0 < Dat.sz α) (he : Op P e α) : Op P t (Sls α) := by
  intro H enc W fuel cs x h
  rcases Deep.open_slice ht h with ⟨rfl, _⟩ | ⟨a, len, cap, m, n, D, Pl, rfl, hb, hl, hm, hmm, _, hx⟩
  · exact ⟨⟨none, 0, []⟩, rfl, Nat.le_refl _, by simp [maxLen], Cs.nil _ _ _ _, by simp⟩
  · simp only [if_true] at hmm
    subst hmm
    have hx' : ∀ i, i < m → ∃ b : α, W.cells? 0 (a.add (i * P.cellsOf e)) (P.cellsOf e) = some (Dat.cells b) ∧ Dat.ok 0 W.heap.size W b := by
      intro i hi
      obtain ⟨cs', h1, h2⟩ := hx i hi
      obtain ⟨b, rfl, h3⟩ := he H enc W n cs' _ h2
      exact ⟨b, h1, h3⟩
    have key : ∀ k, k ≤ m → ∃ l : List α, l.length = k ∧ ∀ i b, l[i]? = some b → W.cells? 0 (a.add (i * P.cellsOf e)) (P.cellsOf e) = some (Dat.cells b) ∧ Dat.ok 0 W.heap.size W b := by
      intro k
      induction k with
      | zero => exact fun _ => ⟨[], rfl, by simp⟩
      | succ k ih =>
        intro hk
        obtain ⟨l, h1, h2⟩ := ih (by omega)
        obtain ⟨b, h3⟩ := hx' k (by omega)
        refine ⟨l ++ [b], by simp [h1], fun i c hc => ?_⟩
        rcases Nat.lt_or_ge i k with hi | hi
        · rw [List.getElem?_append_left (by omega)] at hc
          exact h2 i c hc
        · have : i = k := by
            have := (List.getElem?_eq_some_iff.1 hc).1
            simp [h1] at this
            omega
          subst this
          rw [List.getElem?_append_right (by omega), h1, Nat.sub_self] at hc
          cases hc
          exact h3
    obtain ⟨l, h1, h2⟩ := key len hl
    refine ⟨⟨some a, m, l⟩, by rw [show len = l.length from h1.symm]; rfl, by rw [h1]; exact hl, hm, ?_, ?_⟩
    · intro j u hj
      have hlt : j < l.length * Dat.sz α := by
        have := (List.getElem?_eq_some_iff.1 hj).1
        rwa [flat_len] at this
      have hd : j / Dat.sz α < l.length := Nat.div_lt_of_lt_mul (by rw [Nat.mul_comm]; exact hlt)
      have hmd := Nat.mod_lt j h0
      have hget := List.getElem?_eq_getElem hd
      have h3 := flat_get (α := α) rfl (j % Dat.sz α) hmd l (j / Dat.sz α) _ hget
      rw [show j / Dat.sz α * Dat.sz α + j % Dat.sz α = j by rw [Nat.mul_comm]; exact Nat.div_add_mod _ _, hj] at h3
      obtain ⟨h4, _⟩ := h2 _ _ hget
      obtain ⟨_, _, h5⟩ := World.cells?_some h4
      have h6 := h5 (j % Dat.sz α) (by rw [hc]; exact hmd)
      rw [← h3, K.add_add, hc, show j / Dat.sz α * Dat.sz α + j % Dat.sz α = j by rw [Nat.mul_comm]; exact Nat.div_add_mod _ _] at h6
      refine ⟨a, rfl, Nat.zero_le _, ?_, h6⟩
      have := World.block_lt_of_cell? W _ h6
      rwa [add_block] at this
    · intro b hb
      obtain ⟨i, hi⟩ := List.mem_iff_getElem?.1 hb
      exact (h2 i b hi).2

/-- An argument, opened. -/
theorem open_deep {α : Type} [Dat α] {W : World} {H : Type} {enc : TypeId × Value → H} {v : Value} {d : DataW H} {ps : List MemPlace} (ho : Op P t α) (h : DataW.Trod enc P W 0 (fun _ => true) true t v d ps) :
    ∃ a : α, v.cells.toList = Dat.cells a ∧ Dat.ok 0 W.heap.size W a := by
  obtain ⟨fuel, hf⟩ := h
  exact ho H enc W fuel _ _ hf
theorem open_sls {α : Type} [Dat α] {W : World} {H : Type} {enc : TypeId × Value → H} {A : Option Addr} {len cap : Nat} {d : DataW H} {ps : List MemPlace} (ho : Op P t (Sls α)) (h : DataW.Trod enc P W 0 (fun _ => true) true t (.slice A len cap) d ps) :
    ∃ l : List α, len = l.length ∧ Sls.Ok 0 W.heap.size W ⟨A, cap, l⟩ := by
  obtain ⟨a, h1, h2⟩ := open_deep ho h
  obtain ⟨A', c', l⟩ := a
  simp [Value.cells, Dat.cells] at h1
  obtain ⟨rfl, rfl, rfl⟩ := h1
  exact ⟨l, rfl, h2⟩
theorem open_agg {α : Type} [Dat α] {W : World} {H : Type} {enc : TypeId × Value → H} {cs : Array Value} {d : DataW H} {ps : List MemPlace} (ho : Op P t α) (h : DataW.Trod enc P W 0 (fun _ => true) true t (.agg cs) d ps) :
    ∃ a : α, cs = (Dat.cells a).toArray ∧ Dat.ok 0 W.heap.size W a := by
  obtain ⟨a, h1, h2⟩ := open_deep ho h
  refine ⟨a, ?_, h2⟩
  rw [← h1]
  rfl
end Go.Proofs.YtbldeodchhfjfaaGreatDoor.K
