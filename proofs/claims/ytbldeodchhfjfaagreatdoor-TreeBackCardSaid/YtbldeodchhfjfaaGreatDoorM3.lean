/- Arguments opened as deep values over everything that is there. -/
import Derived.Test.YtbldeodchhfjfaaGreatDoorM2
import Derived.ChangeArms
import Derived.Deep.Slices
set_option linter.unusedVariables false
set_option linter.unusedSimpArgs false
namespace Go.Proofs.YtbldeodchhfjfaaGreatDoor.K
open Go Go.RowKit Go.ChangeShapes Go.WideShapes Go.ChangeAt

def Opn (P : Program) (t : TypeId) {α : Type} (r : Rep α) : Prop :=
  ∀ (H : Type) (enc : TypeId × Value → H) (W : World) (fuel : Nat) (cs : List Value) (x : DataW H × List MemPlace), DataW.trod enc P W 0 (fun _ => true) true fuel t cs = some x → ∃ a : α, r.im (memOf W) cs a ∧ r.wf a
theorem mc_memOf (W : World) (a : Addr) : mc (memOf W) a = W.cell? a := rfl
variable {P : Program} {t e : TypeId}
theorem opn_i64 (ht : P.underlying t = some (.int .i64)) : Opn P t rI64 := by
  intro H enc W fuel cs x h
  obtain ⟨n, rfl, _, hw⟩ := DataW.trod_int ht h
  exact ⟨n, rfl, wf_i64 hw⟩
theorem opn_u64 (ht : P.underlying t = some (.int .u64)) : Opn P t rU64 := by
  intro H enc W fuel cs x h
  obtain ⟨n, rfl, _, hw⟩ := DataW.trod_int ht h
  obtain ⟨m, rfl, hm⟩ := wf_u64 hw
  refine ⟨UInt64.ofNat m, ?_, trivial⟩
  show [Value.int .u64 (m : Int)] = [Value.int .u64 ((UInt64.ofNat m).toNat : Int)]
  rw [UInt64.toNat_ofNat', show m % 2 ^ 64 = m from Nat.mod_eq_of_lt hm]
theorem opn_u8 (ht : P.underlying t = some (.int .u8)) : Opn P t rU8 := by
  intro H enc W fuel cs x h
  obtain ⟨n, rfl, _, hw⟩ := DataW.trod_int ht h
  have := wf_u8 hw
  refine ⟨UInt8.ofNat n.toNat, ?_, trivial⟩
  have e : (UInt8.ofNat n.toNat).toNat = n.toNat % 256 := by simp
  show [Value.int .u8 n] = [Value.int .u8 ((UInt8.ofNat n.toNat).toNat : Int)]
  rw [e, show ((n.toNat % 256 : Nat) : Int) = n by omega]
theorem opn_bool (ht : P.underlying t = some .bool) : Opn P t rBool := by
  intro H enc W fuel cs x h
  obtain ⟨b, rfl, _⟩ := DataW.trod_bool ht h
  exact ⟨b, rfl, trivial⟩
theorem opn_str (ht : P.underlying t = some .string) : Opn P t rStr := by
  intro H enc W fuel cs x h
  obtain ⟨s, rfl, _, hs⟩ := DataW.trod_string ht h
  have : s.data.toList.length ≤ 9223372036854775807 := by
    have h1 : s.data.toList.length ≤ maxLen := by simpa using hs
    exact h1
  exact ⟨s.data.toList, ⟨rfl, this⟩, this⟩
theorem opn_slice {α : Type} {r : Rep α} (ht : P.underlying t = some (.slice e)) (hc : P.cellsOf e = r.sz) (he : Opn P e r) : Opn P t (rSl r) := by
  intro H enc W fuel cs x h
  rcases Deep.open_slice ht h with ⟨rfl, _⟩ | ⟨a, len, cap, m, n, D, Pl, rfl, hb, hl, hm, hmm, _, hx⟩
  · exact ⟨[], ⟨none, 0, rfl, SlI.nil _ _⟩, Nat.zero_le _, by simp⟩
  · simp only [if_true] at hmm
    subst hmm
    have key : ∀ k, k ≤ m → ∃ (xs : List Value) (l : List α), l.length = k ∧ Rows r (memOf W) xs l ∧ (∀ j u, xs[j]? = some u → mc (memOf W) (a.add j) = some u) ∧ ∀ x ∈ l, r.wf x := by
      intro k
      induction k with
      | zero => exact fun _ => ⟨[], [], rfl, rfl, by simp, by simp⟩
      | succ k ih =>
        intro hk
        obtain ⟨xs, l, h1, h2, h3, h4⟩ := ih (by omega)
        obtain ⟨cs', h5, h6⟩ := hx k (by omega)
        obtain ⟨b, h7, h8⟩ := he H enc W n cs' _ h6
        refine ⟨xs ++ cs', l ++ [b], by simp [h1], h2.app (Rows.single h7), ?_, ?_⟩
        · intro j u hj
          have hxl : xs.length = k * r.sz := by rw [h2.len, h1]
          rcases Nat.lt_or_ge j xs.length with hlt | hge
          · rw [List.getElem?_append_left hlt] at hj
            exact h3 j u hj
          · rw [List.getElem?_append_right hge] at hj
            obtain ⟨hlen, _, h9⟩ := World.cells?_some h5
            have hjl := (List.getElem?_eq_some_iff.1 hj).1
            have h10 := h9 (j - xs.length) (by rw [hc, ← r.len h7]; exact hjl)
            rw [hj, K.add_add, hc, ← hxl, show xs.length + (j - xs.length) = j by omega] at h10
            rw [mc_memOf]
            exact h10
        · intro x hx'
          rcases List.mem_append.1 hx' with h | h
          · exact h4 x h
          · rw [List.mem_singleton] at h
            subst h
            exact h8
    obtain ⟨xs, l, h1, h2, h3, h4⟩ := key len hl
    have hm' : m ≤ 9223372036854775807 := hm
    refine ⟨l, ⟨some a, m, by rw [h1], ⟨by rw [h1]; exact hl, hm, xs, h2, fun j u hj => ⟨a, rfl, h3 j u hj⟩⟩⟩, by rw [h1]; omega, h4⟩
/-- An argument, opened. -/
theorem open_rep {α : Type} {r : Rep α} {W : World} {H : Type} {enc : TypeId × Value → H} {v : Value} {d : DataW H} {ps : List MemPlace} (ho : Opn P t r) (h : DataW.Trod enc P W 0 (fun _ => true) true t v d ps) :
    ∃ a : α, r.im (memOf W) v.cells.toList a ∧ r.wf a := by
  obtain ⟨fuel, hf⟩ := h
  exact ho H enc W fuel _ _ hf
theorem open_sl {α : Type} {r : Rep α} {W : World} {H : Type} {enc : TypeId × Value → H} {A : Option Addr} {len cap : Nat} {d : DataW H} {ps : List MemPlace} (ho : Opn P t (rSl r)) (h : DataW.Trod enc P W 0 (fun _ => true) true t (.slice A len cap) d ps) :
    ∃ l : List α, len = l.length ∧ SlI r (memOf W) A cap l ∧ (rSl r).wf l := by
  obtain ⟨l, ⟨A', c', h1, h2⟩, h3⟩ := open_rep ho h
  simp [Value.cells] at h1
  obtain ⟨rfl, rfl, rfl⟩ := h1
  exact ⟨l, rfl, h2, h3⟩
theorem open_ag {α : Type} {r : Rep α} {W : World} {H : Type} {enc : TypeId × Value → H} {cs : Array Value} {d : DataW H} {ps : List MemPlace} (ho : Opn P t r) (h : DataW.Trod enc P W 0 (fun _ => true) true t (.agg cs) d ps) :
    ∃ a : α, r.im (memOf W) cs.toList a ∧ r.wf a := open_rep ho h
theorem toArr {cs : Array Value} {l : List Value} (h : cs.toList = l) : cs = l.toArray := by rw [← h]
end Go.Proofs.YtbldeodchhfjfaaGreatDoor.K
