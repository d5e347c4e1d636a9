/- Tables out of a row's `laid`. -/
import Derived.Test.YtbldeodchhfjfaaGreatDoorM5
import Derived.OpenShut
import Derived.ChangeBears2
namespace Go.Proofs.YtbldeodchhfjfaaGreatDoor.K
open Go
section
variable {P : Program} {w : World}
/-- an array of numbers reads as the listed numbers: its cells -/
theorem tab_cells {H : Type} {enc : TypeId × Value → H} {spare : Nat → Bool} {held : Bool} {fuel base : Nat} {t e : TypeId} {n : Nat} {k : IntKind} {cs : List Value} {vs : List Int} {ps : List MemPlace}
    (ht : P.underlying t = some (.array n e)) (he : P.underlying e = some (.int k)) (h1 : P.cellsOf e = 1) (hn : P.cellsOf t = n)
    (h : DataW.trod enc P w base spare held fuel t cs = some (.agg (vs.map fun v => .lit (.int k v)), ps)) : cs = vs.map (.int k) := by
  obtain ⟨xs, m, rfl, hx, hl, hxl, hel⟩ := DataW.trod_array ht h
  simp only [Prod.mk.injEq, DataW.agg.injEq] at hx
  have hv : vs.length = n := by
    have := congrArg List.length hx.1
    simp only [List.length_map] at this
    omega
  apply List.ext_getElem?
  intro i
  by_cases hi : i < n
  · have h2 := hel i hi
    have hxi : i < xs.length := by omega
    have hci : i < cs.length := by omega
    have hvi : i < vs.length := by omega
    rw [h1, Nat.mul_one, List.getElem?_eq_getElem hxi] at h2
    obtain ⟨z, e1, e2, _⟩ := DataW.trod_int he h2
    have e3 : (cs.drop i).take 1 = [cs[i]] := by
      rw [List.drop_eq_getElem_cons hci, List.take_succ_cons, List.take_zero]
    rw [e3] at e1
    have e4 : cs[i] = .int k z := by simpa using e1
    have e5 : (vs.map fun v => (DataW.lit (.int k v) : DataW H))[i]? = (xs.map (·.1))[i]? := by rw [hx.1]
    rw [List.getElem?_map, List.getElem?_map, List.getElem?_eq_getElem hvi, List.getElem?_eq_getElem hxi, e2] at e5
    have e6 : vs[i] = z := by simpa using e5
    rw [List.getElem?_eq_getElem hci, List.getElem?_map, List.getElem?_eq_getElem hvi, e4, e6]
    rfl
  · rw [List.getElem?_eq_none (by omega), List.getElem?_eq_none (by simp; omega)]
/-- a listed variable as a table of the memory -/
theorem tab_of {nm : String} {g : Nat} {cs : Array Value} {l : List Value} (hg : P.globalNamed nm = some g) (hv : w.var? P nm = some cs) (hc : cs.toList = l) : TabM (memOf w) g l := by
  unfold World.var? at hv
  rw [hg] at hv
  simp only [Option.bind_some] at hv
  split at hv
  · rename_i c t fr hb
    cases hv
    exact ⟨t, fr, by rw [← hc]; exact hb⟩
  · cases hv
end
end Go.Proofs.YtbldeodchhfjfaaGreatDoor.K
