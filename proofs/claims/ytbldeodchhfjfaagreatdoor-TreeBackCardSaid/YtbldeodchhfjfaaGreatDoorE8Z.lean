/- E, part 8Z: append of zeros (append(s, make([]byte, n)...)). -/
import Derived.Test.YtbldeodchhfjfaaGreatDoorE8
import Derived.Lib.AppendZerosOnto
set_option linter.unusedVariables false
set_option linter.unusedSimpArgs false
set_option linter.unusedSectionVars false
namespace Go.Proofs.YtbldeodchhfjfaaGreatDoor.K
open Go Go.RowKit
section
variable {P : Program}
def zs (n : Nat) : ByteArray := ⟨(List.replicate n (0 : UInt8)).toArray⟩
theorem zs_size (n : Nat) : (zs n).size = n := by show (List.replicate n (0 : UInt8)).toArray.size = n; simp
theorem zcells (n : Nat) : Builtin.zeroCells (Value.int .u8 0).cells n = (List.replicate n (Value.int .u8 0)).toArray := by
  apply Array.ext
  · simp [Builtin.zeroCells, Value.cells]
  · intro i h1 h2
    simp [Builtin.zeroCells, Value.cells, Nat.mod_one]
theorem zstr (n : Nat) : Lib.strCells (zs n) = List.replicate n (Value.int .u8 0) := by
  unfold Lib.strCells zs
  simp
theorem run_append_zeros (w : World) (base : Nat) (t u us ty e : TypeId) (i : TypeInfo) {ik ik' : IntKind} (ht : P.underlying t = some (.slice e)) (hu : P.underlying u = some (.int ik)) (hus : P.underlying us = some .string) (hi : P.info? e = some i) (hz : i.zero = some (.int .u8 0))
    (hsize : i.size = 1) (hby : i.bytes = 1) (v : Value) (n k : Nat) (xs : List Value) (hown : w.ownsRow base e 1 v n xs) (hb : n + k ≤ 140737488355328) (hbase : base ≤ w.heap.size) :
    (Builtin.append_ #[t, u] ty #[v, .int ik' (k : Int)]).run P w = (Builtin.append_ #[t, us] ty #[v, .string (zs k)]).run P w := by
  have hk := zs_size k
  have hxl : xs.length = n := by simpa using hown.1
  have hw : IntKind.i64.wrap (k : Int) = (k : Int) := w64 (by omega)
  have hw0 : IntKind.i64.wrap 0 = 0 := w64 (by omega)
  have h48i : ¬ (281474976710656 < (k : Int)) := by omega
  have hneg : ¬ ((k : Int) < 0) := by omega
  rcases hown.2 with ⟨rfl, rfl⟩ | ⟨g, cap, cur, rfl, hbg, hg, hnc, hcm, hcs, htake⟩
  · by_cases h0 : k = 0
    · subst h0
      simp [Builtin.append_, run_underlying ht, run_underlying hu, run_underlying hus, sizeOf, typeInfo, zeroValue, hi, hz, asInt, asIntOf, hw, hw0, Builtin.lenOf, hk, Builtin.firstCells]
    · rw [Lib.run_append_nil_zeros w t u ty e i (.int .u8 0) ik' ik ht hu hi hz k (by omega) (by omega) (by omega) (by rw [hby]; omega), run_append_nil_string (P := P) w t us ty e i (.int .u8 0) ht hus hi hz (zs k) (by omega) (by omega) (by rw [hby]; omega), hk, zcells, zcells]
      congr 4
      simp [zs]
  · by_cases hroom : n + k ≤ cap
    · rw [Lib.run_append_room_string (P := P) (w := w) t us ty e i ht hus hi hsize g n cap cur hg (zs k) (by omega) (by simp at hcs; omega), hk, zstr]
      have hst := run_storeCells_at P g n e (List.replicate k (Value.int .u8 0)) 0 cur w hg (by simp at hcs ⊢; omega) (by intro u hu; rw [List.eq_of_mem_replicate hu]; rfl)
      simp only [Nat.add_zero, List.length_replicate] at hst
      by_cases h0 : k = 0
      · subst h0
        simp only [List.replicate_zero] at hst
        simp [Builtin.append_, run_underlying ht, run_underlying hu, sizeOf, typeInfo, zeroValue, hi, hz, hsize, hby, asInt, asIntOf, hw, hw0, hneg, h48i, hnc, zcells, Addr.add_lit, hst]
      · simp [Builtin.append_, run_underlying ht, run_underlying hu, sizeOf, typeInfo, zeroValue, hi, hz, hsize, hby, asInt, asIntOf, hw, hw0, hneg, h48i, h0, hroom, zcells, Addr.add_lit, hst]
    · have holds : ∀ j x, xs[j]? = some x → w.cell? ((⟨g, 0, none⟩ : Addr).add j) = some x := by
        intro j x hj
        rw [Addr.add_lit, Nat.zero_add]
        refine blk_cell hg ?_
        rw [← htake, List.getElem?_take] at hj
        split at hj
        · simpa using hj
        · cases hj
      have hfit : Builtin.nextslicecap (n + k) cap * i.bytes ≤ 281474976710656 := by
        rw [hby, Nat.mul_one]
        exact Nat.le_trans (nextslicecap_le (by omega)) (by omega)
      rw [Lib.run_append_grow_string (P := P) (w := w) t us ty e i (.int .u8 0) ht hus hi hz ⟨g, 0, none⟩ n cap xs (by rw [hxl, hsize, Nat.mul_one]) holds (zs k) (by omega) (by omega) (by rw [hk]; exact hfit), hk, zstr]
      rw [Lib.run_append_grow_zeros w t u ty e i (.int .u8 0) ik' ik ht hu hi hz (some ⟨g, 0, none⟩) n cap xs (by
        rw [hsize]
        exact run_firstCells_some (P := P) w.drew 1 n ⟨g, 0, none⟩ n cap xs (by rw [hxl, Nat.mul_one]) (by simpa using holds)) k (by omega) (by omega) (by omega) (by omega) (by rw [hby]; omega) hfit, zcells]
end
section
variable {P : Program} {B : Code} {n : Cx} {p : List Nat} {i : Nat} {κ : Kn} {w : World} {Z : Kn → World → Prop} {w0 : World} {F0 : Nat → Prop} {m0 m : Mem} {σ : List Item}
/-- append(v, make([]byte, k)...). -/
theorem appzS (d : Option Nat) (t u e : TypeId) (ty : TypeId) (n' : Nat) (A : Option Addr) (c : Nat) (l y : List UInt8) (k0 : Nat) {us : TypeId} {ik ik' : IntKind} (H : St w0 F0 m0 m σ w) (hn : σ[n']? = some (rowI rU8 e A c l)) (he : elB P t e 1 1 (.int .u8 0)) (hu : P.underlying u = some (.int ik)) (hus : P.underlying us = some .string)
    (ho : fetch B n p i κ = some (d, vS (Builtin.append_ #[t, u] ty #[.slice A l.length c, .int ik' (k0 : Int)]))) (hy : app l (List.replicate k0 0) = some y)
    (hk : ∀ A' c1 w1, St w0 F0 m0 m (σ.set n' (rowI rU8 e A' c1 y)) w1 → Z (putk d (.slice A' y.length c1) κ) w1) : Step P B n p i κ w Z := by
  obtain ⟨F, ⟨⟨xs, h1, ho1⟩, hF⟩, h2, h3⟩ := H.upd n' hn
  obtain ⟨hb, rfl⟩ := app_some hy
  obtain ⟨ht, hinf⟩ := he
  obtain ⟨i0, hi, hzz⟩ := Option.map_eq_some_iff.1 hinf
  simp only [Prod.mk.injEq] at hzz
  obtain ⟨hz0, hz1, hz2⟩ := hzz
  rw [List.length_replicate] at hb
  obtain ⟨v', w', hr0, h4, h5, h6⟩ := run_appstr (P := P) w 0 t us ty e i0 ht hus hi hz0 hz1 hz2 _ l.length xs ho1 (zs k0) (by rw [zs_size]; simp only [maxLen]; omega) (by rw [zs_size]; omega) (Nat.zero_le _)
  have hr := (run_append_zeros (P := P) w 0 t u us ty e i0 (ik := ik) (ik' := ik') ht hu hus hi hz0 hz1 hz2 _ l.length k0 xs ho1 (by omega) (Nat.zero_le _)).trans hr0
  obtain ⟨A', c1, rfl, h7, _⟩ := own_shape h4
  have hs : (zs k0).size = (List.replicate k0 (0 : UInt8)).length := by rw [zs_size, List.length_replicate]
  rw [hs, ← List.length_append] at h4 h6 hr
  refine runR ho (vS_run hr) (hk A' c1 w' (h3 w' (rowI rU8 e A' c1 (l ++ List.replicate k0 0)) (fun k => (Value.slice A' (l ++ List.replicate k0 0).length c1).ownBlock = some k) ((Kp.of_gb h5 (run_drawn _ _ hr)).mono (fun k _ e => (hF k).2 e.symm)) ⟨⟨xs ++ Lib.strCells (zs k0), h1.app (Rows.u8.2 (by rw [zstr]; simp [bs])), h4⟩, fun _ => Iff.rfl⟩ ?_))
  intro k hk
  rcases h6 with e | e
  · exact .inl ((hF k).2 (e ▸ hk))
  · rw [e] at hk
    cases hk
    exact .inr (Nat.le_refl _)
end
end Go.Proofs.YtbldeodchhfjfaaGreatDoor.K
