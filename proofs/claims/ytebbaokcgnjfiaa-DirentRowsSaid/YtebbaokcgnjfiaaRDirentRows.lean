/- DirentRows holds of every input, as the given statement says. -/
import Derived.Test.YtebbaokcgnjfiaaRows
import Derived.Test.YtebbaokcgnjfiaaM3
import Derived.Test.YtebbaokcgnjfiaaLD2
import Derived.Test.YtebbaokcgnjfiaaXDirentRows
set_option linter.unusedVariables false
set_option linter.unusedSimpArgs false
namespace Go.Proofs.Ytebbaokcgnjfiaa.K
open Go Go.RowKit Go.ChangeShapes Go.WideShapes Go.ChangeAt
theorem cut2 {cs : List Value} (h : cs.length = 2) : ∃ c0 c1, cs = [c0, c1] := by
  match cs, h with
  | [c0, c1], _ => exact ⟨_, _, rfl⟩
theorem cut3 {cs : List Value} (h : cs.length = 3) : ∃ c0 c1 c2, cs = [c0, c1, c2] := by
  match cs, h with
  | [c0, c1, c2], _ => exact ⟨_, _, _, rfl⟩
theorem opn_TApiKid : Opn Try.prog 28 rApiKid := by
  intro H enc W fuel cs x h
  obtain ⟨xs, n, _, _, hl0, hxl, hf⟩ := DataW.trod_struct Try.underlying28 h
  have hl : cs.length = 2 := hl0.trans (by kernel_rfl)
  clear h hl0
  obtain ⟨c0, c1, rfl⟩ := cut2 hl
  have g0 : DataW.trod enc Try.prog W 0 (fun _ => true) true n 9 (([c0, c1].drop 0).take (Try.prog.cellsOf 9)) = xs[0]? := hf 0 _ rfl
  rw [show Try.prog.cellsOf 9 = 1 from by kernel_rfl] at g0
  have hi0 : 0 < xs.length := by rw [hxl]; decide
  rw [List.getElem?_eq_getElem hi0] at g0
  obtain ⟨a0, e0, k0⟩ := (opn_str Try.underlying9) H enc W n [c0] _ g0
  have g1 : DataW.trod enc Try.prog W 0 (fun _ => true) true n 3 (([c0, c1].drop 1).take (Try.prog.cellsOf 3)) = xs[1]? := hf 1 _ rfl
  rw [show Try.prog.cellsOf 3 = 1 from by kernel_rfl] at g1
  have hi1 : 1 < xs.length := by rw [hxl]; decide
  rw [List.getElem?_eq_getElem hi1] at g1
  obtain ⟨a1, e1, k1⟩ := (opn_i64 Try.underlying3) H enc W n [c1] _ g1
  obtain ⟨e0, S0_0⟩ := e0
  have e0 : [c0] = [.string ⟨a0.toArray⟩] := e0
  cases e0
  have e1 : [c1] = [.int .i64 a1] := e1
  cases e1
  exact ⟨⟨a0, a1⟩, ⟨rfl, S0_0⟩, k0, k1⟩
theorem opn_TFieldReader : Opn Try.prog 117 rFieldReader := by
  intro H enc W fuel cs x h
  obtain ⟨xs, n, _, _, hl0, hxl, hf⟩ := DataW.trod_struct Try.underlying117 h
  have hl : cs.length = 3 := hl0.trans (by kernel_rfl)
  clear h hl0
  obtain ⟨c0, c1, c2, rfl⟩ := cut3 hl
  have g0 : DataW.trod enc Try.prog W 0 (fun _ => true) true n 30 (([c0, c1, c2].drop 0).take (Try.prog.cellsOf 30)) = xs[0]? := hf 0 _ rfl
  rw [show Try.prog.cellsOf 30 = 1 from by kernel_rfl] at g0
  have hi0 : 0 < xs.length := by rw [hxl]; decide
  rw [List.getElem?_eq_getElem hi0] at g0
  obtain ⟨a0, e0, k0⟩ := (opn_slice Try.underlying30 (by kernel_rfl) (opn_u8 Try.underlying5)) H enc W n [c0] _ g0
  have g1 : DataW.trod enc Try.prog W 0 (fun _ => true) true n 3 (([c0, c1, c2].drop 1).take (Try.prog.cellsOf 3)) = xs[1]? := hf 1 _ rfl
  rw [show Try.prog.cellsOf 3 = 1 from by kernel_rfl] at g1
  have hi1 : 1 < xs.length := by rw [hxl]; decide
  rw [List.getElem?_eq_getElem hi1] at g1
  obtain ⟨a1, e1, k1⟩ := (opn_i64 Try.underlying3) H enc W n [c1] _ g1
  have g2 : DataW.trod enc Try.prog W 0 (fun _ => true) true n 31 (([c0, c1, c2].drop 2).take (Try.prog.cellsOf 31)) = xs[2]? := hf 2 _ rfl
  rw [show Try.prog.cellsOf 31 = 1 from by kernel_rfl] at g2
  have hi2 : 2 < xs.length := by rw [hxl]; decide
  rw [List.getElem?_eq_getElem hi2] at g2
  obtain ⟨a2, e2, k2⟩ := (opn_i64 Try.underlying31) H enc W n [c2] _ g2
  obtain ⟨A0_0, C0_0, e0, S0_0⟩ := e0
  have e0 : [c0] = [.slice A0_0 a0.length C0_0] := e0
  cases e0
  have e1 : [c1] = [.int .i64 a1] := e1
  cases e1
  have e2 : [c2] = [.int .i64 a2] := e2
  cases e2
  exact ⟨⟨a0, a1, a2⟩, ⟨A0_0, C0_0, rfl, S0_0⟩, k0, k1, k2⟩
end Go.Proofs.Ytebbaokcgnjfiaa.K
namespace Go.Proofs.Ytebbaokcgnjfiaa.direntRows
open Go.ChangeShapes Go.WideShapes Go.ChangeAt Go.RowKit Go.Proofs.Ytebbaokcgnjfiaa.K
open Go.ChangeMaps (open_string shut_string)
theorem own : ownKnob Try.prog.godebug = none := by kernel_rfl
set_option maxRecDepth 100000 in
theorem lifted (os : Os) (started : os.Started) (H : Type) (enc : TypeId × Value → H) :
    ReturnsInHanded {} Try.checked os 6 .any (Rows.direntRowsSpec.pre6 enc Try.prog Try.f6 Rows.direntRowsRow.domain false) (Rows.direntRowsSpec.post enc Try.prog Try.f6 false true false false) := by
  refine returnsInHanded_of_change_sized (C := Try.checked) own started (by kernel_rfl) Try.func6
    (ChangeSpec.witness6 (enc := enc) (C := Try.checked) false ⟨#[], #[.int .i64 0, .bool false], []⟩ 8 (by kernel_rfl) (by kernel_rfl) (by kernel_rfl) (by kernel_rfl)) ?_
  intro W base args ds gs before hval0 hW hcnd hsz0 _
  have hsz : (DataW.weightsEach Try.prog (Try.f6.params.toList ++ Rows.direntRowsSpec.plain.varTypes Try.prog) (ds ++ gs)).all (· ≤ reachBytes) = true := hsz0
  have hval : ∀ (j : Nat) t v, Try.f6.params[j]? = some t → args[j]? = some v → Value.okWide Try.prog W .any base t v := hval0
  have hW' := hW
  obtain ⟨p, q, hA0, hV, rfl, hfz, hnd⟩ := hW
  have hA : DataW.TrodAll enc Try.prog W 0 (fun _ => true) true Try.f6.params.toList args.toList ds p := hA0
  rw [Try.params6] at hA hval hsz
  obtain ⟨v0, vs0, d0, ds0, p0, q0, hargs, rfl, rfl, h0, r0⟩ := trodAll_cons hA
  obtain ⟨v1, vs1, d1, ds1, p1, q1, rfl, rfl, rfl, h1, r1⟩ := trodAll_cons r0
  obtain ⟨rfl, rfl, rfl⟩ := trodAll_nil r1
  obtain rfl : args = #[v0, v1] := by cases args; simp_all
  obtain ⟨rfl, rfl⟩ := trodVars_none hV
  obtain ⟨a0, rfl, rfl, rfl, w0⟩ := open_int Try.underlying3 (hval 0 3 v0 rfl rfl) h0
  obtain ⟨a1, rfl, rfl, rfl⟩ := open_bool Try.underlying4 (hval 1 4 v1 rfl rfl) h1
  clear hA0 hval0 hsz0 hsz
  refine (F.law16_DirentRows_c (Has.of W) a0 a1 (F.DirentRows_pure a0 (wf_i64 w0) a1)).mono fun e W' ⟨v, he, hv, hx⟩ => ?_
  subst he
  subst hv
  have bel := hx.below
  exact ⟨_, rfl, _, _, _, [], _, [], hW', trodAll_mk1 (shut_bool Try.underlying4 _), (trodAll_cons_mk (shut_int Try.underlying3 w0) (trodAll_cons_mk (shut_bool Try.underlying4 _) trodAll_mk0)), rfl, bel.frame _, fun h => by cases h⟩
theorem over : Rows.direntRowsRow.holds Try.pinned (OpenSpec.ofChange Rows.direntRowsSpec) :=
  OpenClaim.holds_of_wide 6 Try.f6 rfl rfl rfl rfl rfl rfl rfl ⟨rfl, rfl, rfl, rfl, rfl⟩ rfl rfl rfl rfl rfl (by kernel_rfl) Try.func6 (by kernel_rfl)
    (of_decide_eq_true (by kernel_rfl)) (by unfold Func.isWrapper; first | (rw [if_pos (by decide +kernel)]; kernel_rfl) | (rw [if_neg (by decide +kernel)]; exact ⟨rfl, rfl⟩))
    (fun os started H enc _ => lifted os started H enc)
theorem proved : Rows.DirentRowsSaid := over
#print axioms proved
end Go.Proofs.Ytebbaokcgnjfiaa.direntRows
namespace Go.Proofs.Ytebbaokcgnjfiaa
/-- The row, under a short name, for the claim. -/
theorem direntRows_holds : Rows.DirentRowsSaid := direntRows.proved
end Go.Proofs.Ytebbaokcgnjfiaa
