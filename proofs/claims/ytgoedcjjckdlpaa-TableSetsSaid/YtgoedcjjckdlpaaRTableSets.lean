/- TableSets holds of every input, as the given statement says. -/
import Derived.Test.YtgoedcjjckdlpaaRows
import Derived.Test.YtgoedcjjckdlpaaM3
import Derived.Test.YtgoedcjjckdlpaaLT4
import Derived.Test.YtgoedcjjckdlpaaXTableSets
set_option linter.unusedVariables false
set_option linter.unusedSimpArgs false
namespace Go.Proofs.Ytgoedcjjckdlpaa.K
open Go Go.RowKit Go.ChangeShapes Go.WideShapes Go.ChangeAt
theorem cut2 {cs : List Value} (h : cs.length = 2) : ∃ c0 c1, cs = [c0, c1] := by
  match cs, h with
  | [c0, c1], _ => exact ⟨_, _, rfl⟩
theorem cut3 {cs : List Value} (h : cs.length = 3) : ∃ c0 c1 c2, cs = [c0, c1, c2] := by
  match cs, h with
  | [c0, c1, c2], _ => exact ⟨_, _, _, rfl⟩
theorem opn_TApiAttr : Opn Try.prog 43 rApiAttr := by
  intro H enc W fuel cs x h
  obtain ⟨xs, n, _, _, hl0, hxl, hf⟩ := DataW.trod_struct Try.underlying43 h
  have hl : cs.length = 2 := hl0.trans (by kernel_rfl)
  clear h hl0
  obtain ⟨c0, c1, rfl⟩ := cut2 hl
  have g0 : DataW.trod enc Try.prog W 0 (fun _ => true) true n 9 (([c0, c1].drop 0).take (Try.prog.cellsOf 9)) = xs[0]? := hf 0 _ rfl
  rw [show Try.prog.cellsOf 9 = 1 from by kernel_rfl] at g0
  have hi0 : 0 < xs.length := by rw [hxl]; decide
  rw [List.getElem?_eq_getElem hi0] at g0
  obtain ⟨a0, e0, k0⟩ := (opn_str Try.underlying9) H enc W n [c0] _ g0
  have g1 : DataW.trod enc Try.prog W 0 (fun _ => true) true n 29 (([c0, c1].drop 1).take (Try.prog.cellsOf 29)) = xs[1]? := hf 1 _ rfl
  rw [show Try.prog.cellsOf 29 = 1 from by kernel_rfl] at g1
  have hi1 : 1 < xs.length := by rw [hxl]; decide
  rw [List.getElem?_eq_getElem hi1] at g1
  obtain ⟨a1, e1, k1⟩ := (opn_slice Try.underlying29 (by kernel_rfl) (opn_u8 Try.underlying5)) H enc W n [c1] _ g1
  obtain ⟨e0, S0_0⟩ := e0
  have e0 : [c0] = [.string ⟨a0.toArray⟩] := e0
  cases e0
  obtain ⟨A1_0, C1_0, e1, S1_0⟩ := e1
  have e1 : [c1] = [.slice A1_0 a1.length C1_0] := e1
  cases e1
  exact ⟨⟨a0, a1⟩, ⟨A1_0, C1_0, rfl, S0_0, S1_0⟩, k0, k1⟩
theorem opn_TFieldWriter : Opn Try.prog 108 rFieldWriter := by
  intro H enc W fuel cs x h
  obtain ⟨xs, n, _, _, hl0, hxl, hf⟩ := DataW.trod_struct Try.underlying108 h
  have hl : cs.length = 3 := hl0.trans (by kernel_rfl)
  clear h hl0
  obtain ⟨c0, c1, c2, rfl⟩ := cut3 hl
  have g0 : DataW.trod enc Try.prog W 0 (fun _ => true) true n 29 (([c0, c1, c2].drop 0).take (Try.prog.cellsOf 29)) = xs[0]? := hf 0 _ rfl
  rw [show Try.prog.cellsOf 29 = 1 from by kernel_rfl] at g0
  have hi0 : 0 < xs.length := by rw [hxl]; decide
  rw [List.getElem?_eq_getElem hi0] at g0
  obtain ⟨a0, e0, k0⟩ := (opn_slice Try.underlying29 (by kernel_rfl) (opn_u8 Try.underlying5)) H enc W n [c0] _ g0
  have g1 : DataW.trod enc Try.prog W 0 (fun _ => true) true n 3 (([c0, c1, c2].drop 1).take (Try.prog.cellsOf 3)) = xs[1]? := hf 1 _ rfl
  rw [show Try.prog.cellsOf 3 = 1 from by kernel_rfl] at g1
  have hi1 : 1 < xs.length := by rw [hxl]; decide
  rw [List.getElem?_eq_getElem hi1] at g1
  obtain ⟨a1, e1, k1⟩ := (opn_i64 Try.underlying3) H enc W n [c1] _ g1
  have g2 : DataW.trod enc Try.prog W 0 (fun _ => true) true n 30 (([c0, c1, c2].drop 2).take (Try.prog.cellsOf 30)) = xs[2]? := hf 2 _ rfl
  rw [show Try.prog.cellsOf 30 = 1 from by kernel_rfl] at g2
  have hi2 : 2 < xs.length := by rw [hxl]; decide
  rw [List.getElem?_eq_getElem hi2] at g2
  obtain ⟨a2, e2, k2⟩ := (opn_i64 Try.underlying30) H enc W n [c2] _ g2
  obtain ⟨A0_0, C0_0, e0, S0_0⟩ := e0
  have e0 : [c0] = [.slice A0_0 a0.length C0_0] := e0
  cases e0
  have e1 : [c1] = [.int .i64 a1] := e1
  cases e1
  have e2 : [c2] = [.int .i64 a2] := e2
  cases e2
  exact ⟨⟨a0, a1, a2⟩, ⟨A0_0, C0_0, rfl, S0_0⟩, k0, k1, k2⟩
theorem opn_TFieldReader : Opn Try.prog 114 rFieldReader := by
  intro H enc W fuel cs x h
  obtain ⟨xs, n, _, _, hl0, hxl, hf⟩ := DataW.trod_struct Try.underlying114 h
  have hl : cs.length = 3 := hl0.trans (by kernel_rfl)
  clear h hl0
  obtain ⟨c0, c1, c2, rfl⟩ := cut3 hl
  have g0 : DataW.trod enc Try.prog W 0 (fun _ => true) true n 29 (([c0, c1, c2].drop 0).take (Try.prog.cellsOf 29)) = xs[0]? := hf 0 _ rfl
  rw [show Try.prog.cellsOf 29 = 1 from by kernel_rfl] at g0
  have hi0 : 0 < xs.length := by rw [hxl]; decide
  rw [List.getElem?_eq_getElem hi0] at g0
  obtain ⟨a0, e0, k0⟩ := (opn_slice Try.underlying29 (by kernel_rfl) (opn_u8 Try.underlying5)) H enc W n [c0] _ g0
  have g1 : DataW.trod enc Try.prog W 0 (fun _ => true) true n 3 (([c0, c1, c2].drop 1).take (Try.prog.cellsOf 3)) = xs[1]? := hf 1 _ rfl
  rw [show Try.prog.cellsOf 3 = 1 from by kernel_rfl] at g1
  have hi1 : 1 < xs.length := by rw [hxl]; decide
  rw [List.getElem?_eq_getElem hi1] at g1
  obtain ⟨a1, e1, k1⟩ := (opn_i64 Try.underlying3) H enc W n [c1] _ g1
  have g2 : DataW.trod enc Try.prog W 0 (fun _ => true) true n 30 (([c0, c1, c2].drop 2).take (Try.prog.cellsOf 30)) = xs[2]? := hf 2 _ rfl
  rw [show Try.prog.cellsOf 30 = 1 from by kernel_rfl] at g2
  have hi2 : 2 < xs.length := by rw [hxl]; decide
  rw [List.getElem?_eq_getElem hi2] at g2
  obtain ⟨a2, e2, k2⟩ := (opn_i64 Try.underlying30) H enc W n [c2] _ g2
  obtain ⟨A0_0, C0_0, e0, S0_0⟩ := e0
  have e0 : [c0] = [.slice A0_0 a0.length C0_0] := e0
  cases e0
  have e1 : [c1] = [.int .i64 a1] := e1
  cases e1
  have e2 : [c2] = [.int .i64 a2] := e2
  cases e2
  exact ⟨⟨a0, a1, a2⟩, ⟨A0_0, C0_0, rfl, S0_0⟩, k0, k1, k2⟩
theorem opn_TApiFrag : Opn Try.prog 88 rApiFrag := by
  intro H enc W fuel cs x h
  obtain ⟨xs, n, _, _, hl0, hxl, hf⟩ := DataW.trod_struct Try.underlying88 h
  have hl : cs.length = 3 := hl0.trans (by kernel_rfl)
  clear h hl0
  obtain ⟨c0, c1, c2, rfl⟩ := cut3 hl
  have g0 : DataW.trod enc Try.prog W 0 (fun _ => true) true n 3 (([c0, c1, c2].drop 0).take (Try.prog.cellsOf 3)) = xs[0]? := hf 0 _ rfl
  rw [show Try.prog.cellsOf 3 = 1 from by kernel_rfl] at g0
  have hi0 : 0 < xs.length := by rw [hxl]; decide
  rw [List.getElem?_eq_getElem hi0] at g0
  obtain ⟨a0, e0, k0⟩ := (opn_i64 Try.underlying3) H enc W n [c0] _ g0
  have g1 : DataW.trod enc Try.prog W 0 (fun _ => true) true n 3 (([c0, c1, c2].drop 1).take (Try.prog.cellsOf 3)) = xs[1]? := hf 1 _ rfl
  rw [show Try.prog.cellsOf 3 = 1 from by kernel_rfl] at g1
  have hi1 : 1 < xs.length := by rw [hxl]; decide
  rw [List.getElem?_eq_getElem hi1] at g1
  obtain ⟨a1, e1, k1⟩ := (opn_i64 Try.underlying3) H enc W n [c1] _ g1
  have g2 : DataW.trod enc Try.prog W 0 (fun _ => true) true n 3 (([c0, c1, c2].drop 2).take (Try.prog.cellsOf 3)) = xs[2]? := hf 2 _ rfl
  rw [show Try.prog.cellsOf 3 = 1 from by kernel_rfl] at g2
  have hi2 : 2 < xs.length := by rw [hxl]; decide
  rw [List.getElem?_eq_getElem hi2] at g2
  obtain ⟨a2, e2, k2⟩ := (opn_i64 Try.underlying3) H enc W n [c2] _ g2
  have e0 : [c0] = [.int .i64 a0] := e0
  cases e0
  have e1 : [c1] = [.int .i64 a1] := e1
  cases e1
  have e2 : [c2] = [.int .i64 a2] := e2
  cases e2
  exact ⟨⟨a0, a1, a2⟩, rfl, k0, k1, k2⟩
end Go.Proofs.Ytgoedcjjckdlpaa.K
namespace Go.Proofs.Ytgoedcjjckdlpaa.tableSets
open Go.ChangeShapes Go.WideShapes Go.ChangeAt Go.RowKit Go.Proofs.Ytgoedcjjckdlpaa.K
open Go.ChangeMaps (open_string shut_string)
theorem own : ownKnob Try.prog.godebug = none := by kernel_rfl
theorem laidOut : laidOutB Try.prog = true := by kernel_rfl
set_option maxRecDepth 100000 in
theorem lifted (os : Os) (started : os.Started) (H : Type) (enc : TypeId × Value → H) :
    ReturnsInHanded {} Try.checked os 6 .any (Rows.tableSetsSpec.pre6 enc Try.prog Try.f6 Rows.tableSetsRow.domain false) (Rows.tableSetsSpec.post enc Try.prog Try.f6 false true false false) := by
  refine returnsInHanded_of_change_sized (C := Try.checked) own started (by kernel_rfl) Try.func6
    (ChangeSpec.witness6 (enc := enc) (C := Try.checked) false ⟨#[], #[.slice none 0 0, .int .i64 0], []⟩ 8 (by kernel_rfl) (by kernel_rfl) (by kernel_rfl) (by kernel_rfl)) ?_
  intro W base args ds gs before hval0 hW hcnd hsz0 _
  have hsz : (DataW.weightsEach Try.prog (Try.f6.params.toList ++ Rows.tableSetsSpec.plain.varTypes Try.prog) (ds ++ gs)).all (· ≤ reachBytes) = true := hsz0
  have hval : ∀ (j : Nat) t v, Try.f6.params[j]? = some t → args[j]? = some v → Value.okWide Try.prog W .any base t v := hval0
  have hW' := hW
  obtain ⟨p, q, hA0, hV, rfl, hfz, hnd⟩ := hW
  have hA : DataW.TrodAll enc Try.prog W 0 (fun _ => true) true Try.f6.params.toList args.toList ds p := hA0
  rw [Try.params6] at hA hval hsz
  obtain ⟨v0, vs0, d0, ds0, p0, q0, hargs, rfl, rfl, h0, r0⟩ := trodAll_cons hA
  obtain ⟨v1, vs1, d1, ds1, p1, q1, rfl, rfl, rfl, h1, r1⟩ := trodAll_cons r0
  obtain ⟨rfl, rfl, rfl⟩ := trodAll_nil r1
  obtain rfl : args = #[v0, v1] := by cases args; simp_all
  obtain ⟨rfl, rfl⟩ := trodVars_none hV
  obtain ⟨a0, len0, cap0, rfl⟩ := okWide_slice Try.underlying29 (hval 0 29 v0 rfl rfl)
  have k0 := h0
  have lt0 : ∀ x ∈ p0, x.block < W.heap.size := by obtain ⟨m, hm⟩ := k0; exact DataW.trod_lt m _ _ _ hm
  obtain ⟨l0, rfl, S0, w0⟩ := open_sl (opn_slice Try.underlying29 (by kernel_rfl) (opn_u8 Try.underlying5)) h0
  obtain ⟨a1, rfl, rfl, rfl, w1⟩ := open_int Try.underlying3 (hval 1 3 v1 rfl rfl) h1
  clear hA0 hval0 hsz0 hsz
  refine (F.law17_TableSets_c (Has.of W) l0 a0 cap0 S0 a1 (F.TableSets_pure l0 w0 a1 (wf_i64 w1))).mono fun e W' ⟨v, he, hv, hx⟩ => ?_
  subst he
  subst hv
  have bel := hx.below
  exact ⟨_, rfl, _, _, _, [], _, [], hW', trodAll_mk1 (shut_bool Try.underlying4 _), (trodAll_cons_mk (Below.trod laidOut (by kernel_rfl) (of_decide_eq_true (by kernel_rfl)) k0 bel lt0) (trodAll_cons_mk (shut_int Try.underlying3 w1) trodAll_mk0)), rfl, bel.frame _, fun h => by cases h⟩
theorem over : Rows.tableSetsRow.holds Try.pinned (OpenSpec.ofChange Rows.tableSetsSpec) :=
  OpenClaim.holds_of_wide 6 Try.f6 rfl rfl rfl rfl rfl rfl rfl ⟨rfl, rfl, rfl, rfl, rfl⟩ rfl rfl rfl rfl rfl (by kernel_rfl) Try.func6 (by kernel_rfl)
    (of_decide_eq_true (by kernel_rfl)) (by unfold Func.isWrapper; first | (rw [if_pos (by decide +kernel)]; kernel_rfl) | (rw [if_neg (by decide +kernel)]; exact ⟨rfl, rfl⟩))
    (fun os started H enc _ => lifted os started H enc)
theorem proved : Rows.TableSetsSaid := over
#print axioms proved
end Go.Proofs.Ytgoedcjjckdlpaa.tableSets
namespace Go.Proofs.Ytgoedcjjckdlpaa
/-- The row, under a short name, for the claim. -/
theorem tableSets_holds : Rows.TableSetsSaid := tableSets.proved
end Go.Proofs.Ytgoedcjjckdlpaa
