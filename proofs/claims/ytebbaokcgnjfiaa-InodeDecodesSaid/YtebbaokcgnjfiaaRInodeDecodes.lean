/- InodeDecodes holds of every input, as the given statement says. -/
import Derived.Test.YtebbaokcgnjfiaaRows
import Derived.Test.YtebbaokcgnjfiaaM3
import Derived.Test.YtebbaokcgnjfiaaLA5
import Derived.Test.YtebbaokcgnjfiaaXInodeDecodes
set_option linter.unusedVariables false
set_option linter.unusedSimpArgs false
namespace Go.Proofs.Ytebbaokcgnjfiaa.K
open Go Go.RowKit Go.ChangeShapes Go.WideShapes Go.ChangeAt
theorem cut3 {cs : List Value} (h : cs.length = 3) : ∃ c0 c1 c2, cs = [c0, c1, c2] := by
  match cs, h with
  | [c0, c1, c2], _ => exact ⟨_, _, _, rfl⟩
theorem cut18 {cs : List Value} (h : cs.length = 18) : ∃ c0 c1 c2 c3 c4 c5 c6 c7 c8 c9 c10 c11 c12 c13 c14 c15 c16 c17, cs = [c0, c1, c2, c3, c4, c5, c6, c7, c8, c9, c10, c11, c12, c13, c14, c15, c16, c17] := by
  match cs, h with
  | [c0, c1, c2, c3, c4, c5, c6, c7, c8, c9, c10, c11, c12, c13, c14, c15, c16, c17], _ => exact ⟨_, _, _, _, _, _, _, _, _, _, _, _, _, _, _, _, _, _, rfl⟩
theorem opn_TApiInode : Opn Try.prog 46 rApiInode := by
  intro H enc W fuel cs x h
  obtain ⟨xs, n, _, _, hl0, hxl, hf⟩ := DataW.trod_struct Try.underlying46 h
  have hl : cs.length = 18 := hl0.trans (by kernel_rfl)
  clear h hl0
  obtain ⟨c0, c1, c2, c3, c4, c5, c6, c7, c8, c9, c10, c11, c12, c13, c14, c15, c16, c17, rfl⟩ := cut18 hl
  have g0 : DataW.trod enc Try.prog W 0 (fun _ => true) true n 3 (([c0, c1, c2, c3, c4, c5, c6, c7, c8, c9, c10, c11, c12, c13, c14, c15, c16, c17].drop 0).take (Try.prog.cellsOf 3)) = xs[0]? := hf 0 _ rfl
  rw [show Try.prog.cellsOf 3 = 1 from by kernel_rfl] at g0
  have hi0 : 0 < xs.length := by rw [hxl]; decide
  rw [List.getElem?_eq_getElem hi0] at g0
  obtain ⟨a0, e0, k0⟩ := (opn_i64 Try.underlying3) H enc W n [c0] _ g0
  have g1 : DataW.trod enc Try.prog W 0 (fun _ => true) true n 3 (([c0, c1, c2, c3, c4, c5, c6, c7, c8, c9, c10, c11, c12, c13, c14, c15, c16, c17].drop 1).take (Try.prog.cellsOf 3)) = xs[1]? := hf 1 _ rfl
  rw [show Try.prog.cellsOf 3 = 1 from by kernel_rfl] at g1
  have hi1 : 1 < xs.length := by rw [hxl]; decide
  rw [List.getElem?_eq_getElem hi1] at g1
  obtain ⟨a1, e1, k1⟩ := (opn_i64 Try.underlying3) H enc W n [c1] _ g1
  have g2 : DataW.trod enc Try.prog W 0 (fun _ => true) true n 3 (([c0, c1, c2, c3, c4, c5, c6, c7, c8, c9, c10, c11, c12, c13, c14, c15, c16, c17].drop 2).take (Try.prog.cellsOf 3)) = xs[2]? := hf 2 _ rfl
  rw [show Try.prog.cellsOf 3 = 1 from by kernel_rfl] at g2
  have hi2 : 2 < xs.length := by rw [hxl]; decide
  rw [List.getElem?_eq_getElem hi2] at g2
  obtain ⟨a2, e2, k2⟩ := (opn_i64 Try.underlying3) H enc W n [c2] _ g2
  have g3 : DataW.trod enc Try.prog W 0 (fun _ => true) true n 3 (([c0, c1, c2, c3, c4, c5, c6, c7, c8, c9, c10, c11, c12, c13, c14, c15, c16, c17].drop 3).take (Try.prog.cellsOf 3)) = xs[3]? := hf 3 _ rfl
  rw [show Try.prog.cellsOf 3 = 1 from by kernel_rfl] at g3
  have hi3 : 3 < xs.length := by rw [hxl]; decide
  rw [List.getElem?_eq_getElem hi3] at g3
  obtain ⟨a3, e3, k3⟩ := (opn_i64 Try.underlying3) H enc W n [c3] _ g3
  have g4 : DataW.trod enc Try.prog W 0 (fun _ => true) true n 3 (([c0, c1, c2, c3, c4, c5, c6, c7, c8, c9, c10, c11, c12, c13, c14, c15, c16, c17].drop 4).take (Try.prog.cellsOf 3)) = xs[4]? := hf 4 _ rfl
  rw [show Try.prog.cellsOf 3 = 1 from by kernel_rfl] at g4
  have hi4 : 4 < xs.length := by rw [hxl]; decide
  rw [List.getElem?_eq_getElem hi4] at g4
  obtain ⟨a4, e4, k4⟩ := (opn_i64 Try.underlying3) H enc W n [c4] _ g4
  have g5 : DataW.trod enc Try.prog W 0 (fun _ => true) true n 3 (([c0, c1, c2, c3, c4, c5, c6, c7, c8, c9, c10, c11, c12, c13, c14, c15, c16, c17].drop 5).take (Try.prog.cellsOf 3)) = xs[5]? := hf 5 _ rfl
  rw [show Try.prog.cellsOf 3 = 1 from by kernel_rfl] at g5
  have hi5 : 5 < xs.length := by rw [hxl]; decide
  rw [List.getElem?_eq_getElem hi5] at g5
  obtain ⟨a5, e5, k5⟩ := (opn_i64 Try.underlying3) H enc W n [c5] _ g5
  have g6 : DataW.trod enc Try.prog W 0 (fun _ => true) true n 3 (([c0, c1, c2, c3, c4, c5, c6, c7, c8, c9, c10, c11, c12, c13, c14, c15, c16, c17].drop 6).take (Try.prog.cellsOf 3)) = xs[6]? := hf 6 _ rfl
  rw [show Try.prog.cellsOf 3 = 1 from by kernel_rfl] at g6
  have hi6 : 6 < xs.length := by rw [hxl]; decide
  rw [List.getElem?_eq_getElem hi6] at g6
  obtain ⟨a6, e6, k6⟩ := (opn_i64 Try.underlying3) H enc W n [c6] _ g6
  have g7 : DataW.trod enc Try.prog W 0 (fun _ => true) true n 3 (([c0, c1, c2, c3, c4, c5, c6, c7, c8, c9, c10, c11, c12, c13, c14, c15, c16, c17].drop 7).take (Try.prog.cellsOf 3)) = xs[7]? := hf 7 _ rfl
  rw [show Try.prog.cellsOf 3 = 1 from by kernel_rfl] at g7
  have hi7 : 7 < xs.length := by rw [hxl]; decide
  rw [List.getElem?_eq_getElem hi7] at g7
  obtain ⟨a7, e7, k7⟩ := (opn_i64 Try.underlying3) H enc W n [c7] _ g7
  have g8 : DataW.trod enc Try.prog W 0 (fun _ => true) true n 3 (([c0, c1, c2, c3, c4, c5, c6, c7, c8, c9, c10, c11, c12, c13, c14, c15, c16, c17].drop 8).take (Try.prog.cellsOf 3)) = xs[8]? := hf 8 _ rfl
  rw [show Try.prog.cellsOf 3 = 1 from by kernel_rfl] at g8
  have hi8 : 8 < xs.length := by rw [hxl]; decide
  rw [List.getElem?_eq_getElem hi8] at g8
  obtain ⟨a8, e8, k8⟩ := (opn_i64 Try.underlying3) H enc W n [c8] _ g8
  have g9 : DataW.trod enc Try.prog W 0 (fun _ => true) true n 44 (([c0, c1, c2, c3, c4, c5, c6, c7, c8, c9, c10, c11, c12, c13, c14, c15, c16, c17].drop 9).take (Try.prog.cellsOf 44)) = xs[9]? := hf 9 _ rfl
  rw [show Try.prog.cellsOf 44 = 1 from by kernel_rfl] at g9
  have hi9 : 9 < xs.length := by rw [hxl]; decide
  rw [List.getElem?_eq_getElem hi9] at g9
  obtain ⟨a9, e9, k9⟩ := (opn_slice Try.underlying44 (by kernel_rfl) (opn_i64 Try.underlying3)) H enc W n [c9] _ g9
  have g10 : DataW.trod enc Try.prog W 0 (fun _ => true) true n 3 (([c0, c1, c2, c3, c4, c5, c6, c7, c8, c9, c10, c11, c12, c13, c14, c15, c16, c17].drop 10).take (Try.prog.cellsOf 3)) = xs[10]? := hf 10 _ rfl
  rw [show Try.prog.cellsOf 3 = 1 from by kernel_rfl] at g10
  have hi10 : 10 < xs.length := by rw [hxl]; decide
  rw [List.getElem?_eq_getElem hi10] at g10
  obtain ⟨a10, e10, k10⟩ := (opn_i64 Try.underlying3) H enc W n [c10] _ g10
  have g11 : DataW.trod enc Try.prog W 0 (fun _ => true) true n 3 (([c0, c1, c2, c3, c4, c5, c6, c7, c8, c9, c10, c11, c12, c13, c14, c15, c16, c17].drop 11).take (Try.prog.cellsOf 3)) = xs[11]? := hf 11 _ rfl
  rw [show Try.prog.cellsOf 3 = 1 from by kernel_rfl] at g11
  have hi11 : 11 < xs.length := by rw [hxl]; decide
  rw [List.getElem?_eq_getElem hi11] at g11
  obtain ⟨a11, e11, k11⟩ := (opn_i64 Try.underlying3) H enc W n [c11] _ g11
  have g12 : DataW.trod enc Try.prog W 0 (fun _ => true) true n 3 (([c0, c1, c2, c3, c4, c5, c6, c7, c8, c9, c10, c11, c12, c13, c14, c15, c16, c17].drop 12).take (Try.prog.cellsOf 3)) = xs[12]? := hf 12 _ rfl
  rw [show Try.prog.cellsOf 3 = 1 from by kernel_rfl] at g12
  have hi12 : 12 < xs.length := by rw [hxl]; decide
  rw [List.getElem?_eq_getElem hi12] at g12
  obtain ⟨a12, e12, k12⟩ := (opn_i64 Try.underlying3) H enc W n [c12] _ g12
  have g13 : DataW.trod enc Try.prog W 0 (fun _ => true) true n 3 (([c0, c1, c2, c3, c4, c5, c6, c7, c8, c9, c10, c11, c12, c13, c14, c15, c16, c17].drop 13).take (Try.prog.cellsOf 3)) = xs[13]? := hf 13 _ rfl
  rw [show Try.prog.cellsOf 3 = 1 from by kernel_rfl] at g13
  have hi13 : 13 < xs.length := by rw [hxl]; decide
  rw [List.getElem?_eq_getElem hi13] at g13
  obtain ⟨a13, e13, k13⟩ := (opn_i64 Try.underlying3) H enc W n [c13] _ g13
  have g14 : DataW.trod enc Try.prog W 0 (fun _ => true) true n 3 (([c0, c1, c2, c3, c4, c5, c6, c7, c8, c9, c10, c11, c12, c13, c14, c15, c16, c17].drop 14).take (Try.prog.cellsOf 3)) = xs[14]? := hf 14 _ rfl
  rw [show Try.prog.cellsOf 3 = 1 from by kernel_rfl] at g14
  have hi14 : 14 < xs.length := by rw [hxl]; decide
  rw [List.getElem?_eq_getElem hi14] at g14
  obtain ⟨a14, e14, k14⟩ := (opn_i64 Try.underlying3) H enc W n [c14] _ g14
  have g15 : DataW.trod enc Try.prog W 0 (fun _ => true) true n 3 (([c0, c1, c2, c3, c4, c5, c6, c7, c8, c9, c10, c11, c12, c13, c14, c15, c16, c17].drop 15).take (Try.prog.cellsOf 3)) = xs[15]? := hf 15 _ rfl
  rw [show Try.prog.cellsOf 3 = 1 from by kernel_rfl] at g15
  have hi15 : 15 < xs.length := by rw [hxl]; decide
  rw [List.getElem?_eq_getElem hi15] at g15
  obtain ⟨a15, e15, k15⟩ := (opn_i64 Try.underlying3) H enc W n [c15] _ g15
  have g16 : DataW.trod enc Try.prog W 0 (fun _ => true) true n 9 (([c0, c1, c2, c3, c4, c5, c6, c7, c8, c9, c10, c11, c12, c13, c14, c15, c16, c17].drop 16).take (Try.prog.cellsOf 9)) = xs[16]? := hf 16 _ rfl
  rw [show Try.prog.cellsOf 9 = 1 from by kernel_rfl] at g16
  have hi16 : 16 < xs.length := by rw [hxl]; decide
  rw [List.getElem?_eq_getElem hi16] at g16
  obtain ⟨a16, e16, k16⟩ := (opn_str Try.underlying9) H enc W n [c16] _ g16
  have g17 : DataW.trod enc Try.prog W 0 (fun _ => true) true n 3 (([c0, c1, c2, c3, c4, c5, c6, c7, c8, c9, c10, c11, c12, c13, c14, c15, c16, c17].drop 17).take (Try.prog.cellsOf 3)) = xs[17]? := hf 17 _ rfl
  rw [show Try.prog.cellsOf 3 = 1 from by kernel_rfl] at g17
  have hi17 : 17 < xs.length := by rw [hxl]; decide
  rw [List.getElem?_eq_getElem hi17] at g17
  obtain ⟨a17, e17, k17⟩ := (opn_i64 Try.underlying3) H enc W n [c17] _ g17
  have e0 : [c0] = [.int .i64 a0] := e0
  cases e0
  have e1 : [c1] = [.int .i64 a1] := e1
  cases e1
  have e2 : [c2] = [.int .i64 a2] := e2
  cases e2
  have e3 : [c3] = [.int .i64 a3] := e3
  cases e3
  have e4 : [c4] = [.int .i64 a4] := e4
  cases e4
  have e5 : [c5] = [.int .i64 a5] := e5
  cases e5
  have e6 : [c6] = [.int .i64 a6] := e6
  cases e6
  have e7 : [c7] = [.int .i64 a7] := e7
  cases e7
  have e8 : [c8] = [.int .i64 a8] := e8
  cases e8
  obtain ⟨A9_0, C9_0, e9, S9_0⟩ := e9
  have e9 : [c9] = [.slice A9_0 a9.length C9_0] := e9
  cases e9
  have e10 : [c10] = [.int .i64 a10] := e10
  cases e10
  have e11 : [c11] = [.int .i64 a11] := e11
  cases e11
  have e12 : [c12] = [.int .i64 a12] := e12
  cases e12
  have e13 : [c13] = [.int .i64 a13] := e13
  cases e13
  have e14 : [c14] = [.int .i64 a14] := e14
  cases e14
  have e15 : [c15] = [.int .i64 a15] := e15
  cases e15
  obtain ⟨e16, S16_0⟩ := e16
  have e16 : [c16] = [.string ⟨a16.toArray⟩] := e16
  cases e16
  have e17 : [c17] = [.int .i64 a17] := e17
  cases e17
  exact ⟨⟨a0, a1, a2, a3, a4, a5, a6, a7, a8, a9, a10, a11, a12, a13, a14, a15, a16, a17⟩, ⟨A9_0, C9_0, rfl, S9_0, S16_0⟩, k0, k1, k2, k3, k4, k5, k6, k7, k8, k9, k10, k11, k12, k13, k14, k15, k16, k17⟩
theorem opn_TFieldWriter : Opn Try.prog 120 rFieldWriter := by
  intro H enc W fuel cs x h
  obtain ⟨xs, n, _, _, hl0, hxl, hf⟩ := DataW.trod_struct Try.underlying120 h
  have hl : cs.length = 3 := hl0.trans (by kernel_rfl)
  clear h hl0
  obtain ⟨c0, c1, c2, rfl⟩ := cut3 hl
  have g0 : DataW.trod enc Try.prog W 0 (fun _ => true) true n 30 (([c0, c1, c2].drop 0).take (Try.prog.cellsOf 30)) = xs[0]? := hf 0 _ rfl
  rw [show Try.prog.cellsOf 30 = 1 from by kernel_rfl] at g0
  have hi0 : 0 < xs.length := by rw [hxl]; decide
  rw [List.getElem?_eq_getElem hi0] at g0
  obtain ⟨a0, e0, k0⟩ := (opn_slice Try.underlying30 (by kernel_rfl) (opn_u8 Try.underlying5)) H enc W n [c0] _ g0
  have g1 : DataW.trod enc Try.prog W 0 (fun _ => true) true n 3 (([c0, c1, c2].drop 1).take (Try.prog.cellsOf 3)) = xs[1]? := hf 1 _ rfl
  rw [show Try.prog.cellsOf 3 = 1 from by kernel_rfl] at g1
  have hi1 : 1 < xs.length := by rw [hxl]; decide
  rw [List.getElem?_eq_getElem hi1] at g1
  obtain ⟨a1, e1, k1⟩ := (opn_i64 Try.underlying3) H enc W n [c1] _ g1
  have g2 : DataW.trod enc Try.prog W 0 (fun _ => true) true n 31 (([c0, c1, c2].drop 2).take (Try.prog.cellsOf 31)) = xs[2]? := hf 2 _ rfl
  rw [show Try.prog.cellsOf 31 = 1 from by kernel_rfl] at g2
  have hi2 : 2 < xs.length := by rw [hxl]; decide
  rw [List.getElem?_eq_getElem hi2] at g2
  obtain ⟨a2, e2, k2⟩ := (opn_i64 Try.underlying31) H enc W n [c2] _ g2
  obtain ⟨A0_0, C0_0, e0, S0_0⟩ := e0
  have e0 : [c0] = [.slice A0_0 a0.length C0_0] := e0
  cases e0
  have e1 : [c1] = [.int .i64 a1] := e1
  cases e1
  have e2 : [c2] = [.int .i64 a2] := e2
  cases e2
  exact ⟨⟨a0, a1, a2⟩, ⟨A0_0, C0_0, rfl, S0_0⟩, k0, k1, k2⟩
theorem opn_TFieldReader : Opn Try.prog 117 rFieldReader := by
  intro H enc W fuel cs x h
  obtain ⟨xs, n, _, _, hl0, hxl, hf⟩ := DataW.trod_struct Try.underlying117 h
  have hl : cs.length = 3 := hl0.trans (by kernel_rfl)
  clear h hl0
  obtain ⟨c0, c1, c2, rfl⟩ := cut3 hl
  have g0 : DataW.trod enc Try.prog W 0 (fun _ => true) true n 30 (([c0, c1, c2].drop 0).take (Try.prog.cellsOf 30)) = xs[0]? := hf 0 _ rfl
  rw [show Try.prog.cellsOf 30 = 1 from by kernel_rfl] at g0
  have hi0 : 0 < xs.length := by rw [hxl]; decide
  rw [List.getElem?_eq_getElem hi0] at g0
  obtain ⟨a0, e0, k0⟩ := (opn_slice Try.underlying30 (by kernel_rfl) (opn_u8 Try.underlying5)) H enc W n [c0] _ g0
  have g1 : DataW.trod enc Try.prog W 0 (fun _ => true) true n 3 (([c0, c1, c2].drop 1).take (Try.prog.cellsOf 3)) = xs[1]? := hf 1 _ rfl
  rw [show Try.prog.cellsOf 3 = 1 from by kernel_rfl] at g1
  have hi1 : 1 < xs.length := by rw [hxl]; decide
  rw [List.getElem?_eq_getElem hi1] at g1
  obtain ⟨a1, e1, k1⟩ := (opn_i64 Try.underlying3) H enc W n [c1] _ g1
  have g2 : DataW.trod enc Try.prog W 0 (fun _ => true) true n 31 (([c0, c1, c2].drop 2).take (Try.prog.cellsOf 31)) = xs[2]? := hf 2 _ rfl
  rw [show Try.prog.cellsOf 31 = 1 from by kernel_rfl] at g2
  have hi2 : 2 < xs.length := by rw [hxl]; decide
  rw [List.getElem?_eq_getElem hi2] at g2
  obtain ⟨a2, e2, k2⟩ := (opn_i64 Try.underlying31) H enc W n [c2] _ g2
  obtain ⟨A0_0, C0_0, e0, S0_0⟩ := e0
  have e0 : [c0] = [.slice A0_0 a0.length C0_0] := e0
  cases e0
  have e1 : [c1] = [.int .i64 a1] := e1
  cases e1
  have e2 : [c2] = [.int .i64 a2] := e2
  cases e2
  exact ⟨⟨a0, a1, a2⟩, ⟨A0_0, C0_0, rfl, S0_0⟩, k0, k1, k2⟩
end Go.Proofs.Ytebbaokcgnjfiaa.K
namespace Go.Proofs.Ytebbaokcgnjfiaa.inodeDecodes
open Go.ChangeShapes Go.WideShapes Go.ChangeAt Go.RowKit Go.Proofs.Ytebbaokcgnjfiaa.K
open Go.ChangeMaps (open_string shut_string)
theorem own : ownKnob Try.prog.godebug = none := by kernel_rfl
theorem laidOut : laidOutB Try.prog = true := by kernel_rfl
set_option maxRecDepth 100000 in
theorem lifted (os : Os) (started : os.Started) (H : Type) (enc : TypeId × Value → H) :
    ReturnsInHanded {} Try.checked os 9 .any (Rows.inodeDecodesSpec.pre6 enc Try.prog Try.f9 Rows.inodeDecodesRow.domain false) (Rows.inodeDecodesSpec.post enc Try.prog Try.f9 false true false false) := by
  refine returnsInHanded_of_change_sized (C := Try.checked) own started (by kernel_rfl) Try.func9
    (ChangeSpec.witness6 (enc := enc) (C := Try.checked) false ⟨#[], #[.slice none 0 0, .int .i64 0], []⟩ 8 (by kernel_rfl) (by kernel_rfl) (by kernel_rfl) (by kernel_rfl)) ?_
  intro W base args ds gs before hval0 hW hcnd hsz0 _
  have hsz : (DataW.weightsEach Try.prog (Try.f9.params.toList ++ Rows.inodeDecodesSpec.plain.varTypes Try.prog) (ds ++ gs)).all (· ≤ reachBytes) = true := hsz0
  have hval : ∀ (j : Nat) t v, Try.f9.params[j]? = some t → args[j]? = some v → Value.okWide Try.prog W .any base t v := hval0
  have hW' := hW
  obtain ⟨p, q, hA0, hV, rfl, hfz, hnd⟩ := hW
  have hA : DataW.TrodAll enc Try.prog W 0 (fun _ => true) true Try.f9.params.toList args.toList ds p := hA0
  rw [Try.params9] at hA hval hsz
  obtain ⟨v0, vs0, d0, ds0, p0, q0, hargs, rfl, rfl, h0, r0⟩ := trodAll_cons hA
  obtain ⟨v1, vs1, d1, ds1, p1, q1, rfl, rfl, rfl, h1, r1⟩ := trodAll_cons r0
  obtain ⟨rfl, rfl, rfl⟩ := trodAll_nil r1
  obtain rfl : args = #[v0, v1] := by cases args; simp_all
  obtain ⟨rfl, rfl⟩ := trodVars_none hV
  obtain ⟨a0, len0, cap0, rfl⟩ := okWide_slice Try.underlying30 (hval 0 30 v0 rfl rfl)
  have k0 := h0
  have lt0 : ∀ x ∈ p0, x.block < W.heap.size := by obtain ⟨m, hm⟩ := k0; exact DataW.trod_lt m _ _ _ hm
  obtain ⟨l0, rfl, S0, w0⟩ := open_sl (opn_slice Try.underlying30 (by kernel_rfl) (opn_u8 Try.underlying5)) h0
  obtain ⟨a1, rfl, rfl, rfl, w1⟩ := open_int Try.underlying3 (hval 1 3 v1 rfl rfl) h1
  clear hA0 hval0 hsz0 hsz
  refine (F.law15_InodeDecodes_c (Has.of W) l0 a0 cap0 S0 a1 (F.InodeDecodes_pure l0 w0 a1 (wf_i64 w1))).mono fun e W' ⟨v, he, hv, hx⟩ => ?_
  subst he
  subst hv
  have bel := hx.below
  exact ⟨_, rfl, _, _, _, [], _, [], hW', trodAll_mk1 (shut_bool Try.underlying4 _), (trodAll_cons_mk (Below.trod laidOut (by kernel_rfl) (of_decide_eq_true (by kernel_rfl)) k0 bel lt0) (trodAll_cons_mk (shut_int Try.underlying3 w1) trodAll_mk0)), rfl, bel.frame _, fun h => by cases h⟩
theorem over : Rows.inodeDecodesRow.holds Try.pinned (OpenSpec.ofChange Rows.inodeDecodesSpec) :=
  OpenClaim.holds_of_wide 9 Try.f9 rfl rfl rfl rfl rfl rfl rfl ⟨rfl, rfl, rfl, rfl, rfl⟩ rfl rfl rfl rfl rfl (by kernel_rfl) Try.func9 (by kernel_rfl)
    (of_decide_eq_true (by kernel_rfl)) (by unfold Func.isWrapper; first | (rw [if_pos (by decide +kernel)]; kernel_rfl) | (rw [if_neg (by decide +kernel)]; exact ⟨rfl, rfl⟩))
    (fun os started H enc _ => lifted os started H enc)
theorem proved : Rows.InodeDecodesSaid := over
#print axioms proved
end Go.Proofs.Ytebbaokcgnjfiaa.inodeDecodes
namespace Go.Proofs.Ytebbaokcgnjfiaa
/-- The row, under a short name, for the claim. -/
theorem inodeDecodes_holds : Rows.InodeDecodesSaid := inodeDecodes.proved
end Go.Proofs.Ytebbaokcgnjfiaa
