/- Texts in one: RADiffBack. -/
import Derived.Test.YtkleajhiihbefaaGreatDoorRows
import Derived.Test.YtkleajhiihbefaaGreatDoorBK1
import Derived.Test.YtkleajhiihbefaaGreatDoorBK9
import Derived.Test.YtkleajhiihbefaaGreatDoorBK11
import Derived.LaidMore
import Derived.Lay
import Derived.MakeChecks
import Derived.Handed
import Derived.Stop.Joined
import Derived.SevenTiedAt
import Derived.Test.YtkleajhiihbefaaGreatDoorCards
import Derived.Test.YtkleajhiihbefaaGreatDoorTie
set_option linter.unusedVariables false
set_option linter.unusedSimpArgs false
namespace Go.Proofs.YtkleajhiihbefaaGreatDoor.K
open Go Go.RowKit Go.ChangeShapes Go.WideShapes Go.ChangeAt
theorem cut2 {cs : List Value} (h : cs.length = 2) : ∃ c0 c1, cs = [c0, c1] := by
 match cs, h with
 | [c0, c1], _ => exact ⟨_, _, rfl⟩
theorem cut11 {cs : List Value} (h : cs.length = 11) : ∃ c0 c1 c2 c3 c4 c5 c6 c7 c8 c9 c10, cs = [c0, c1, c2, c3, c4, c5, c6, c7, c8, c9, c10] := by
 match cs, h with
 | [c0, c1, c2, c3, c4, c5, c6, c7, c8, c9, c10], _ => exact ⟨_, _, _, _, _, _, _, _, _, _, _, rfl⟩
theorem opn_TApiAttr : Opn Tryz.prog 109 rApiAttr := by
 intro H enc W fuel cs x h
 obtain ⟨xs, n, _, _, hl0, hxl, hf⟩ := DataW.trod_struct Tryz.underlying109 h
 have hl : cs.length = 2 := hl0.trans (by kernel_rfl)
 clear h hl0
 obtain ⟨c0, c1, rfl⟩ := cut2 hl
 have g0 : DataW.trod enc Tryz.prog W 0 (fun _ => true) true n 9 (([c0, c1].drop 0).take (Tryz.prog.cellsOf 9)) = xs[0]? := hf 0 _ rfl
 rw [show Tryz.prog.cellsOf 9 = 1 from by kernel_rfl] at g0
 have hi0 : 0 < xs.length := by rw [hxl]; decide
 rw [List.getElem?_eq_getElem hi0] at g0
 obtain ⟨a0, e0, k0⟩ := (opn_str Tryz.underlying9) H enc W n [c0] _ g0
 have g1 : DataW.trod enc Tryz.prog W 0 (fun _ => true) true n 37 (([c0, c1].drop 1).take (Tryz.prog.cellsOf 37)) = xs[1]? := hf 1 _ rfl
 rw [show Tryz.prog.cellsOf 37 = 1 from by kernel_rfl] at g1
 have hi1 : 1 < xs.length := by rw [hxl]; decide
 rw [List.getElem?_eq_getElem hi1] at g1
 obtain ⟨a1, e1, k1⟩ := (opn_slice Tryz.underlying37 (by kernel_rfl) (opn_u8 Tryz.underlying5)) H enc W n [c1] _ g1
 obtain ⟨e0, S0_0⟩ := e0
 have e0 : [c0] = [.string ⟨a0.toArray⟩] := e0
 cases e0
 obtain ⟨A1_0, C1_0, e1, S1_0⟩ := e1
 have e1 : [c1] = [.slice A1_0 a1.length C1_0] := e1
 cases e1
 exact ⟨⟨a0, a1⟩, ⟨A1_0, C1_0, rfl, S0_0, S1_0⟩, k0, k1⟩
theorem opn_TApiEntry : Opn Tryz.prog 40 rApiEntry := by
 intro H enc W fuel cs x h
 obtain ⟨xs, n, _, _, hl0, hxl, hf⟩ := DataW.trod_struct Tryz.underlying40 h
 have hl : cs.length = 11 := hl0.trans (by kernel_rfl)
 clear h hl0
 obtain ⟨c0, c1, c2, c3, c4, c5, c6, c7, c8, c9, c10, rfl⟩ := cut11 hl
 have g0 : DataW.trod enc Tryz.prog W 0 (fun _ => true) true n 9 (([c0, c1, c2, c3, c4, c5, c6, c7, c8, c9, c10].drop 0).take (Tryz.prog.cellsOf 9)) = xs[0]? := hf 0 _ rfl
 rw [show Tryz.prog.cellsOf 9 = 1 from by kernel_rfl] at g0
 have hi0 : 0 < xs.length := by rw [hxl]; decide
 rw [List.getElem?_eq_getElem hi0] at g0
 obtain ⟨a0, e0, k0⟩ := (opn_str Tryz.underlying9) H enc W n [c0] _ g0
 have g1 : DataW.trod enc Tryz.prog W 0 (fun _ => true) true n 3 (([c0, c1, c2, c3, c4, c5, c6, c7, c8, c9, c10].drop 1).take (Tryz.prog.cellsOf 3)) = xs[1]? := hf 1 _ rfl
 rw [show Tryz.prog.cellsOf 3 = 1 from by kernel_rfl] at g1
 have hi1 : 1 < xs.length := by rw [hxl]; decide
 rw [List.getElem?_eq_getElem hi1] at g1
 obtain ⟨a1, e1, k1⟩ := (opn_i64 Tryz.underlying3) H enc W n [c1] _ g1
 have g2 : DataW.trod enc Tryz.prog W 0 (fun _ => true) true n 3 (([c0, c1, c2, c3, c4, c5, c6, c7, c8, c9, c10].drop 2).take (Tryz.prog.cellsOf 3)) = xs[2]? := hf 2 _ rfl
 rw [show Tryz.prog.cellsOf 3 = 1 from by kernel_rfl] at g2
 have hi2 : 2 < xs.length := by rw [hxl]; decide
 rw [List.getElem?_eq_getElem hi2] at g2
 obtain ⟨a2, e2, k2⟩ := (opn_i64 Tryz.underlying3) H enc W n [c2] _ g2
 have g3 : DataW.trod enc Tryz.prog W 0 (fun _ => true) true n 3 (([c0, c1, c2, c3, c4, c5, c6, c7, c8, c9, c10].drop 3).take (Tryz.prog.cellsOf 3)) = xs[3]? := hf 3 _ rfl
 rw [show Tryz.prog.cellsOf 3 = 1 from by kernel_rfl] at g3
 have hi3 : 3 < xs.length := by rw [hxl]; decide
 rw [List.getElem?_eq_getElem hi3] at g3
 obtain ⟨a3, e3, k3⟩ := (opn_i64 Tryz.underlying3) H enc W n [c3] _ g3
 have g4 : DataW.trod enc Tryz.prog W 0 (fun _ => true) true n 3 (([c0, c1, c2, c3, c4, c5, c6, c7, c8, c9, c10].drop 4).take (Tryz.prog.cellsOf 3)) = xs[4]? := hf 4 _ rfl
 rw [show Tryz.prog.cellsOf 3 = 1 from by kernel_rfl] at g4
 have hi4 : 4 < xs.length := by rw [hxl]; decide
 rw [List.getElem?_eq_getElem hi4] at g4
 obtain ⟨a4, e4, k4⟩ := (opn_i64 Tryz.underlying3) H enc W n [c4] _ g4
 have g5 : DataW.trod enc Tryz.prog W 0 (fun _ => true) true n 3 (([c0, c1, c2, c3, c4, c5, c6, c7, c8, c9, c10].drop 5).take (Tryz.prog.cellsOf 3)) = xs[5]? := hf 5 _ rfl
 rw [show Tryz.prog.cellsOf 3 = 1 from by kernel_rfl] at g5
 have hi5 : 5 < xs.length := by rw [hxl]; decide
 rw [List.getElem?_eq_getElem hi5] at g5
 obtain ⟨a5, e5, k5⟩ := (opn_i64 Tryz.underlying3) H enc W n [c5] _ g5
 have g6 : DataW.trod enc Tryz.prog W 0 (fun _ => true) true n 3 (([c0, c1, c2, c3, c4, c5, c6, c7, c8, c9, c10].drop 6).take (Tryz.prog.cellsOf 3)) = xs[6]? := hf 6 _ rfl
 rw [show Tryz.prog.cellsOf 3 = 1 from by kernel_rfl] at g6
 have hi6 : 6 < xs.length := by rw [hxl]; decide
 rw [List.getElem?_eq_getElem hi6] at g6
 obtain ⟨a6, e6, k6⟩ := (opn_i64 Tryz.underlying3) H enc W n [c6] _ g6
 have g7 : DataW.trod enc Tryz.prog W 0 (fun _ => true) true n 37 (([c0, c1, c2, c3, c4, c5, c6, c7, c8, c9, c10].drop 7).take (Tryz.prog.cellsOf 37)) = xs[7]? := hf 7 _ rfl
 rw [show Tryz.prog.cellsOf 37 = 1 from by kernel_rfl] at g7
 have hi7 : 7 < xs.length := by rw [hxl]; decide
 rw [List.getElem?_eq_getElem hi7] at g7
 obtain ⟨a7, e7, k7⟩ := (opn_slice Tryz.underlying37 (by kernel_rfl) (opn_u8 Tryz.underlying5)) H enc W n [c7] _ g7
 have g8 : DataW.trod enc Tryz.prog W 0 (fun _ => true) true n 9 (([c0, c1, c2, c3, c4, c5, c6, c7, c8, c9, c10].drop 8).take (Tryz.prog.cellsOf 9)) = xs[8]? := hf 8 _ rfl
 rw [show Tryz.prog.cellsOf 9 = 1 from by kernel_rfl] at g8
 have hi8 : 8 < xs.length := by rw [hxl]; decide
 rw [List.getElem?_eq_getElem hi8] at g8
 obtain ⟨a8, e8, k8⟩ := (opn_str Tryz.underlying9) H enc W n [c8] _ g8
 have g9 : DataW.trod enc Tryz.prog W 0 (fun _ => true) true n 3 (([c0, c1, c2, c3, c4, c5, c6, c7, c8, c9, c10].drop 9).take (Tryz.prog.cellsOf 3)) = xs[9]? := hf 9 _ rfl
 rw [show Tryz.prog.cellsOf 3 = 1 from by kernel_rfl] at g9
 have hi9 : 9 < xs.length := by rw [hxl]; decide
 rw [List.getElem?_eq_getElem hi9] at g9
 obtain ⟨a9, e9, k9⟩ := (opn_i64 Tryz.underlying3) H enc W n [c9] _ g9
 have g10 : DataW.trod enc Tryz.prog W 0 (fun _ => true) true n 38 (([c0, c1, c2, c3, c4, c5, c6, c7, c8, c9, c10].drop 10).take (Tryz.prog.cellsOf 38)) = xs[10]? := hf 10 _ rfl
 rw [show Tryz.prog.cellsOf 38 = 1 from by kernel_rfl] at g10
 have hi10 : 10 < xs.length := by rw [hxl]; decide
 rw [List.getElem?_eq_getElem hi10] at g10
 obtain ⟨a10, e10, k10⟩ := (opn_slice Tryz.underlying38 (by kernel_rfl) opn_TApiAttr) H enc W n [c10] _ g10
 obtain ⟨e0, S0_0⟩ := e0
 have e0 : [c0] = [.string ⟨a0.toArray⟩] := e0
 cases e0
 have e1 : [c1] = [.int .i64 a1] := e1
 cases e1
 have e2 : [c2] = [.int .i64 a2] := e2
 cases e2
 have e3 : [c3] = [.int .i64 a3] := e3
 cases e3
 have e4 : [c4] = [.int .i64 a4] := e4
 cases e4
 have e5 : [c5] = [.int .i64 a5] := e5
 cases e5
 have e6 : [c6] = [.int .i64 a6] := e6
 cases e6
 obtain ⟨A7_0, C7_0, e7, S7_0⟩ := e7
 have e7 : [c7] = [.slice A7_0 a7.length C7_0] := e7
 cases e7
 obtain ⟨e8, S8_0⟩ := e8
 have e8 : [c8] = [.string ⟨a8.toArray⟩] := e8
 cases e8
 have e9 : [c9] = [.int .i64 a9] := e9
 cases e9
 obtain ⟨A10_0, C10_0, e10, S10_0⟩ := e10
 have e10 : [c10] = [.slice A10_0 a10.length C10_0] := e10
 cases e10
 exact ⟨⟨a0, a1, a2, a3, a4, a5, a6, a7, a8, a9, a10⟩, ⟨A7_0, C7_0, A10_0, C10_0, rfl, S0_0, S7_0, S8_0, S10_0⟩, k0, k1, k2, k3, k4, k5, k6, k7, k8, k9, k10⟩
end Go.Proofs.YtkleajhiihbefaaGreatDoor.K
namespace Go.Proofs.YtkleajhiihbefaaGreatDoor.diffBack
open Go.ChangeShapes Go.WideShapes Go.ChangeAt Go.RowKit Go.Proofs.YtkleajhiihbefaaGreatDoor.K
open Go.ChangeMaps (open_string shut_string)
theorem own : ownKnob Tryz.prog.godebug = none := by kernel_rfl
theorem laidOut : laidOutB Tryz.prog = true := by kernel_rfl
theorem door_met (os : Os) (args : Array Value) : laidMetH Tryz.prog Rows.diffBackRow.laid ((World.laidAll Tryz.prog os Rows.diffBackRow.laid).forCall (fun _ _ => 0) ⟨#[], args, []⟩).memory := by
 rw [MakeChecks.laidMetH_plain _ _ _ (by kernel_rfl)]; exact laidMet_laidAll _ (by kernel_rfl) (by kernel_rfl)
theorem of_laid {W : World} (h : laidMetH Tryz.prog Rows.diffBackRow.laid W) : True := by
 trivial
set_option maxRecDepth 100000 in
theorem lifted (os : Os) (started : os.Started) (H : Type) (enc : TypeId × Value → H) :
  ReturnsInHanded {} Tryz.checked os 8 .any (fun w args => (Rows.diffBackSpec.pre enc Tryz.prog Tryz.f8 [] false w args ∧ laidMetH Tryz.prog Rows.diffBackRow.laid w) ∧ sizedMet enc Tryz.prog Tryz.f8 (OpenSpec.ofChange Rows.diffBackSpec) false w args) (Rows.diffBackSpec.post enc Tryz.prog Tryz.f8 false true false false) := by
 refine returnsInHanded_of_change_and (C := Tryz.checked) (X := fun w _ => laidMetH Tryz.prog Rows.diffBackRow.laid w) (fun _ _ _ hh h => h.of_heap hh) own started (by kernel_rfl) Tryz.func8
  (ChangeSpec.witness_shaped (enc := enc) (C := Tryz.checked) (os := os) (X := fun w _ => laidMetH Tryz.prog Rows.diffBackRow.laid w) false (World.laidAll Tryz.prog os Rows.diffBackRow.laid) #[.slice none 0 0, .slice none 0 0] 8 (World.laidAll_os _ _ _) (World.shaped_of_ZipB (by kernel_rfl) (by kernel_rfl)) (by kernel_rfl) (by kernel_rfl) (by kernel_rfl) (door_met os _)) ?_
 intro W base args ds gs before hval0 hW hcnd hsz0 hL _
 obtain ⟨_⟩ := of_laid hL
 have hsz : (DataW.weightsEach Tryz.prog (Tryz.f8.params.toList ++ Rows.diffBackSpec.plain.varTypes Tryz.prog) (ds ++ gs)).all (· ≤ reachBytes) = true := hsz0
 have hval : ∀ (j : Nat) t v, Tryz.f8.params[j]? = some t → args[j]? = some v → Value.okWide Tryz.prog W .any base t v := hval0
 have hW' := hW
 obtain ⟨p, q, hA0, hV, rfl, hfz, hnd⟩ := hW
 have hA : DataW.TrodAll enc Tryz.prog W 0 (fun _ => true) true Tryz.f8.params.toList args.toList ds p := hA0
 rw [Tryz.params8] at hA hval hsz
 obtain ⟨v0, vs0, d0, ds0, p0, q0, hargs, rfl, rfl, h0, r0⟩ := trodAll_cons hA
 obtain ⟨v1, vs1, d1, ds1, p1, q1, rfl, rfl, rfl, h1, r1⟩ := trodAll_cons r0
 obtain ⟨rfl, rfl, rfl⟩ := trodAll_nil r1
 obtain rfl : args = #[v0, v1] := by cases args; simp_all
 obtain ⟨rfl, rfl⟩ := trodVars_none hV
 obtain ⟨a0, len0, cap0, rfl⟩ := okWide_slice Tryz.underlying22 (hval 0 22 v0 rfl rfl)
 have k0 := h0
 have lt0 : ∀ x ∈ p0, x.block < W.heap.size := by obtain ⟨m, hm⟩ := k0; exact DataW.trod_lt m _ _ _ hm
 obtain ⟨l0, rfl, S0, w0⟩ := open_sl (opn_slice Tryz.underlying22 (by kernel_rfl) opn_TApiEntry) h0
 obtain ⟨a1, len1, cap1, rfl⟩ := okWide_slice Tryz.underlying22 (hval 1 22 v1 rfl rfl)
 have k1 := h1
 have lt1 : ∀ x ∈ p1, x.block < W.heap.size := by obtain ⟨m, hm⟩ := k1; exact DataW.trod_lt m _ _ _ hm
 obtain ⟨l1, rfl, S1, w1⟩ := open_sl (opn_slice Tryz.underlying22 (by kernel_rfl) opn_TApiEntry) h1
 clear hA0 hval0 hsz0 hsz
 refine (F.law29_DiffBack_c (Has.of W) l0 a0 cap0 S0 l1 a1 cap1 S1 (F.DiffBack_pure l0 w0 l1 w1)).mono fun e W' ⟨v, he, hv, hx⟩ => ?_
 subst he
 subst hv
 have bel := hx.below
 exact ⟨_, rfl, _, _, _, [], _, [], hW', trodAll_mk1 (shut_bool Tryz.underlying4 _), (trodAll_cons_mk (Below.trod laidOut (by kernel_rfl) (of_decide_eq_true (by kernel_rfl)) k0 bel lt0) (trodAll_cons_mk (Below.trod laidOut (by kernel_rfl) (of_decide_eq_true (by kernel_rfl)) k1 bel lt1) trodAll_mk0)), rfl, bel.frame _, fun h => by cases h⟩
theorem and_tt {a b : Bool} (h : a = true) (k : b = true) : (a && b) = true := by rw [h, k]; rfl
set_option maxHeartbeats 8000000 in
theorem facts : joinedFacts Tryz.pinned.checked.prog 8 Tryz.f8 Rows.diffBackSpec Rows.diffBackRow = true := by
 unfold joinedFacts
 repeat' with_reducible apply and_tt
 all_goals as_aux_lemma => kernel_rfl
theorem over : Rows.diffBackRow.holds Tryz.pinned (OpenSpec.ofChange Rows.diffBackSpec) :=
 OpenClaim.holds_of_wide 8 Tryz.f8 rfl rfl rfl rfl rfl rfl rfl ⟨rfl, rfl, rfl, rfl, rfl⟩ rfl rfl rfl rfl rfl (by as_aux_lemma => kernel_rfl) Tryz.func8 facts
  (of_decide_eq_true (by as_aux_lemma => kernel_rfl)) (by unfold Func.isWrapper; first | (rw [if_pos (by decide +kernel)]; kernel_rfl) | (rw [if_neg (by decide +kernel)]; exact ⟨rfl, rfl⟩))
  (fun os started H enc _ => lifted os started H enc)
theorem proved : Rows.DiffBackSaid := over
#print axioms proved
end Go.Proofs.YtkleajhiihbefaaGreatDoor.diffBack
namespace Go.Proofs.YtkleajhiihbefaaGreatDoor
theorem diffBack_holds : Rows.DiffBackSaid := diffBack.proved
end Go.Proofs.YtkleajhiihbefaaGreatDoor
