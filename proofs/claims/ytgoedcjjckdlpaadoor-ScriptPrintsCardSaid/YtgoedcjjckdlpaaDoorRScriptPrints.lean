/- ScriptPrints holds of every input, as the given statement says. -/
import Derived.Test.YtgoedcjjckdlpaaDoorRows
import Derived.Test.YtgoedcjjckdlpaaDoorM3
import Derived.Test.YtgoedcjjckdlpaaDoorM6
import Derived.Test.YtgoedcjjckdlpaaDoorLS5
import Derived.Test.YtgoedcjjckdlpaaDoorXScriptPrints
import Derived.LaidMore
import Derived.MakeChecks
import Derived.Handed
import Derived.Stop.Joined
import Derived.SevenTiedAt
import Derived.Test.YtgoedcjjckdlpaaDoorCards
import Derived.Test.YtgoedcjjckdlpaaDoorTie
set_option linter.unusedVariables false
set_option linter.unusedSimpArgs false
namespace Go.Proofs.YtgoedcjjckdlpaaDoor.K
open Go Go.RowKit Go.ChangeShapes Go.WideShapes Go.ChangeAt
theorem cut2 {cs : List Value} (h : cs.length = 2) : ∃ c0 c1, cs = [c0, c1] := by
  match cs, h with
  | [c0, c1], _ => exact ⟨_, _, rfl⟩
theorem cut6 {cs : List Value} (h : cs.length = 6) : ∃ c0 c1 c2 c3 c4 c5, cs = [c0, c1, c2, c3, c4, c5] := by
  match cs, h with
  | [c0, c1, c2, c3, c4, c5], _ => exact ⟨_, _, _, _, _, _, rfl⟩
theorem cut12 {cs : List Value} (h : cs.length = 12) : ∃ c0 c1 c2 c3 c4 c5 c6 c7 c8 c9 c10 c11, cs = [c0, c1, c2, c3, c4, c5, c6, c7, c8, c9, c10, c11] := by
  match cs, h with
  | [c0, c1, c2, c3, c4, c5, c6, c7, c8, c9, c10, c11], _ => exact ⟨_, _, _, _, _, _, _, _, _, _, _, _, rfl⟩
theorem opn_TApiCrash : Opn Tryd.prog 25 rApiCrash := by
  intro H enc W fuel cs x h
  obtain ⟨xs, n, _, _, hl0, hxl, hf⟩ := DataW.trod_struct Tryd.underlying25 h
  have hl : cs.length = 2 := hl0.trans (by kernel_rfl)
  clear h hl0
  obtain ⟨c0, c1, rfl⟩ := cut2 hl
  have g0 : DataW.trod enc Tryd.prog W 0 (fun _ => true) true n 3 (([c0, c1].drop 0).take (Tryd.prog.cellsOf 3)) = xs[0]? := hf 0 _ rfl
  rw [show Tryd.prog.cellsOf 3 = 1 from by kernel_rfl] at g0
  have hi0 : 0 < xs.length := by rw [hxl]; decide
  rw [List.getElem?_eq_getElem hi0] at g0
  obtain ⟨a0, e0, k0⟩ := (opn_i64 Tryd.underlying3) H enc W n [c0] _ g0
  have g1 : DataW.trod enc Tryd.prog W 0 (fun _ => true) true n 23 (([c0, c1].drop 1).take (Tryd.prog.cellsOf 23)) = xs[1]? := hf 1 _ rfl
  rw [show Tryd.prog.cellsOf 23 = 1 from by kernel_rfl] at g1
  have hi1 : 1 < xs.length := by rw [hxl]; decide
  rw [List.getElem?_eq_getElem hi1] at g1
  obtain ⟨a1, e1, k1⟩ := (opn_slice Tryd.underlying23 (by kernel_rfl) (opn_u8 Tryd.underlying5)) H enc W n [c1] _ g1
  have e0 : [c0] = [.int .i64 a0] := e0
  cases e0
  obtain ⟨A1_0, C1_0, e1, S1_0⟩ := e1
  have e1 : [c1] = [.slice A1_0 a1.length C1_0] := e1
  cases e1
  exact ⟨⟨a0, a1⟩, ⟨A1_0, C1_0, rfl, S1_0⟩, k0, k1⟩
theorem opn_TApiCall : Opn Tryd.prog 27 rApiCall := by
  intro H enc W fuel cs x h
  obtain ⟨xs, n, _, _, hl0, hxl, hf⟩ := DataW.trod_struct Tryd.underlying27 h
  have hl : cs.length = 6 := hl0.trans (by kernel_rfl)
  clear h hl0
  obtain ⟨c0, c1, c2, c3, c4, c5, rfl⟩ := cut6 hl
  have g0 : DataW.trod enc Tryd.prog W 0 (fun _ => true) true n 3 (([c0, c1, c2, c3, c4, c5].drop 0).take (Tryd.prog.cellsOf 3)) = xs[0]? := hf 0 _ rfl
  rw [show Tryd.prog.cellsOf 3 = 1 from by kernel_rfl] at g0
  have hi0 : 0 < xs.length := by rw [hxl]; decide
  rw [List.getElem?_eq_getElem hi0] at g0
  obtain ⟨a0, e0, k0⟩ := (opn_i64 Tryd.underlying3) H enc W n [c0] _ g0
  have g1 : DataW.trod enc Tryd.prog W 0 (fun _ => true) true n 3 (([c0, c1, c2, c3, c4, c5].drop 1).take (Tryd.prog.cellsOf 3)) = xs[1]? := hf 1 _ rfl
  rw [show Tryd.prog.cellsOf 3 = 1 from by kernel_rfl] at g1
  have hi1 : 1 < xs.length := by rw [hxl]; decide
  rw [List.getElem?_eq_getElem hi1] at g1
  obtain ⟨a1, e1, k1⟩ := (opn_i64 Tryd.underlying3) H enc W n [c1] _ g1
  have g2 : DataW.trod enc Tryd.prog W 0 (fun _ => true) true n 3 (([c0, c1, c2, c3, c4, c5].drop 2).take (Tryd.prog.cellsOf 3)) = xs[2]? := hf 2 _ rfl
  rw [show Tryd.prog.cellsOf 3 = 1 from by kernel_rfl] at g2
  have hi2 : 2 < xs.length := by rw [hxl]; decide
  rw [List.getElem?_eq_getElem hi2] at g2
  obtain ⟨a2, e2, k2⟩ := (opn_i64 Tryd.underlying3) H enc W n [c2] _ g2
  have g3 : DataW.trod enc Tryd.prog W 0 (fun _ => true) true n 3 (([c0, c1, c2, c3, c4, c5].drop 3).take (Tryd.prog.cellsOf 3)) = xs[3]? := hf 3 _ rfl
  rw [show Tryd.prog.cellsOf 3 = 1 from by kernel_rfl] at g3
  have hi3 : 3 < xs.length := by rw [hxl]; decide
  rw [List.getElem?_eq_getElem hi3] at g3
  obtain ⟨a3, e3, k3⟩ := (opn_i64 Tryd.underlying3) H enc W n [c3] _ g3
  have g4 : DataW.trod enc Tryd.prog W 0 (fun _ => true) true n 9 (([c0, c1, c2, c3, c4, c5].drop 4).take (Tryd.prog.cellsOf 9)) = xs[4]? := hf 4 _ rfl
  rw [show Tryd.prog.cellsOf 9 = 1 from by kernel_rfl] at g4
  have hi4 : 4 < xs.length := by rw [hxl]; decide
  rw [List.getElem?_eq_getElem hi4] at g4
  obtain ⟨a4, e4, k4⟩ := (opn_str Tryd.underlying9) H enc W n [c4] _ g4
  have g5 : DataW.trod enc Tryd.prog W 0 (fun _ => true) true n 4 (([c0, c1, c2, c3, c4, c5].drop 5).take (Tryd.prog.cellsOf 4)) = xs[5]? := hf 5 _ rfl
  rw [show Tryd.prog.cellsOf 4 = 1 from by kernel_rfl] at g5
  have hi5 : 5 < xs.length := by rw [hxl]; decide
  rw [List.getElem?_eq_getElem hi5] at g5
  obtain ⟨a5, e5, k5⟩ := (opn_bool Tryd.underlying4) H enc W n [c5] _ g5
  have e0 : [c0] = [.int .i64 a0] := e0
  cases e0
  have e1 : [c1] = [.int .i64 a1] := e1
  cases e1
  have e2 : [c2] = [.int .i64 a2] := e2
  cases e2
  have e3 : [c3] = [.int .i64 a3] := e3
  cases e3
  obtain ⟨e4, S4_0⟩ := e4
  have e4 : [c4] = [.string ⟨a4.toArray⟩] := e4
  cases e4
  have e5 : [c5] = [.bool a5] := e5
  cases e5
  exact ⟨⟨a0, a1, a2, a3, a4, a5⟩, ⟨rfl, S4_0⟩, k0, k1, k2, k3, k4, k5⟩
theorem opn_TApiAct : Opn Tryd.prog 29 rApiAct := by
  intro H enc W fuel cs x h
  obtain ⟨xs, n, _, _, hl0, hxl, hf⟩ := DataW.trod_struct Tryd.underlying29 h
  have hl : cs.length = 12 := hl0.trans (by kernel_rfl)
  clear h hl0
  obtain ⟨c0, c1, c2, c3, c4, c5, c6, c7, c8, c9, c10, c11, rfl⟩ := cut12 hl
  have g0 : DataW.trod enc Tryd.prog W 0 (fun _ => true) true n 3 (([c0, c1, c2, c3, c4, c5, c6, c7, c8, c9, c10, c11].drop 0).take (Tryd.prog.cellsOf 3)) = xs[0]? := hf 0 _ rfl
  rw [show Tryd.prog.cellsOf 3 = 1 from by kernel_rfl] at g0
  have hi0 : 0 < xs.length := by rw [hxl]; decide
  rw [List.getElem?_eq_getElem hi0] at g0
  obtain ⟨a0, e0, k0⟩ := (opn_i64 Tryd.underlying3) H enc W n [c0] _ g0
  have g1 : DataW.trod enc Tryd.prog W 0 (fun _ => true) true n 3 (([c0, c1, c2, c3, c4, c5, c6, c7, c8, c9, c10, c11].drop 1).take (Tryd.prog.cellsOf 3)) = xs[1]? := hf 1 _ rfl
  rw [show Tryd.prog.cellsOf 3 = 1 from by kernel_rfl] at g1
  have hi1 : 1 < xs.length := by rw [hxl]; decide
  rw [List.getElem?_eq_getElem hi1] at g1
  obtain ⟨a1, e1, k1⟩ := (opn_i64 Tryd.underlying3) H enc W n [c1] _ g1
  have g2 : DataW.trod enc Tryd.prog W 0 (fun _ => true) true n 22 (([c0, c1, c2, c3, c4, c5, c6, c7, c8, c9, c10, c11].drop 2).take (Tryd.prog.cellsOf 22)) = xs[2]? := hf 2 _ rfl
  rw [show Tryd.prog.cellsOf 22 = 1 from by kernel_rfl] at g2
  have hi2 : 2 < xs.length := by rw [hxl]; decide
  rw [List.getElem?_eq_getElem hi2] at g2
  obtain ⟨a2, e2, k2⟩ := (opn_u64 Tryd.underlying22) H enc W n [c2] _ g2
  have g3 : DataW.trod enc Tryd.prog W 0 (fun _ => true) true n 23 (([c0, c1, c2, c3, c4, c5, c6, c7, c8, c9, c10, c11].drop 3).take (Tryd.prog.cellsOf 23)) = xs[3]? := hf 3 _ rfl
  rw [show Tryd.prog.cellsOf 23 = 1 from by kernel_rfl] at g3
  have hi3 : 3 < xs.length := by rw [hxl]; decide
  rw [List.getElem?_eq_getElem hi3] at g3
  obtain ⟨a3, e3, k3⟩ := (opn_slice Tryd.underlying23 (by kernel_rfl) (opn_u8 Tryd.underlying5)) H enc W n [c3] _ g3
  have g4 : DataW.trod enc Tryd.prog W 0 (fun _ => true) true n 25 (([c0, c1, c2, c3, c4, c5, c6, c7, c8, c9, c10, c11].drop 4).take (Tryd.prog.cellsOf 25)) = xs[4]? := hf 4 _ rfl
  rw [show Tryd.prog.cellsOf 25 = 2 from by kernel_rfl] at g4
  have hi4 : 4 < xs.length := by rw [hxl]; decide
  rw [List.getElem?_eq_getElem hi4] at g4
  obtain ⟨a4, e4, k4⟩ := opn_TApiCrash H enc W n [c4, c5] _ g4
  have g5 : DataW.trod enc Tryd.prog W 0 (fun _ => true) true n 27 (([c0, c1, c2, c3, c4, c5, c6, c7, c8, c9, c10, c11].drop 6).take (Tryd.prog.cellsOf 27)) = xs[5]? := hf 5 _ rfl
  rw [show Tryd.prog.cellsOf 27 = 6 from by kernel_rfl] at g5
  have hi5 : 5 < xs.length := by rw [hxl]; decide
  rw [List.getElem?_eq_getElem hi5] at g5
  obtain ⟨a5, e5, k5⟩ := opn_TApiCall H enc W n [c6, c7, c8, c9, c10, c11] _ g5
  have e0 : [c0] = [.int .i64 a0] := e0
  cases e0
  have e1 : [c1] = [.int .i64 a1] := e1
  cases e1
  have e2 : [c2] = [.int .u64 (a2.toNat : Int)] := e2
  cases e2
  obtain ⟨A3_0, C3_0, e3, S3_0⟩ := e3
  have e3 : [c3] = [.slice A3_0 a3.length C3_0] := e3
  cases e3
  obtain ⟨A4_1, C4_1, e4, S4_1⟩ := e4
  have e4 : [c4, c5] = [.int .i64 a4.After, .slice A4_1 a4.Torn.length C4_1] := e4
  cases e4
  obtain ⟨e5, S5_4⟩ := e5
  have e5 : [c6, c7, c8, c9, c10, c11] = [.int .i64 a5.Do, .int .i64 a5.Ino, .int .i64 a5.A, .int .i64 a5.B, .string ⟨a5.Name.toArray⟩, .bool a5.On] := e5
  cases e5
  exact ⟨⟨a0, a1, a2, a3, a4, a5⟩, ⟨A3_0, C3_0, A4_1, C4_1, rfl, S3_0, S4_1, S5_4⟩, k0, k1, k2, k3, k4, k5⟩
end Go.Proofs.YtgoedcjjckdlpaaDoor.K
namespace Go.Proofs.YtgoedcjjckdlpaaDoor.scriptPrints
open Go.ChangeShapes Go.WideShapes Go.ChangeAt Go.RowKit Go.Proofs.YtgoedcjjckdlpaaDoor.K
open Go.ChangeMaps (open_string shut_string)
theorem own : ownKnob Tryd.prog.godebug = none := by kernel_rfl
theorem laidOut : laidOutB Tryd.prog = true := by kernel_rfl
theorem door_met (os : Os) (args : Array Value) : laidMetH Tryd.prog Rows.scriptPrintsRow.laid ((World.doorLaid Tryd.prog 400 os).forCall (fun _ _ => 0) ⟨#[], args, []⟩).memory :=
  laidMetH_of_parts3 (fuel := 8) (laidMet_of_run' 8 (by kernel_rfl) (by kernel_rfl)) (by kernel_rfl) (by kernel_rfl)
theorem of_laid {W : World} (h : laidMetH Tryd.prog Rows.scriptPrintsRow.laid W) : TabM (memOf W) 1 (F.tab0.map fU64) ∧ TabM (memOf W) 3 (F.tab2.map fU8) := by
  rw [MakeChecks.laidMetH_plain _ _ _ (by kernel_rfl)] at h
  obtain ⟨ps, h, _, _⟩ := h
  obtain ⟨g2, t2, cs2, f2, p2, q2, hg2, ht2, hv2, hd2, h, _⟩ := h
  obtain ⟨g3, t3, cs3, f3, p3, q3, hg3, ht3, hv3, hd3, h, _⟩ := h
  obtain ⟨g1, t1, cs1, f1, p1, q1, hg1, ht1, hv1, hd1, h, _⟩ := h
  have eg1 : g1 = 1 := Option.some.inj (hg1.symm.trans (by kernel_rfl))
  subst eg1
  have et1 : t1 = 115 := Option.some.inj (ht1.symm.trans (by kernel_rfl))
  subst et1
  have ed1 : (Rows.laid_internal_strconv_uint64pow10 : DataW Unit) = .agg ((F.tab0.map fun x => (x.toNat : Int)).map fun v => .lit (.int .u64 v)) := by kernel_rfl
  rw [ed1] at hd1
  have eg3 : g3 = 3 := Option.some.inj (hg3.symm.trans (by kernel_rfl))
  subst eg3
  have et3 : t3 = 128 := Option.some.inj (ht3.symm.trans (by kernel_rfl))
  subst et3
  have ed3 : (Rows.laid_math_bits_deBruijn64tab : DataW Unit) = .agg ((F.tab2.map fun x => (x.toNat : Int)).map fun v => .lit (.int .u8 v)) := by kernel_rfl
  rw [ed3] at hd3
  exact ⟨tab_of (by kernel_rfl) hv1 (tab_cells Tryd.underlying115 Tryd.underlying22 (by kernel_rfl) (by kernel_rfl) hd1), tab_of (by kernel_rfl) hv3 (tab_cells Tryd.underlying128 Tryd.underlying5 (by kernel_rfl) (by kernel_rfl) hd3)⟩
set_option maxRecDepth 100000 in
theorem lifted (os : Os) (started : os.Started) (H : Type) (enc : TypeId × Value → H) :
    ReturnsInHanded {} Tryd.checked os 4 .any (fun w args => (Rows.scriptPrintsSpec.pre enc Tryd.prog Tryd.f4 [] false w args ∧ laidMetH Tryd.prog Rows.scriptPrintsRow.laid w) ∧ sizedMet enc Tryd.prog Tryd.f4 (OpenSpec.ofChange Rows.scriptPrintsSpec) false w args) (Rows.scriptPrintsSpec.post enc Tryd.prog Tryd.f4 false true false false) := by
  refine returnsInHanded_of_change_and (C := Tryd.checked) (X := fun w _ => laidMetH Tryd.prog Rows.scriptPrintsRow.laid w) (fun _ _ _ hh h => h.of_heap hh) own started (by kernel_rfl) Tryd.func4
    (ChangeSpec.witness_shaped (enc := enc) (C := Tryd.checked) (os := os) (X := fun w _ => laidMetH Tryd.prog Rows.scriptPrintsRow.laid w) false (World.doorLaid Tryd.prog 400 os) #[.slice none 0 0] 8 rfl (World.shaped_of_RefB (by kernel_rfl) (by kernel_rfl)) (by kernel_rfl) (by kernel_rfl) (by kernel_rfl) (door_met os _)) ?_
  intro W base args ds gs before hval0 hW hcnd hsz0 hL _
  obtain ⟨hT1, hT3⟩ := of_laid hL
  have hsz : (DataW.weightsEach Tryd.prog (Tryd.f4.params.toList ++ Rows.scriptPrintsSpec.plain.varTypes Tryd.prog) (ds ++ gs)).all (· ≤ reachBytes) = true := hsz0
  have hval : ∀ (j : Nat) t v, Tryd.f4.params[j]? = some t → args[j]? = some v → Value.okWide Tryd.prog W .any base t v := hval0
  have hW' := hW
  obtain ⟨p, q, hA0, hV, rfl, hfz, hnd⟩ := hW
  have hA : DataW.TrodAll enc Tryd.prog W 0 (fun _ => true) true Tryd.f4.params.toList args.toList ds p := hA0
  rw [Tryd.params4] at hA hval hsz
  obtain ⟨v0, vs0, d0, ds0, p0, q0, hargs, rfl, rfl, h0, r0⟩ := trodAll_cons hA
  obtain ⟨rfl, rfl, rfl⟩ := trodAll_nil r0
  obtain rfl : args = #[v0] := by cases args; simp_all
  obtain ⟨rfl, rfl⟩ := trodVars_none hV
  obtain ⟨a0, len0, cap0, rfl⟩ := okWide_slice Tryd.underlying31 (hval 0 31 v0 rfl rfl)
  have k0 := h0
  have lt0 : ∀ x ∈ p0, x.block < W.heap.size := by obtain ⟨m, hm⟩ := k0; exact DataW.trod_lt m _ _ _ hm
  obtain ⟨l0, rfl, S0, w0⟩ := open_sl (opn_slice Tryd.underlying31 (by kernel_rfl) opn_TApiAct) h0
  clear hA0 hval0 hsz0 hsz
  refine (F.law31_ScriptPrints_c (Has.of W) hT1 hT3 l0 a0 cap0 S0 (F.ScriptPrints_pure l0 w0)).mono fun e W' ⟨v, he, hv, hx⟩ => ?_
  subst he
  subst hv
  have bel := hx.below
  exact ⟨_, rfl, _, _, _, [], _, [], hW', trodAll_mk1 (shut_bool Tryd.underlying4 _), (trodAll_cons_mk (Below.trod laidOut (by kernel_rfl) (of_decide_eq_true (by kernel_rfl)) k0 bel lt0) trodAll_mk0), rfl, bel.frame _, fun h => by cases h⟩
theorem over : Rows.scriptPrintsRow.holds Tryd.pinned (OpenSpec.ofChange Rows.scriptPrintsSpec) :=
  OpenClaim.holds_of_wide 4 Tryd.f4 rfl rfl rfl rfl rfl rfl rfl ⟨rfl, rfl, rfl, rfl, rfl⟩ rfl rfl rfl rfl rfl (by kernel_rfl) Tryd.func4 (by kernel_rfl)
    (of_decide_eq_true (by kernel_rfl)) (by unfold Func.isWrapper; first | (rw [if_pos (by decide +kernel)]; kernel_rfl) | (rw [if_neg (by decide +kernel)]; exact ⟨rfl, rfl⟩))
    (fun os started H enc _ => lifted os started H enc)
theorem proved : Rows.ScriptPrintsSaid := over
#print axioms proved
end Go.Proofs.YtgoedcjjckdlpaaDoor.scriptPrints
namespace Go.Proofs.YtgoedcjjckdlpaaDoor
/-- The row, under a short name, for the claim. -/
theorem scriptPrints_holds : Rows.ScriptPrintsSaid := scriptPrints.proved
/-- The tied card. -/
theorem scriptPrints_card : Rows.ScriptPrintsCardSaid :=
  Claim7.holds_tied_plain_at .later [] [.data, .data, .data] true (true, "459ed8dd49798a6d88e6a36e694db9a50cfbf48f7674ba71b7dfea0a6c2f9b71") false
    scriptPrints_holds (fun _ h => by cases h) (by kernel_rfl) (fun _ h => by cases h) scriptPrints_row_tie rfl ⟨rfl, rfl⟩ (by kernel_rfl) rfl
    (fun f fn hf hfn => by
      obtain rfl : f = 4 := Option.some.inj ((show Tryd.prog.funcNamed "portmanteau/portmanteaulaw31.ScriptPrints" = some 4 by kernel_rfl).symm.trans hf) |>.symm
      obtain rfl : fn = Tryd.f4 := (Option.some.inj (Tryd.func4.symm.trans hfn)).symm
      exact ⟨by kernel_rfl, fun j t ht => by
        rw [Tryd.params4] at ht
        have hm : t ∈ [31] := by simpa using Array.mem_of_getElem? ht
        have hall : ([31].all fun u => !Tryd.prog.wantsStandIn u) = true := by kernel_rfl
        exact (show Tryd.prog.wantsStandIn t = false by simpa using List.all_eq_true.1 hall t hm)⟩)
    (by kernel_rfl)
#print axioms scriptPrints_card
end Go.Proofs.YtgoedcjjckdlpaaDoor
