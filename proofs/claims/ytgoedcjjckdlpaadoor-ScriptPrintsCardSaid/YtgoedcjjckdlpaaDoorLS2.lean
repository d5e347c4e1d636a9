/- The code computes them: printed by lift.py, part 2. -/
import Derived.Test.YtgoedcjjckdlpaaDoorProg
import Derived.Test.YtgoedcjjckdlpaaDoorLSP
import Derived.Test.YtgoedcjjckdlpaaDoorLS1
set_option linter.unusedVariables false
set_option linter.unusedSimpArgs false
namespace Go.Proofs.YtgoedcjjckdlpaaDoor.F
open Go Go.RowKit Go.Proofs.YtgoedcjjckdlpaaDoor Go.Proofs.YtgoedcjjckdlpaaDoor.K
set_option maxRecDepth 100000
theorem internal_strconv_formatBase10_c {m : Mem} {w : World} (hm : Has m w) (ga0 : Nat) (a : List UInt8) (len : Nat) (u : UInt64) {F : Nat → Prop} (hsep : Sep m w [blkI ga0 (a.map fU8) 99] F) (hF : ∀ k, F k → m k = none) {r : (List UInt8)} (hf : internal_strconv_formatBase10 a len u = some r) :
    Calls Tryd.prog 72 #[.slice (some ⟨ga0, 0, none⟩) len 24, .int .u64 (u.toNat : Int)] w fun e w' => ∃ v, e = .returned v ∧ ∃ m' : Mem, v = .tuple #[] ∧ St w F m m' [blkI ga0 (r.map fU8) 99] w' := by
  unfold internal_strconv_formatBase10 at hf
  have H := St.start hm hsep hF
  refine callsR Tryd.func72 (by kernel_rfl) (by kernel_rfl) ?_
  refine seg 7 [.co [1, 0], .co [1, 1]] [(0, .slice (some ⟨ga0, 0, none⟩) len 24), (1, .int .u64 (u.toNat : Int)), (4, .int .i64 (len : Int))] (by kernel_rfl) ?_
  obtain ⟨y210, hp210, hf⟩ := bindE hf
  refine joinR 0 (fun (x : (List UInt8) × UInt64 × Int) => [(0, .slice (some ⟨ga0, 0, none⟩) len 24), (1, .int .u64 (x.2.1.toNat : Int)), (4, .int .i64 x.2.2)]) (fun (x : (List UInt8) × UInt64 × Int) (wj210 : World) => y210 = (x.1, x.2.1, x.2.2) ∧ St w F m m [blkI ga0 (x.1.map fU8) 99] wj210) (by kernel_rfl) ?_ ?_
  · refine seg 1 [.co [1, 0, 0], .bl 0, .le 0, .co [1, 1]] [(0, .slice (some ⟨ga0, 0, none⟩) len 24), (1, .int .u64 (u.toNat : Int)), (4, .int .i64 (len : Int))] (by kernel_rfl) ?_
    obtain ⟨nn264, hR264⟩ := loopO_iff.1 hp210
    refine loopR 1 (fun (x : Nat × (List UInt8) × UInt64 × Int) => [(0, .slice (some ⟨ga0, 0, none⟩) len 24), (1, .int .u64 (x.2.2.1.toNat : Int)), (4, .int .i64 x.2.2.2)]) (fun (x : Nat × (List UInt8) × UInt64 × Int) (wl264 : World) => iter (fun s => internal_strconv_formatBase10_l1 len s.1 s.2.1 s.2.2) x.1 (x.2.1, x.2.2.1, x.2.2.2) = some y210 ∧ St w F m m [blkI ga0 (x.2.1.map fU8) 99] wl264) (fun (x : Nat × (List UInt8) × UInt64 × Int) => x.1) (nn264, a, u, (len : Int)) (by kernel_rfl) (by kernel_rfl) (by kernel_rfl) ?_ ?_
    · exact ⟨hR264, H⟩
    rintro ⟨n264, a1, u1, nd⟩ wl264 ⟨hR264, H⟩
    try dsimp only at hR264
    try dsimp only at H
    obtain ⟨nk264, q264, rfl, hb_264, hnx264, hfin264⟩ := iterE hR264
    replace hb_264 : internal_strconv_formatBase10_l1 len a1 u1 nd = some q264 := hb_264
    unfold internal_strconv_formatBase10_l1 at hb_264
    refine seg 6 [.co [1, 0, 0, 0, 0, 1], .co [1, 0, 0, 0, 1], .le 1, .bl 0, .le 0, .co [1, 1]] [(0, .slice (some ⟨ga0, 0, none⟩) len 24), (1, .int .u64 (u1.toNat : Int)), (4, .int .i64 nd), (20, .bool (decide (nd ≥ 8)))] (by kernel_rfl) ?_
    rcases condT hb_264 with ⟨hb266, hb_264⟩ | ⟨hb266, hb_264⟩
    · rw [hb266]
      have p266 := of_decide_eq_true hb266
      refine seg 48 [.co [1, 0, 0, 0, 1, 0, 1, 1, 1, 1, 1, 0], .co [1, 0, 0, 0, 1, 0, 1, 1, 1, 1, 1, 1], .bl 1, .le 1, .bl 0, .le 0, .co [1, 1]] [(0, .slice (some ⟨ga0, 0, none⟩) len 24), (1, .int .u64 (IntKind.u64.wrap (Int.tdiv (u1.toNat : Int) 100000000))), (4, .int .i64 nd), (8, .int .u32 (IntKind.u32.wrap ((IntKind.u32.wrap (Int.tdiv (Int.tmod (IntKind.u32.wrap (Int.tmod (u1.toNat : Int) 100000000)) 10000) 100)) * 2))), (9, .int .u32 (IntKind.u32.wrap ((Int.tmod (Int.tmod (IntKind.u32.wrap (Int.tmod (u1.toNat : Int) 100000000)) 10000) 100) * 2))), (10, .int .u32 (IntKind.u32.wrap ((IntKind.u32.wrap (Int.tdiv (IntKind.u32.wrap (Int.tdiv (IntKind.u32.wrap (Int.tmod (u1.toNat : Int) 100000000)) 10000)) 100)) * 2))), (11, .int .u32 (IntKind.u32.wrap ((Int.tmod (IntKind.u32.wrap (Int.tdiv (IntKind.u32.wrap (Int.tmod (u1.toNat : Int) 100000000)) 10000)) 100) * 2)))] (by kernel_rfl) ?_
      rw [q64_quo u1 (100000000 : UInt64) (u1.toNat : Int) 100000000 (by rfl) (by rfl)]
      rw [q64_rem u1 (100000000 : UInt64) (u1.toNat : Int) 100000000 (by rfl) (by rfl)]
      rw [q32_wrap ((u1 % (100000000 : UInt64)).toNat : Int)]
      rw [q32_wrap (Int.tdiv (Int.tmod ((UInt32.ofInt ((u1 % (100000000 : UInt64)).toNat : Int)).toNat : Int) 10000) 100)]
      rw [q32_wrap (((UInt32.ofInt (Int.tdiv (Int.tmod ((UInt32.ofInt ((u1 % (100000000 : UInt64)).toNat : Int)).toNat : Int) 10000) 100)).toNat : Int) * 2)]
      rw [q32_wrap ((Int.tmod (Int.tmod ((UInt32.ofInt ((u1 % (100000000 : UInt64)).toNat : Int)).toNat : Int) 10000) 100) * 2)]
      rw [q32_wrap (Int.tdiv ((UInt32.ofInt ((u1 % (100000000 : UInt64)).toNat : Int)).toNat : Int) 10000)]
      rw [q32_wrap (Int.tdiv ((UInt32.ofInt (Int.tdiv ((UInt32.ofInt ((u1 % (100000000 : UInt64)).toNat : Int)).toNat : Int) 10000)).toNat : Int) 100)]
      rw [q32_wrap (((UInt32.ofInt (Int.tdiv ((UInt32.ofInt (Int.tdiv ((UInt32.ofInt ((u1 % (100000000 : UInt64)).toNat : Int)).toNat : Int) 10000)).toNat : Int) 100)).toNat : Int) * 2)]
      rw [q32_wrap ((Int.tmod ((UInt32.ofInt (Int.tdiv ((UInt32.ofInt ((u1 % (100000000 : UInt64)).toNat : Int)).toNat : Int) 10000)).toNat : Int) 100) * 2)]
      obtain ⟨c, h_c, hb_264⟩ := bindE hb_264
      obtain ⟨c1, h_c1, hb_264⟩ := bindE hb_264
      obtain ⟨x_, h_x_, hb_264⟩ := bindE hb_264
      obtain ⟨hc267, hb_264⟩ := chkE hb_264
      obtain ⟨i0268, i1268, ix268⟩ := idx_some h_x_
      obtain ⟨x_1, h_x_1, hb_264⟩ := bindE hb_264
      obtain ⟨hc270, hb_264⟩ := chkE hb_264
      obtain ⟨i0271, i1271, ix271⟩ := idx_some h_x_1
      have hst : statB (bodyOf Tryd.f72) [1, 0, 0, 0, 1, 0, 1, 1, 1, 1, 1, 0] = true := by kernel_rfl
      refine drawS (Has m) H (by kernel_rfl) (by kernel_rfl) ?_
      intro w273 H
      refine segD2 hst [0, 1, 2] [0, 1, 2] [(0, .slice (some ⟨ga0, 0, none⟩) len 24), (1, .int .u64 ((u1 / (100000000 : UInt64)).toNat : Int)), (4, .int .i64 nd), (8, .int .u32 ((UInt32.ofInt (((UInt32.ofInt (Int.tdiv (Int.tmod ((UInt32.ofInt ((u1 % (100000000 : UInt64)).toNat : Int)).toNat : Int) 10000) 100)).toNat : Int) * 2)).toNat : Int)), (9, .int .u32 ((UInt32.ofInt ((Int.tmod (Int.tmod ((UInt32.ofInt ((u1 % (100000000 : UInt64)).toNat : Int)).toNat : Int) 10000) 100) * 2)).toNat : Int)), (10, .int .u32 ((UInt32.ofInt (((UInt32.ofInt (Int.tdiv ((UInt32.ofInt (Int.tdiv ((UInt32.ofInt ((u1 % (100000000 : UInt64)).toNat : Int)).toNat : Int) 10000)).toNat : Int) 100)).toNat : Int) * 2)).toNat : Int)), (11, .int .u32 ((UInt32.ofInt ((Int.tmod ((UInt32.ofInt (Int.tdiv ((UInt32.ofInt ((u1 % (100000000 : UInt64)).toNat : Int)).toNat : Int) 10000)).toNat : Int) 100) * 2)).toNat : Int)), (42, .slice (some ⟨ga0, 0, none⟩) len 24), (44, .int .i64 (IntKind.i64.wrap (nd - 1)))] (by kernel_rfl) ?_
      refine segD2 hst [3, 4, 5] [0, 1, 2, 3, 4, 5] [(0, .slice (some ⟨ga0, 0, none⟩) len 24), (1, .int .u64 ((u1 / (100000000 : UInt64)).toNat : Int)), (4, .int .i64 nd), (8, .int .u32 ((UInt32.ofInt (((UInt32.ofInt (Int.tdiv (Int.tmod ((UInt32.ofInt ((u1 % (100000000 : UInt64)).toNat : Int)).toNat : Int) 10000) 100)).toNat : Int) * 2)).toNat : Int)), (9, .int .u32 ((UInt32.ofInt ((Int.tmod (Int.tmod ((UInt32.ofInt ((u1 % (100000000 : UInt64)).toNat : Int)).toNat : Int) 10000) 100) * 2)).toNat : Int)), (10, .int .u32 ((UInt32.ofInt (((UInt32.ofInt (Int.tdiv ((UInt32.ofInt (Int.tdiv ((UInt32.ofInt ((u1 % (100000000 : UInt64)).toNat : Int)).toNat : Int) 10000)).toNat : Int) 100)).toNat : Int) * 2)).toNat : Int)), (11, .int .u32 ((UInt32.ofInt ((Int.tmod ((UInt32.ofInt (Int.tdiv ((UInt32.ofInt ((u1 % (100000000 : UInt64)).toNat : Int)).toNat : Int) 10000)).toNat : Int) 100) * 2)).toNat : Int)), (42, .slice (some ⟨ga0, 0, none⟩) len 24), (44, .int .i64 (IntKind.i64.wrap (nd - 1))), (45, .slice (some ⟨ga0, 0, none⟩) len 24), (47, .int .i64 (IntKind.i64.wrap (nd - 2)))] (by kernel_rfl) ?_
      refine segD2 hst [6, 7] [0, 1, 2, 3, 4, 5, 6, 7] [(0, .slice (some ⟨ga0, 0, none⟩) len 24), (1, .int .u64 ((u1 / (100000000 : UInt64)).toNat : Int)), (4, .int .i64 nd), (8, .int .u32 ((UInt32.ofInt (((UInt32.ofInt (Int.tdiv (Int.tmod ((UInt32.ofInt ((u1 % (100000000 : UInt64)).toNat : Int)).toNat : Int) 10000) 100)).toNat : Int) * 2)).toNat : Int)), (9, .int .u32 ((UInt32.ofInt ((Int.tmod (Int.tmod ((UInt32.ofInt ((u1 % (100000000 : UInt64)).toNat : Int)).toNat : Int) 10000) 100) * 2)).toNat : Int)), (10, .int .u32 ((UInt32.ofInt (((UInt32.ofInt (Int.tdiv ((UInt32.ofInt (Int.tdiv ((UInt32.ofInt ((u1 % (100000000 : UInt64)).toNat : Int)).toNat : Int) 10000)).toNat : Int) 100)).toNat : Int) * 2)).toNat : Int)), (11, .int .u32 ((UInt32.ofInt ((Int.tmod ((UInt32.ofInt (Int.tdiv ((UInt32.ofInt ((u1 % (100000000 : UInt64)).toNat : Int)).toNat : Int) 10000)).toNat : Int) 100) * 2)).toNat : Int)), (42, .slice (some ⟨ga0, 0, none⟩) len 24), (44, .int .i64 (IntKind.i64.wrap (nd - 1))), (45, .slice (some ⟨ga0, 0, none⟩) len 24), (47, .int .i64 (IntKind.i64.wrap (nd - 2))), (49, .int .u32 (IntKind.u32.wrap (((UInt32.ofInt ((Int.tmod (Int.tmod ((UInt32.ofInt ((u1 % (100000000 : UInt64)).toNat : Int)).toNat : Int) 10000) 100) * 2)).toNat : Int) + 1)))] (by kernel_rfl) ?_
      rw [q32_wrap (((UInt32.ofInt ((Int.tmod (Int.tmod ((UInt32.ofInt ((u1 % (100000000 : UInt64)).toNat : Int)).toNat : Int) 10000) 100) * 2)).toNat : Int) + 1)]
      refine segD2 hst [9] [0, 1, 2, 3, 4, 5, 6, 7, 9] [(0, .slice (some ⟨ga0, 0, none⟩) len 24), (1, .int .u64 ((u1 / (100000000 : UInt64)).toNat : Int)), (4, .int .i64 nd), (8, .int .u32 ((UInt32.ofInt (((UInt32.ofInt (Int.tdiv (Int.tmod ((UInt32.ofInt ((u1 % (100000000 : UInt64)).toNat : Int)).toNat : Int) 10000) 100)).toNat : Int) * 2)).toNat : Int)), (10, .int .u32 ((UInt32.ofInt (((UInt32.ofInt (Int.tdiv ((UInt32.ofInt (Int.tdiv ((UInt32.ofInt ((u1 % (100000000 : UInt64)).toNat : Int)).toNat : Int) 10000)).toNat : Int) 100)).toNat : Int) * 2)).toNat : Int)), (11, .int .u32 ((UInt32.ofInt ((Int.tmod ((UInt32.ofInt (Int.tdiv ((UInt32.ofInt ((u1 % (100000000 : UInt64)).toNat : Int)).toNat : Int) 10000)).toNat : Int) 100) * 2)).toNat : Int)), (42, .slice (some ⟨ga0, 0, none⟩) len 24), (44, .int .i64 (IntKind.i64.wrap (nd - 1))), (45, .slice (some ⟨ga0, 0, none⟩) len 24), (47, .int .i64 (IntKind.i64.wrap (nd - 2))), (49, .int .u32 ((UInt32.ofInt (((UInt32.ofInt ((Int.tmod (Int.tmod ((UInt32.ofInt ((u1 % (100000000 : UInt64)).toNat : Int)).toNat : Int) 10000) 100) * 2)).toNat : Int) + 1)).toNat : Int)), (51, .int .u32 ((UInt32.ofInt ((Int.tmod (Int.tmod ((UInt32.ofInt ((u1 % (100000000 : UInt64)).toNat : Int)).toNat : Int) 10000) 100) * 2)).toNat : Int))] (by kernel_rfl) ?_
      refine takeD2 (i := 8) (d := (some 50)) (s := vS (Instr.index 9 (.string ⟨([48, 48, 48, 49, 48, 50, 48, 51, 48, 52, 48, 53, 48, 54, 48, 55, 48, 56, 48, 57, 49, 48, 49, 49, 49, 50, 49, 51, 49, 52, 49, 53, 49, 54, 49, 55, 49, 56, 49, 57, 50, 48, 50, 49, 50, 50, 50, 51, 50, 52, 50, 53, 50, 54, 50, 55, 50, 56, 50, 57, 51, 48, 51, 49, 51, 50, 51, 51, 51, 52, 51, 53, 51, 54, 51, 55, 51, 56, 51, 57, 52, 48, 52, 49, 52, 50, 52, 51, 52, 52, 52, 53, 52, 54, 52, 55, 52, 56, 52, 57, 53, 48, 53, 49, 53, 50, 53, 51, 53, 52, 53, 53, 53, 54, 53, 55, 53, 56, 53, 57, 54, 48, 54, 49, 54, 50, 54, 51, 54, 52, 54, 53, 54, 54, 54, 55, 54, 56, 54, 57, 55, 48, 55, 49, 55, 50, 55, 51, 55, 52, 55, 53, 55, 54, 55, 55, 55, 56, 55, 57, 56, 48, 56, 49, 56, 50, 56, 51, 56, 52, 56, 53, 56, 54, 56, 55, 56, 56, 56, 57, 57, 48, 57, 49, 57, 50, 57, 51, 57, 52, 57, 53, 57, 54, 57, 55, 57, 56, 57, 57] : List UInt8).toArray⟩) (.int .u32 ((UInt32.ofInt (((UInt32.ofInt ((Int.tmod (Int.tmod ((UInt32.ofInt ((u1 % (100000000 : UInt64)).toNat : Int)).toNat : Int) 10000) 100) * 2)).toNat : Int) + 1)).toNat : Int)))) (v := .int .u8 (c.toNat : Int)) hst (by kernel_rfl) (by kernel_rfl) (fun w' hw' => str_idx_run _ _ _ _ _ (by kernel_rfl) h_c) ?_
      refine takeD2 (i := 10) (d := (some 52)) (s := vS (Instr.index 9 (.string ⟨([48, 48, 48, 49, 48, 50, 48, 51, 48, 52, 48, 53, 48, 54, 48, 55, 48, 56, 48, 57, 49, 48, 49, 49, 49, 50, 49, 51, 49, 52, 49, 53, 49, 54, 49, 55, 49, 56, 49, 57, 50, 48, 50, 49, 50, 50, 50, 51, 50, 52, 50, 53, 50, 54, 50, 55, 50, 56, 50, 57, 51, 48, 51, 49, 51, 50, 51, 51, 51, 52, 51, 53, 51, 54, 51, 55, 51, 56, 51, 57, 52, 48, 52, 49, 52, 50, 52, 51, 52, 52, 52, 53, 52, 54, 52, 55, 52, 56, 52, 57, 53, 48, 53, 49, 53, 50, 53, 51, 53, 52, 53, 53, 53, 54, 53, 55, 53, 56, 53, 57, 54, 48, 54, 49, 54, 50, 54, 51, 54, 52, 54, 53, 54, 54, 54, 55, 54, 56, 54, 57, 55, 48, 55, 49, 55, 50, 55, 51, 55, 52, 55, 53, 55, 54, 55, 55, 55, 56, 55, 57, 56, 48, 56, 49, 56, 50, 56, 51, 56, 52, 56, 53, 56, 54, 56, 55, 56, 56, 56, 57, 57, 48, 57, 49, 57, 50, 57, 51, 57, 52, 57, 53, 57, 54, 57, 55, 57, 56, 57, 57] : List UInt8).toArray⟩) (.int .u32 ((UInt32.ofInt ((Int.tmod (Int.tmod ((UInt32.ofInt ((u1 % (100000000 : UInt64)).toNat : Int)).toNat : Int) 10000) 100) * 2)).toNat : Int)))) (v := .int .u8 (c1.toNat : Int)) hst (by kernel_rfl) (by kernel_rfl) (fun w' hw' => str_idx_run _ _ _ _ _ (by kernel_rfl) h_c1) ?_
      replace H : St w F m m [blkI ga0 (a1.map fU8) 99] w273 := H
      obtain ⟨i0274, i1274, ix274⟩ := idx_some h_x_
      refine stD2 (i := 11) (by kernel_rfl) H.has (idxSA (some 53) 23 5 ga0 len 24 .i64 (IntKind.i64.wrap (nd - 1)) (by kernel_rfl) (by kernel_rfl) i0274 (of_decide_eq_true hc267) ?_)
      refine stD2 (i := 12) (by kernel_rfl) H.has (stAS fU8 none 5 0 ga0 ((IntKind.i64.wrap (nd - 1)).toNat) c a1 99 H rfl (by kernel_rfl) (by kernel_rfl) rfl (List.getElem?_eq_some_iff.1 ix274).1 ?_)
      intro w275 H
      obtain ⟨i0276, i1276, ix276⟩ := idx_some h_x_1
      refine stD2 (i := 13) (by kernel_rfl) H.has (idxSA (some 54) 23 5 ga0 len 24 .i64 (IntKind.i64.wrap (nd - 2)) (by kernel_rfl) (by kernel_rfl) i0276 (of_decide_eq_true hc270) ?_)
      refine stD2 (i := 14) (by kernel_rfl) H.has (stAS fU8 none 5 0 ga0 ((IntKind.i64.wrap (nd - 2)).toNat) c1 (a1.set ((IntKind.i64.wrap (nd - 1)).toNat) c) 99 H rfl (by kernel_rfl) (by kernel_rfl) rfl (List.getElem?_eq_some_iff.1 ix276).1 ?_)
      intro w277 H
      refine endD2 (by kernel_rfl) H.has ?_
      refine seg 1 [.co [1, 0, 0, 0, 1, 0, 1, 1, 1, 1, 1, 1, 0], .co [1, 0, 0, 0, 1, 0, 1, 1, 1, 1, 1, 1, 1], .bl 1, .le 1, .bl 0, .le 0, .co [1, 1]] [(0, .slice (some ⟨ga0, 0, none⟩) len 24), (1, .int .u64 ((u1 / (100000000 : UInt64)).toNat : Int)), (4, .int .i64 nd), (8, .int .u32 ((UInt32.ofInt (((UInt32.ofInt (Int.tdiv (Int.tmod ((UInt32.ofInt ((u1 % (100000000 : UInt64)).toNat : Int)).toNat : Int) 10000) 100)).toNat : Int) * 2)).toNat : Int)), (10, .int .u32 ((UInt32.ofInt (((UInt32.ofInt (Int.tdiv ((UInt32.ofInt (Int.tdiv ((UInt32.ofInt ((u1 % (100000000 : UInt64)).toNat : Int)).toNat : Int) 10000)).toNat : Int) 100)).toNat : Int) * 2)).toNat : Int)), (11, .int .u32 ((UInt32.ofInt ((Int.tmod ((UInt32.ofInt (Int.tdiv ((UInt32.ofInt ((u1 % (100000000 : UInt64)).toNat : Int)).toNat : Int) 10000)).toNat : Int) 100) * 2)).toNat : Int))] (by kernel_rfl) ?_
      obtain ⟨c2, h_c2, hb_264⟩ := bindE hb_264
      obtain ⟨c3, h_c3, hb_264⟩ := bindE hb_264
      obtain ⟨x_2, h_x_2, hb_264⟩ := bindE hb_264
      obtain ⟨hc278, hb_264⟩ := chkE hb_264
      obtain ⟨i0279, i1279, ix279⟩ := idx_some h_x_2
      obtain ⟨x_3, h_x_3, hb_264⟩ := bindE hb_264
      obtain ⟨hc281, hb_264⟩ := chkE hb_264
      obtain ⟨i0282, i1282, ix282⟩ := idx_some h_x_3
      have hst : statB (bodyOf Tryd.f72) [1, 0, 0, 0, 1, 0, 1, 1, 1, 1, 1, 1, 0] = true := by kernel_rfl
      refine drawS (Has m) H (by kernel_rfl) (by kernel_rfl) ?_
      intro w284 H
      refine segD2 hst [0, 1, 2] [0, 1, 2] [(0, .slice (some ⟨ga0, 0, none⟩) len 24), (1, .int .u64 ((u1 / (100000000 : UInt64)).toNat : Int)), (4, .int .i64 nd), (8, .int .u32 ((UInt32.ofInt (((UInt32.ofInt (Int.tdiv (Int.tmod ((UInt32.ofInt ((u1 % (100000000 : UInt64)).toNat : Int)).toNat : Int) 10000) 100)).toNat : Int) * 2)).toNat : Int)), (10, .int .u32 ((UInt32.ofInt (((UInt32.ofInt (Int.tdiv ((UInt32.ofInt (Int.tdiv ((UInt32.ofInt ((u1 % (100000000 : UInt64)).toNat : Int)).toNat : Int) 10000)).toNat : Int) 100)).toNat : Int) * 2)).toNat : Int)), (11, .int .u32 ((UInt32.ofInt ((Int.tmod ((UInt32.ofInt (Int.tdiv ((UInt32.ofInt ((u1 % (100000000 : UInt64)).toNat : Int)).toNat : Int) 10000)).toNat : Int) 100) * 2)).toNat : Int)), (55, .slice (some ⟨ga0, 0, none⟩) len 24), (57, .int .i64 (IntKind.i64.wrap (nd - 3)))] (by kernel_rfl) ?_
      refine segD2 hst [3, 4, 5] [0, 1, 2, 3, 4, 5] [(0, .slice (some ⟨ga0, 0, none⟩) len 24), (1, .int .u64 ((u1 / (100000000 : UInt64)).toNat : Int)), (4, .int .i64 nd), (8, .int .u32 ((UInt32.ofInt (((UInt32.ofInt (Int.tdiv (Int.tmod ((UInt32.ofInt ((u1 % (100000000 : UInt64)).toNat : Int)).toNat : Int) 10000) 100)).toNat : Int) * 2)).toNat : Int)), (10, .int .u32 ((UInt32.ofInt (((UInt32.ofInt (Int.tdiv ((UInt32.ofInt (Int.tdiv ((UInt32.ofInt ((u1 % (100000000 : UInt64)).toNat : Int)).toNat : Int) 10000)).toNat : Int) 100)).toNat : Int) * 2)).toNat : Int)), (11, .int .u32 ((UInt32.ofInt ((Int.tmod ((UInt32.ofInt (Int.tdiv ((UInt32.ofInt ((u1 % (100000000 : UInt64)).toNat : Int)).toNat : Int) 10000)).toNat : Int) 100) * 2)).toNat : Int)), (55, .slice (some ⟨ga0, 0, none⟩) len 24), (57, .int .i64 (IntKind.i64.wrap (nd - 3))), (58, .slice (some ⟨ga0, 0, none⟩) len 24), (60, .int .i64 (IntKind.i64.wrap (nd - 4)))] (by kernel_rfl) ?_
      refine segD2 hst [6, 7] [0, 1, 2, 3, 4, 5, 6, 7] [(0, .slice (some ⟨ga0, 0, none⟩) len 24), (1, .int .u64 ((u1 / (100000000 : UInt64)).toNat : Int)), (4, .int .i64 nd), (8, .int .u32 ((UInt32.ofInt (((UInt32.ofInt (Int.tdiv (Int.tmod ((UInt32.ofInt ((u1 % (100000000 : UInt64)).toNat : Int)).toNat : Int) 10000) 100)).toNat : Int) * 2)).toNat : Int)), (10, .int .u32 ((UInt32.ofInt (((UInt32.ofInt (Int.tdiv ((UInt32.ofInt (Int.tdiv ((UInt32.ofInt ((u1 % (100000000 : UInt64)).toNat : Int)).toNat : Int) 10000)).toNat : Int) 100)).toNat : Int) * 2)).toNat : Int)), (11, .int .u32 ((UInt32.ofInt ((Int.tmod ((UInt32.ofInt (Int.tdiv ((UInt32.ofInt ((u1 % (100000000 : UInt64)).toNat : Int)).toNat : Int) 10000)).toNat : Int) 100) * 2)).toNat : Int)), (55, .slice (some ⟨ga0, 0, none⟩) len 24), (57, .int .i64 (IntKind.i64.wrap (nd - 3))), (58, .slice (some ⟨ga0, 0, none⟩) len 24), (60, .int .i64 (IntKind.i64.wrap (nd - 4))), (62, .int .u32 (IntKind.u32.wrap (((UInt32.ofInt (((UInt32.ofInt (Int.tdiv (Int.tmod ((UInt32.ofInt ((u1 % (100000000 : UInt64)).toNat : Int)).toNat : Int) 10000) 100)).toNat : Int) * 2)).toNat : Int) + 1)))] (by kernel_rfl) ?_
      rw [q32_wrap (((UInt32.ofInt (((UInt32.ofInt (Int.tdiv (Int.tmod ((UInt32.ofInt ((u1 % (100000000 : UInt64)).toNat : Int)).toNat : Int) 10000) 100)).toNat : Int) * 2)).toNat : Int) + 1)]
      refine segD2 hst [9] [0, 1, 2, 3, 4, 5, 6, 7, 9] [(0, .slice (some ⟨ga0, 0, none⟩) len 24), (1, .int .u64 ((u1 / (100000000 : UInt64)).toNat : Int)), (4, .int .i64 nd), (10, .int .u32 ((UInt32.ofInt (((UInt32.ofInt (Int.tdiv ((UInt32.ofInt (Int.tdiv ((UInt32.ofInt ((u1 % (100000000 : UInt64)).toNat : Int)).toNat : Int) 10000)).toNat : Int) 100)).toNat : Int) * 2)).toNat : Int)), (11, .int .u32 ((UInt32.ofInt ((Int.tmod ((UInt32.ofInt (Int.tdiv ((UInt32.ofInt ((u1 % (100000000 : UInt64)).toNat : Int)).toNat : Int) 10000)).toNat : Int) 100) * 2)).toNat : Int)), (55, .slice (some ⟨ga0, 0, none⟩) len 24), (57, .int .i64 (IntKind.i64.wrap (nd - 3))), (58, .slice (some ⟨ga0, 0, none⟩) len 24), (60, .int .i64 (IntKind.i64.wrap (nd - 4))), (62, .int .u32 ((UInt32.ofInt (((UInt32.ofInt (((UInt32.ofInt (Int.tdiv (Int.tmod ((UInt32.ofInt ((u1 % (100000000 : UInt64)).toNat : Int)).toNat : Int) 10000) 100)).toNat : Int) * 2)).toNat : Int) + 1)).toNat : Int)), (64, .int .u32 ((UInt32.ofInt (((UInt32.ofInt (Int.tdiv (Int.tmod ((UInt32.ofInt ((u1 % (100000000 : UInt64)).toNat : Int)).toNat : Int) 10000) 100)).toNat : Int) * 2)).toNat : Int))] (by kernel_rfl) ?_
      refine takeD2 (i := 8) (d := (some 63)) (s := vS (Instr.index 9 (.string ⟨([48, 48, 48, 49, 48, 50, 48, 51, 48, 52, 48, 53, 48, 54, 48, 55, 48, 56, 48, 57, 49, 48, 49, 49, 49, 50, 49, 51, 49, 52, 49, 53, 49, 54, 49, 55, 49, 56, 49, 57, 50, 48, 50, 49, 50, 50, 50, 51, 50, 52, 50, 53, 50, 54, 50, 55, 50, 56, 50, 57, 51, 48, 51, 49, 51, 50, 51, 51, 51, 52, 51, 53, 51, 54, 51, 55, 51, 56, 51, 57, 52, 48, 52, 49, 52, 50, 52, 51, 52, 52, 52, 53, 52, 54, 52, 55, 52, 56, 52, 57, 53, 48, 53, 49, 53, 50, 53, 51, 53, 52, 53, 53, 53, 54, 53, 55, 53, 56, 53, 57, 54, 48, 54, 49, 54, 50, 54, 51, 54, 52, 54, 53, 54, 54, 54, 55, 54, 56, 54, 57, 55, 48, 55, 49, 55, 50, 55, 51, 55, 52, 55, 53, 55, 54, 55, 55, 55, 56, 55, 57, 56, 48, 56, 49, 56, 50, 56, 51, 56, 52, 56, 53, 56, 54, 56, 55, 56, 56, 56, 57, 57, 48, 57, 49, 57, 50, 57, 51, 57, 52, 57, 53, 57, 54, 57, 55, 57, 56, 57, 57] : List UInt8).toArray⟩) (.int .u32 ((UInt32.ofInt (((UInt32.ofInt (((UInt32.ofInt (Int.tdiv (Int.tmod ((UInt32.ofInt ((u1 % (100000000 : UInt64)).toNat : Int)).toNat : Int) 10000) 100)).toNat : Int) * 2)).toNat : Int) + 1)).toNat : Int)))) (v := .int .u8 (c2.toNat : Int)) hst (by kernel_rfl) (by kernel_rfl) (fun w' hw' => str_idx_run _ _ _ _ _ (by kernel_rfl) h_c2) ?_
      refine takeD2 (i := 10) (d := (some 65)) (s := vS (Instr.index 9 (.string ⟨([48, 48, 48, 49, 48, 50, 48, 51, 48, 52, 48, 53, 48, 54, 48, 55, 48, 56, 48, 57, 49, 48, 49, 49, 49, 50, 49, 51, 49, 52, 49, 53, 49, 54, 49, 55, 49, 56, 49, 57, 50, 48, 50, 49, 50, 50, 50, 51, 50, 52, 50, 53, 50, 54, 50, 55, 50, 56, 50, 57, 51, 48, 51, 49, 51, 50, 51, 51, 51, 52, 51, 53, 51, 54, 51, 55, 51, 56, 51, 57, 52, 48, 52, 49, 52, 50, 52, 51, 52, 52, 52, 53, 52, 54, 52, 55, 52, 56, 52, 57, 53, 48, 53, 49, 53, 50, 53, 51, 53, 52, 53, 53, 53, 54, 53, 55, 53, 56, 53, 57, 54, 48, 54, 49, 54, 50, 54, 51, 54, 52, 54, 53, 54, 54, 54, 55, 54, 56, 54, 57, 55, 48, 55, 49, 55, 50, 55, 51, 55, 52, 55, 53, 55, 54, 55, 55, 55, 56, 55, 57, 56, 48, 56, 49, 56, 50, 56, 51, 56, 52, 56, 53, 56, 54, 56, 55, 56, 56, 56, 57, 57, 48, 57, 49, 57, 50, 57, 51, 57, 52, 57, 53, 57, 54, 57, 55, 57, 56, 57, 57] : List UInt8).toArray⟩) (.int .u32 ((UInt32.ofInt (((UInt32.ofInt (Int.tdiv (Int.tmod ((UInt32.ofInt ((u1 % (100000000 : UInt64)).toNat : Int)).toNat : Int) 10000) 100)).toNat : Int) * 2)).toNat : Int)))) (v := .int .u8 (c3.toNat : Int)) hst (by kernel_rfl) (by kernel_rfl) (fun w' hw' => str_idx_run _ _ _ _ _ (by kernel_rfl) h_c3) ?_
      replace H : St w F m m [blkI ga0 (((a1.set ((IntKind.i64.wrap (nd - 1)).toNat) c).set ((IntKind.i64.wrap (nd - 2)).toNat) c1).map fU8) 99] w284 := H
      obtain ⟨i0285, i1285, ix285⟩ := idx_some h_x_2
      refine stD2 (i := 11) (by kernel_rfl) H.has (idxSA (some 66) 23 5 ga0 len 24 .i64 (IntKind.i64.wrap (nd - 3)) (by kernel_rfl) (by kernel_rfl) i0285 (of_decide_eq_true hc278) ?_)
      refine stD2 (i := 12) (by kernel_rfl) H.has (stAS fU8 none 5 0 ga0 ((IntKind.i64.wrap (nd - 3)).toNat) c2 ((a1.set ((IntKind.i64.wrap (nd - 1)).toNat) c).set ((IntKind.i64.wrap (nd - 2)).toNat) c1) 99 H rfl (by kernel_rfl) (by kernel_rfl) rfl (List.getElem?_eq_some_iff.1 ix285).1 ?_)
      intro w286 H
      obtain ⟨i0287, i1287, ix287⟩ := idx_some h_x_3
      refine stD2 (i := 13) (by kernel_rfl) H.has (idxSA (some 67) 23 5 ga0 len 24 .i64 (IntKind.i64.wrap (nd - 4)) (by kernel_rfl) (by kernel_rfl) i0287 (of_decide_eq_true hc281) ?_)
      refine stD2 (i := 14) (by kernel_rfl) H.has (stAS fU8 none 5 0 ga0 ((IntKind.i64.wrap (nd - 4)).toNat) c3 (((a1.set ((IntKind.i64.wrap (nd - 1)).toNat) c).set ((IntKind.i64.wrap (nd - 2)).toNat) c1).set ((IntKind.i64.wrap (nd - 3)).toNat) c2) 99 H rfl (by kernel_rfl) (by kernel_rfl) rfl (List.getElem?_eq_some_iff.1 ix287).1 ?_)
      intro w288 H
      refine endD2 (by kernel_rfl) H.has ?_
      refine seg 1 [.co [1, 0, 0, 0, 1, 0, 1, 1, 1, 1, 1, 1, 1, 0], .co [1, 0, 0, 0, 1, 0, 1, 1, 1, 1, 1, 1, 1, 1], .bl 1, .le 1, .bl 0, .le 0, .co [1, 1]] [(0, .slice (some ⟨ga0, 0, none⟩) len 24), (1, .int .u64 ((u1 / (100000000 : UInt64)).toNat : Int)), (4, .int .i64 nd), (10, .int .u32 ((UInt32.ofInt (((UInt32.ofInt (Int.tdiv ((UInt32.ofInt (Int.tdiv ((UInt32.ofInt ((u1 % (100000000 : UInt64)).toNat : Int)).toNat : Int) 10000)).toNat : Int) 100)).toNat : Int) * 2)).toNat : Int)), (11, .int .u32 ((UInt32.ofInt ((Int.tmod ((UInt32.ofInt (Int.tdiv ((UInt32.ofInt ((u1 % (100000000 : UInt64)).toNat : Int)).toNat : Int) 10000)).toNat : Int) 100) * 2)).toNat : Int))] (by kernel_rfl) ?_
      obtain ⟨c4, h_c4, hb_264⟩ := bindE hb_264
      obtain ⟨c5, h_c5, hb_264⟩ := bindE hb_264
      obtain ⟨x_4, h_x_4, hb_264⟩ := bindE hb_264
      obtain ⟨hc289, hb_264⟩ := chkE hb_264
      obtain ⟨i0290, i1290, ix290⟩ := idx_some h_x_4
      obtain ⟨x_5, h_x_5, hb_264⟩ := bindE hb_264
      obtain ⟨hc292, hb_264⟩ := chkE hb_264
      obtain ⟨i0293, i1293, ix293⟩ := idx_some h_x_5
      have hst : statB (bodyOf Tryd.f72) [1, 0, 0, 0, 1, 0, 1, 1, 1, 1, 1, 1, 1, 0] = true := by kernel_rfl
      refine drawS (Has m) H (by kernel_rfl) (by kernel_rfl) ?_
      intro w295 H
      refine segD2 hst [0, 1, 2] [0, 1, 2] [(0, .slice (some ⟨ga0, 0, none⟩) len 24), (1, .int .u64 ((u1 / (100000000 : UInt64)).toNat : Int)), (4, .int .i64 nd), (10, .int .u32 ((UInt32.ofInt (((UInt32.ofInt (Int.tdiv ((UInt32.ofInt (Int.tdiv ((UInt32.ofInt ((u1 % (100000000 : UInt64)).toNat : Int)).toNat : Int) 10000)).toNat : Int) 100)).toNat : Int) * 2)).toNat : Int)), (11, .int .u32 ((UInt32.ofInt ((Int.tmod ((UInt32.ofInt (Int.tdiv ((UInt32.ofInt ((u1 % (100000000 : UInt64)).toNat : Int)).toNat : Int) 10000)).toNat : Int) 100) * 2)).toNat : Int)), (68, .slice (some ⟨ga0, 0, none⟩) len 24), (70, .int .i64 (IntKind.i64.wrap (nd - 5)))] (by kernel_rfl) ?_
      refine segD2 hst [3, 4, 5] [0, 1, 2, 3, 4, 5] [(0, .slice (some ⟨ga0, 0, none⟩) len 24), (1, .int .u64 ((u1 / (100000000 : UInt64)).toNat : Int)), (4, .int .i64 nd), (10, .int .u32 ((UInt32.ofInt (((UInt32.ofInt (Int.tdiv ((UInt32.ofInt (Int.tdiv ((UInt32.ofInt ((u1 % (100000000 : UInt64)).toNat : Int)).toNat : Int) 10000)).toNat : Int) 100)).toNat : Int) * 2)).toNat : Int)), (11, .int .u32 ((UInt32.ofInt ((Int.tmod ((UInt32.ofInt (Int.tdiv ((UInt32.ofInt ((u1 % (100000000 : UInt64)).toNat : Int)).toNat : Int) 10000)).toNat : Int) 100) * 2)).toNat : Int)), (68, .slice (some ⟨ga0, 0, none⟩) len 24), (70, .int .i64 (IntKind.i64.wrap (nd - 5))), (71, .slice (some ⟨ga0, 0, none⟩) len 24), (73, .int .i64 (IntKind.i64.wrap (nd - 6)))] (by kernel_rfl) ?_
      refine segD2 hst [6, 7] [0, 1, 2, 3, 4, 5, 6, 7] [(0, .slice (some ⟨ga0, 0, none⟩) len 24), (1, .int .u64 ((u1 / (100000000 : UInt64)).toNat : Int)), (4, .int .i64 nd), (10, .int .u32 ((UInt32.ofInt (((UInt32.ofInt (Int.tdiv ((UInt32.ofInt (Int.tdiv ((UInt32.ofInt ((u1 % (100000000 : UInt64)).toNat : Int)).toNat : Int) 10000)).toNat : Int) 100)).toNat : Int) * 2)).toNat : Int)), (11, .int .u32 ((UInt32.ofInt ((Int.tmod ((UInt32.ofInt (Int.tdiv ((UInt32.ofInt ((u1 % (100000000 : UInt64)).toNat : Int)).toNat : Int) 10000)).toNat : Int) 100) * 2)).toNat : Int)), (68, .slice (some ⟨ga0, 0, none⟩) len 24), (70, .int .i64 (IntKind.i64.wrap (nd - 5))), (71, .slice (some ⟨ga0, 0, none⟩) len 24), (73, .int .i64 (IntKind.i64.wrap (nd - 6))), (75, .int .u32 (IntKind.u32.wrap (((UInt32.ofInt ((Int.tmod ((UInt32.ofInt (Int.tdiv ((UInt32.ofInt ((u1 % (100000000 : UInt64)).toNat : Int)).toNat : Int) 10000)).toNat : Int) 100) * 2)).toNat : Int) + 1)))] (by kernel_rfl) ?_
      rw [q32_wrap (((UInt32.ofInt ((Int.tmod ((UInt32.ofInt (Int.tdiv ((UInt32.ofInt ((u1 % (100000000 : UInt64)).toNat : Int)).toNat : Int) 10000)).toNat : Int) 100) * 2)).toNat : Int) + 1)]
      refine segD2 hst [9] [0, 1, 2, 3, 4, 5, 6, 7, 9] [(0, .slice (some ⟨ga0, 0, none⟩) len 24), (1, .int .u64 ((u1 / (100000000 : UInt64)).toNat : Int)), (4, .int .i64 nd), (10, .int .u32 ((UInt32.ofInt (((UInt32.ofInt (Int.tdiv ((UInt32.ofInt (Int.tdiv ((UInt32.ofInt ((u1 % (100000000 : UInt64)).toNat : Int)).toNat : Int) 10000)).toNat : Int) 100)).toNat : Int) * 2)).toNat : Int)), (68, .slice (some ⟨ga0, 0, none⟩) len 24), (70, .int .i64 (IntKind.i64.wrap (nd - 5))), (71, .slice (some ⟨ga0, 0, none⟩) len 24), (73, .int .i64 (IntKind.i64.wrap (nd - 6))), (75, .int .u32 ((UInt32.ofInt (((UInt32.ofInt ((Int.tmod ((UInt32.ofInt (Int.tdiv ((UInt32.ofInt ((u1 % (100000000 : UInt64)).toNat : Int)).toNat : Int) 10000)).toNat : Int) 100) * 2)).toNat : Int) + 1)).toNat : Int)), (77, .int .u32 ((UInt32.ofInt ((Int.tmod ((UInt32.ofInt (Int.tdiv ((UInt32.ofInt ((u1 % (100000000 : UInt64)).toNat : Int)).toNat : Int) 10000)).toNat : Int) 100) * 2)).toNat : Int))] (by kernel_rfl) ?_
      refine takeD2 (i := 8) (d := (some 76)) (s := vS (Instr.index 9 (.string ⟨([48, 48, 48, 49, 48, 50, 48, 51, 48, 52, 48, 53, 48, 54, 48, 55, 48, 56, 48, 57, 49, 48, 49, 49, 49, 50, 49, 51, 49, 52, 49, 53, 49, 54, 49, 55, 49, 56, 49, 57, 50, 48, 50, 49, 50, 50, 50, 51, 50, 52, 50, 53, 50, 54, 50, 55, 50, 56, 50, 57, 51, 48, 51, 49, 51, 50, 51, 51, 51, 52, 51, 53, 51, 54, 51, 55, 51, 56, 51, 57, 52, 48, 52, 49, 52, 50, 52, 51, 52, 52, 52, 53, 52, 54, 52, 55, 52, 56, 52, 57, 53, 48, 53, 49, 53, 50, 53, 51, 53, 52, 53, 53, 53, 54, 53, 55, 53, 56, 53, 57, 54, 48, 54, 49, 54, 50, 54, 51, 54, 52, 54, 53, 54, 54, 54, 55, 54, 56, 54, 57, 55, 48, 55, 49, 55, 50, 55, 51, 55, 52, 55, 53, 55, 54, 55, 55, 55, 56, 55, 57, 56, 48, 56, 49, 56, 50, 56, 51, 56, 52, 56, 53, 56, 54, 56, 55, 56, 56, 56, 57, 57, 48, 57, 49, 57, 50, 57, 51, 57, 52, 57, 53, 57, 54, 57, 55, 57, 56, 57, 57] : List UInt8).toArray⟩) (.int .u32 ((UInt32.ofInt (((UInt32.ofInt ((Int.tmod ((UInt32.ofInt (Int.tdiv ((UInt32.ofInt ((u1 % (100000000 : UInt64)).toNat : Int)).toNat : Int) 10000)).toNat : Int) 100) * 2)).toNat : Int) + 1)).toNat : Int)))) (v := .int .u8 (c4.toNat : Int)) hst (by kernel_rfl) (by kernel_rfl) (fun w' hw' => str_idx_run _ _ _ _ _ (by kernel_rfl) h_c4) ?_
      refine takeD2 (i := 10) (d := (some 78)) (s := vS (Instr.index 9 (.string ⟨([48, 48, 48, 49, 48, 50, 48, 51, 48, 52, 48, 53, 48, 54, 48, 55, 48, 56, 48, 57, 49, 48, 49, 49, 49, 50, 49, 51, 49, 52, 49, 53, 49, 54, 49, 55, 49, 56, 49, 57, 50, 48, 50, 49, 50, 50, 50, 51, 50, 52, 50, 53, 50, 54, 50, 55, 50, 56, 50, 57, 51, 48, 51, 49, 51, 50, 51, 51, 51, 52, 51, 53, 51, 54, 51, 55, 51, 56, 51, 57, 52, 48, 52, 49, 52, 50, 52, 51, 52, 52, 52, 53, 52, 54, 52, 55, 52, 56, 52, 57, 53, 48, 53, 49, 53, 50, 53, 51, 53, 52, 53, 53, 53, 54, 53, 55, 53, 56, 53, 57, 54, 48, 54, 49, 54, 50, 54, 51, 54, 52, 54, 53, 54, 54, 54, 55, 54, 56, 54, 57, 55, 48, 55, 49, 55, 50, 55, 51, 55, 52, 55, 53, 55, 54, 55, 55, 55, 56, 55, 57, 56, 48, 56, 49, 56, 50, 56, 51, 56, 52, 56, 53, 56, 54, 56, 55, 56, 56, 56, 57, 57, 48, 57, 49, 57, 50, 57, 51, 57, 52, 57, 53, 57, 54, 57, 55, 57, 56, 57, 57] : List UInt8).toArray⟩) (.int .u32 ((UInt32.ofInt ((Int.tmod ((UInt32.ofInt (Int.tdiv ((UInt32.ofInt ((u1 % (100000000 : UInt64)).toNat : Int)).toNat : Int) 10000)).toNat : Int) 100) * 2)).toNat : Int)))) (v := .int .u8 (c5.toNat : Int)) hst (by kernel_rfl) (by kernel_rfl) (fun w' hw' => str_idx_run _ _ _ _ _ (by kernel_rfl) h_c5) ?_
      replace H : St w F m m [blkI ga0 (((((a1.set ((IntKind.i64.wrap (nd - 1)).toNat) c).set ((IntKind.i64.wrap (nd - 2)).toNat) c1).set ((IntKind.i64.wrap (nd - 3)).toNat) c2).set ((IntKind.i64.wrap (nd - 4)).toNat) c3).map fU8) 99] w295 := H
      obtain ⟨i0296, i1296, ix296⟩ := idx_some h_x_4
      refine stD2 (i := 11) (by kernel_rfl) H.has (idxSA (some 79) 23 5 ga0 len 24 .i64 (IntKind.i64.wrap (nd - 5)) (by kernel_rfl) (by kernel_rfl) i0296 (of_decide_eq_true hc289) ?_)
      refine stD2 (i := 12) (by kernel_rfl) H.has (stAS fU8 none 5 0 ga0 ((IntKind.i64.wrap (nd - 5)).toNat) c4 ((((a1.set ((IntKind.i64.wrap (nd - 1)).toNat) c).set ((IntKind.i64.wrap (nd - 2)).toNat) c1).set ((IntKind.i64.wrap (nd - 3)).toNat) c2).set ((IntKind.i64.wrap (nd - 4)).toNat) c3) 99 H rfl (by kernel_rfl) (by kernel_rfl) rfl (List.getElem?_eq_some_iff.1 ix296).1 ?_)
      intro w297 H
      obtain ⟨i0298, i1298, ix298⟩ := idx_some h_x_5
      refine stD2 (i := 13) (by kernel_rfl) H.has (idxSA (some 80) 23 5 ga0 len 24 .i64 (IntKind.i64.wrap (nd - 6)) (by kernel_rfl) (by kernel_rfl) i0298 (of_decide_eq_true hc292) ?_)
      refine stD2 (i := 14) (by kernel_rfl) H.has (stAS fU8 none 5 0 ga0 ((IntKind.i64.wrap (nd - 6)).toNat) c5 (((((a1.set ((IntKind.i64.wrap (nd - 1)).toNat) c).set ((IntKind.i64.wrap (nd - 2)).toNat) c1).set ((IntKind.i64.wrap (nd - 3)).toNat) c2).set ((IntKind.i64.wrap (nd - 4)).toNat) c3).set ((IntKind.i64.wrap (nd - 5)).toNat) c4) 99 H rfl (by kernel_rfl) (by kernel_rfl) rfl (List.getElem?_eq_some_iff.1 ix298).1 ?_)
      intro w299 H
      refine endD2 (by kernel_rfl) H.has ?_
      refine seg 1 [.co [1, 0, 0, 0, 1, 0, 1, 1, 1, 1, 1, 1, 1, 1, 0], .co [1, 0, 0, 0, 1, 0, 1, 1, 1, 1, 1, 1, 1, 1, 1], .bl 1, .le 1, .bl 0, .le 0, .co [1, 1]] [(0, .slice (some ⟨ga0, 0, none⟩) len 24), (1, .int .u64 ((u1 / (100000000 : UInt64)).toNat : Int)), (4, .int .i64 nd), (10, .int .u32 ((UInt32.ofInt (((UInt32.ofInt (Int.tdiv ((UInt32.ofInt (Int.tdiv ((UInt32.ofInt ((u1 % (100000000 : UInt64)).toNat : Int)).toNat : Int) 10000)).toNat : Int) 100)).toNat : Int) * 2)).toNat : Int))] (by kernel_rfl) ?_
      obtain ⟨c6, h_c6, hb_264⟩ := bindE hb_264
      obtain ⟨c7, h_c7, hb_264⟩ := bindE hb_264
      obtain ⟨x_6, h_x_6, hb_264⟩ := bindE hb_264
      obtain ⟨hc300, hb_264⟩ := chkE hb_264
      obtain ⟨i0301, i1301, ix301⟩ := idx_some h_x_6
      obtain ⟨x_7, h_x_7, hb_264⟩ := bindE hb_264
      obtain ⟨hc303, hb_264⟩ := chkE hb_264
      obtain ⟨i0304, i1304, ix304⟩ := idx_some h_x_7
      have hst : statB (bodyOf Tryd.f72) [1, 0, 0, 0, 1, 0, 1, 1, 1, 1, 1, 1, 1, 1, 0] = true := by kernel_rfl
      refine drawS (Has m) H (by kernel_rfl) (by kernel_rfl) ?_
      intro w306 H
      refine segD2 hst [0, 1, 2] [0, 1, 2] [(0, .slice (some ⟨ga0, 0, none⟩) len 24), (1, .int .u64 ((u1 / (100000000 : UInt64)).toNat : Int)), (4, .int .i64 nd), (10, .int .u32 ((UInt32.ofInt (((UInt32.ofInt (Int.tdiv ((UInt32.ofInt (Int.tdiv ((UInt32.ofInt ((u1 % (100000000 : UInt64)).toNat : Int)).toNat : Int) 10000)).toNat : Int) 100)).toNat : Int) * 2)).toNat : Int)), (81, .slice (some ⟨ga0, 0, none⟩) len 24), (83, .int .i64 (IntKind.i64.wrap (nd - 7)))] (by kernel_rfl) ?_
      refine segD2 hst [3, 4, 5] [0, 1, 2, 3, 4, 5] [(0, .slice (some ⟨ga0, 0, none⟩) len 24), (1, .int .u64 ((u1 / (100000000 : UInt64)).toNat : Int)), (4, .int .i64 nd), (10, .int .u32 ((UInt32.ofInt (((UInt32.ofInt (Int.tdiv ((UInt32.ofInt (Int.tdiv ((UInt32.ofInt ((u1 % (100000000 : UInt64)).toNat : Int)).toNat : Int) 10000)).toNat : Int) 100)).toNat : Int) * 2)).toNat : Int)), (81, .slice (some ⟨ga0, 0, none⟩) len 24), (83, .int .i64 (IntKind.i64.wrap (nd - 7))), (84, .slice (some ⟨ga0, 0, none⟩) len 24), (86, .int .i64 (IntKind.i64.wrap (nd - 8)))] (by kernel_rfl) ?_
      refine segD2 hst [6, 7] [0, 1, 2, 3, 4, 5, 6, 7] [(0, .slice (some ⟨ga0, 0, none⟩) len 24), (1, .int .u64 ((u1 / (100000000 : UInt64)).toNat : Int)), (4, .int .i64 nd), (10, .int .u32 ((UInt32.ofInt (((UInt32.ofInt (Int.tdiv ((UInt32.ofInt (Int.tdiv ((UInt32.ofInt ((u1 % (100000000 : UInt64)).toNat : Int)).toNat : Int) 10000)).toNat : Int) 100)).toNat : Int) * 2)).toNat : Int)), (81, .slice (some ⟨ga0, 0, none⟩) len 24), (83, .int .i64 (IntKind.i64.wrap (nd - 7))), (84, .slice (some ⟨ga0, 0, none⟩) len 24), (86, .int .i64 (IntKind.i64.wrap (nd - 8))), (88, .int .u32 (IntKind.u32.wrap (((UInt32.ofInt (((UInt32.ofInt (Int.tdiv ((UInt32.ofInt (Int.tdiv ((UInt32.ofInt ((u1 % (100000000 : UInt64)).toNat : Int)).toNat : Int) 10000)).toNat : Int) 100)).toNat : Int) * 2)).toNat : Int) + 1)))] (by kernel_rfl) ?_
      rw [q32_wrap (((UInt32.ofInt (((UInt32.ofInt (Int.tdiv ((UInt32.ofInt (Int.tdiv ((UInt32.ofInt ((u1 % (100000000 : UInt64)).toNat : Int)).toNat : Int) 10000)).toNat : Int) 100)).toNat : Int) * 2)).toNat : Int) + 1)]
      refine segD2 hst [9] [0, 1, 2, 3, 4, 5, 6, 7, 9] [(0, .slice (some ⟨ga0, 0, none⟩) len 24), (1, .int .u64 ((u1 / (100000000 : UInt64)).toNat : Int)), (4, .int .i64 nd), (81, .slice (some ⟨ga0, 0, none⟩) len 24), (83, .int .i64 (IntKind.i64.wrap (nd - 7))), (84, .slice (some ⟨ga0, 0, none⟩) len 24), (86, .int .i64 (IntKind.i64.wrap (nd - 8))), (88, .int .u32 ((UInt32.ofInt (((UInt32.ofInt (((UInt32.ofInt (Int.tdiv ((UInt32.ofInt (Int.tdiv ((UInt32.ofInt ((u1 % (100000000 : UInt64)).toNat : Int)).toNat : Int) 10000)).toNat : Int) 100)).toNat : Int) * 2)).toNat : Int) + 1)).toNat : Int)), (90, .int .u32 ((UInt32.ofInt (((UInt32.ofInt (Int.tdiv ((UInt32.ofInt (Int.tdiv ((UInt32.ofInt ((u1 % (100000000 : UInt64)).toNat : Int)).toNat : Int) 10000)).toNat : Int) 100)).toNat : Int) * 2)).toNat : Int))] (by kernel_rfl) ?_
      refine takeD2 (i := 8) (d := (some 89)) (s := vS (Instr.index 9 (.string ⟨([48, 48, 48, 49, 48, 50, 48, 51, 48, 52, 48, 53, 48, 54, 48, 55, 48, 56, 48, 57, 49, 48, 49, 49, 49, 50, 49, 51, 49, 52, 49, 53, 49, 54, 49, 55, 49, 56, 49, 57, 50, 48, 50, 49, 50, 50, 50, 51, 50, 52, 50, 53, 50, 54, 50, 55, 50, 56, 50, 57, 51, 48, 51, 49, 51, 50, 51, 51, 51, 52, 51, 53, 51, 54, 51, 55, 51, 56, 51, 57, 52, 48, 52, 49, 52, 50, 52, 51, 52, 52, 52, 53, 52, 54, 52, 55, 52, 56, 52, 57, 53, 48, 53, 49, 53, 50, 53, 51, 53, 52, 53, 53, 53, 54, 53, 55, 53, 56, 53, 57, 54, 48, 54, 49, 54, 50, 54, 51, 54, 52, 54, 53, 54, 54, 54, 55, 54, 56, 54, 57, 55, 48, 55, 49, 55, 50, 55, 51, 55, 52, 55, 53, 55, 54, 55, 55, 55, 56, 55, 57, 56, 48, 56, 49, 56, 50, 56, 51, 56, 52, 56, 53, 56, 54, 56, 55, 56, 56, 56, 57, 57, 48, 57, 49, 57, 50, 57, 51, 57, 52, 57, 53, 57, 54, 57, 55, 57, 56, 57, 57] : List UInt8).toArray⟩) (.int .u32 ((UInt32.ofInt (((UInt32.ofInt (((UInt32.ofInt (Int.tdiv ((UInt32.ofInt (Int.tdiv ((UInt32.ofInt ((u1 % (100000000 : UInt64)).toNat : Int)).toNat : Int) 10000)).toNat : Int) 100)).toNat : Int) * 2)).toNat : Int) + 1)).toNat : Int)))) (v := .int .u8 (c6.toNat : Int)) hst (by kernel_rfl) (by kernel_rfl) (fun w' hw' => str_idx_run _ _ _ _ _ (by kernel_rfl) h_c6) ?_
      refine takeD2 (i := 10) (d := (some 91)) (s := vS (Instr.index 9 (.string ⟨([48, 48, 48, 49, 48, 50, 48, 51, 48, 52, 48, 53, 48, 54, 48, 55, 48, 56, 48, 57, 49, 48, 49, 49, 49, 50, 49, 51, 49, 52, 49, 53, 49, 54, 49, 55, 49, 56, 49, 57, 50, 48, 50, 49, 50, 50, 50, 51, 50, 52, 50, 53, 50, 54, 50, 55, 50, 56, 50, 57, 51, 48, 51, 49, 51, 50, 51, 51, 51, 52, 51, 53, 51, 54, 51, 55, 51, 56, 51, 57, 52, 48, 52, 49, 52, 50, 52, 51, 52, 52, 52, 53, 52, 54, 52, 55, 52, 56, 52, 57, 53, 48, 53, 49, 53, 50, 53, 51, 53, 52, 53, 53, 53, 54, 53, 55, 53, 56, 53, 57, 54, 48, 54, 49, 54, 50, 54, 51, 54, 52, 54, 53, 54, 54, 54, 55, 54, 56, 54, 57, 55, 48, 55, 49, 55, 50, 55, 51, 55, 52, 55, 53, 55, 54, 55, 55, 55, 56, 55, 57, 56, 48, 56, 49, 56, 50, 56, 51, 56, 52, 56, 53, 56, 54, 56, 55, 56, 56, 56, 57, 57, 48, 57, 49, 57, 50, 57, 51, 57, 52, 57, 53, 57, 54, 57, 55, 57, 56, 57, 57] : List UInt8).toArray⟩) (.int .u32 ((UInt32.ofInt (((UInt32.ofInt (Int.tdiv ((UInt32.ofInt (Int.tdiv ((UInt32.ofInt ((u1 % (100000000 : UInt64)).toNat : Int)).toNat : Int) 10000)).toNat : Int) 100)).toNat : Int) * 2)).toNat : Int)))) (v := .int .u8 (c7.toNat : Int)) hst (by kernel_rfl) (by kernel_rfl) (fun w' hw' => str_idx_run _ _ _ _ _ (by kernel_rfl) h_c7) ?_
      replace H : St w F m m [blkI ga0 (((((((a1.set ((IntKind.i64.wrap (nd - 1)).toNat) c).set ((IntKind.i64.wrap (nd - 2)).toNat) c1).set ((IntKind.i64.wrap (nd - 3)).toNat) c2).set ((IntKind.i64.wrap (nd - 4)).toNat) c3).set ((IntKind.i64.wrap (nd - 5)).toNat) c4).set ((IntKind.i64.wrap (nd - 6)).toNat) c5).map fU8) 99] w306 := H
      obtain ⟨i0307, i1307, ix307⟩ := idx_some h_x_6
      refine stD2 (i := 11) (by kernel_rfl) H.has (idxSA (some 92) 23 5 ga0 len 24 .i64 (IntKind.i64.wrap (nd - 7)) (by kernel_rfl) (by kernel_rfl) i0307 (of_decide_eq_true hc300) ?_)
      refine stD2 (i := 12) (by kernel_rfl) H.has (stAS fU8 none 5 0 ga0 ((IntKind.i64.wrap (nd - 7)).toNat) c6 ((((((a1.set ((IntKind.i64.wrap (nd - 1)).toNat) c).set ((IntKind.i64.wrap (nd - 2)).toNat) c1).set ((IntKind.i64.wrap (nd - 3)).toNat) c2).set ((IntKind.i64.wrap (nd - 4)).toNat) c3).set ((IntKind.i64.wrap (nd - 5)).toNat) c4).set ((IntKind.i64.wrap (nd - 6)).toNat) c5) 99 H rfl (by kernel_rfl) (by kernel_rfl) rfl (List.getElem?_eq_some_iff.1 ix307).1 ?_)
      intro w308 H
      obtain ⟨i0309, i1309, ix309⟩ := idx_some h_x_7
      refine stD2 (i := 13) (by kernel_rfl) H.has (idxSA (some 93) 23 5 ga0 len 24 .i64 (IntKind.i64.wrap (nd - 8)) (by kernel_rfl) (by kernel_rfl) i0309 (of_decide_eq_true hc303) ?_)
      refine stD2 (i := 14) (by kernel_rfl) H.has (stAS fU8 none 5 0 ga0 ((IntKind.i64.wrap (nd - 8)).toNat) c7 (((((((a1.set ((IntKind.i64.wrap (nd - 1)).toNat) c).set ((IntKind.i64.wrap (nd - 2)).toNat) c1).set ((IntKind.i64.wrap (nd - 3)).toNat) c2).set ((IntKind.i64.wrap (nd - 4)).toNat) c3).set ((IntKind.i64.wrap (nd - 5)).toNat) c4).set ((IntKind.i64.wrap (nd - 6)).toNat) c5).set ((IntKind.i64.wrap (nd - 7)).toNat) c6) 99 H rfl (by kernel_rfl) (by kernel_rfl) rfl (List.getElem?_eq_some_iff.1 ix309).1 ?_)
      intro w310 H
      refine endD2 (by kernel_rfl) H.has ?_
      refine seg 6 [.le 1, .bl 0, .le 0, .co [1, 1]] [(0, .slice (some ⟨ga0, 0, none⟩) len 24), (1, .int .u64 ((u1 / (100000000 : UInt64)).toNat : Int)), (4, .int .i64 (IntKind.i64.wrap (nd - 8)))] (by kernel_rfl) ?_
      refine leR (nk264, ((((((((a1.set ((IntKind.i64.wrap (nd - 1)).toNat) c).set ((IntKind.i64.wrap (nd - 2)).toNat) c1).set ((IntKind.i64.wrap (nd - 3)).toNat) c2).set ((IntKind.i64.wrap (nd - 4)).toNat) c3).set ((IntKind.i64.wrap (nd - 5)).toNat) c4).set ((IntKind.i64.wrap (nd - 6)).toNat) c5).set ((IntKind.i64.wrap (nd - 7)).toNat) c6).set ((IntKind.i64.wrap (nd - 8)).toNat) c7), (u1 / (100000000 : UInt64)), (IntKind.i64.wrap (nd - 8))) (Nat.lt_succ_self _) ⟨hnx264 _ (Option.some.inj hb_264).symm, H⟩ (by kernel_rfl)
    · rw [hb266]
      have p266 := of_decide_eq_false hb266
      refine seg 2 [.le 0, .co [1, 1]] [(0, .slice (some ⟨ga0, 0, none⟩) len 24), (1, .int .u64 (u1.toNat : Int)), (4, .int .i64 nd)] (by kernel_rfl) ?_
      refine leR_up (k' := []) (by rfl) ?_
      refine leJ (a1, u1, nd) ⟨(hfin264 _ (Option.some.inj hb_264).symm).symm, H⟩ (by kernel_rfl)
  rintro ⟨a1, u1, nd⟩ wj210 ⟨hy210, H⟩
  try dsimp only at hy210
  try dsimp only at H
  rw [hy210] at hf
  try dsimp only at hf
  refine seg 12 [.co [1, 1, 1, 0, 1], .co [1, 1, 1, 1]] [(0, .slice (some ⟨ga0, 0, none⟩) len 24), (4, .int .i64 nd), (12, .int .u32 (IntKind.u32.wrap (u1.toNat : Int))), (99, .bool (decide (nd ≥ 4)))] (by kernel_rfl) ?_
  rw [q32_wrap (u1.toNat : Int)]
  rcases condT hf with ⟨hb354, hf⟩ | ⟨hb354, hf⟩
  · rw [hb354]
    have p354 := of_decide_eq_true hb354
    refine seg 25 [.co [1, 1, 1, 0, 1, 0, 1, 1, 1, 0], .co [1, 1, 1, 0, 1, 0, 1, 1, 1, 1], .co [1, 1, 1, 1]] [(0, .slice (some ⟨ga0, 0, none⟩) len 24), (4, .int .i64 nd), (12, .int .u32 (IntKind.u32.wrap (Int.tdiv ((UInt32.ofInt (u1.toNat : Int)).toNat : Int) 10000))), (14, .int .u32 (IntKind.u32.wrap ((IntKind.u32.wrap (Int.tdiv (Int.tmod ((UInt32.ofInt (u1.toNat : Int)).toNat : Int) 10000) 100)) * 2))), (15, .int .u32 (IntKind.u32.wrap ((Int.tmod (Int.tmod ((UInt32.ofInt (u1.toNat : Int)).toNat : Int) 10000) 100) * 2)))] (by kernel_rfl) ?_
    rw [q32_wrap (Int.tdiv ((UInt32.ofInt (u1.toNat : Int)).toNat : Int) 10000)]
    rw [q32_wrap (Int.tdiv (Int.tmod ((UInt32.ofInt (u1.toNat : Int)).toNat : Int) 10000) 100)]
    rw [q32_wrap (((UInt32.ofInt (Int.tdiv (Int.tmod ((UInt32.ofInt (u1.toNat : Int)).toNat : Int) 10000) 100)).toNat : Int) * 2)]
    rw [q32_wrap ((Int.tmod (Int.tmod ((UInt32.ofInt (u1.toNat : Int)).toNat : Int) 10000) 100) * 2)]
    obtain ⟨c8, h_c8, hf⟩ := bindE hf
    obtain ⟨c9, h_c9, hf⟩ := bindE hf
    obtain ⟨x_8, h_x_8, hf⟩ := bindE hf
    obtain ⟨hc355, hf⟩ := chkE hf
    obtain ⟨i0356, i1356, ix356⟩ := idx_some h_x_8
    obtain ⟨x_9, h_x_9, hf⟩ := bindE hf
    obtain ⟨hc358, hf⟩ := chkE hf
    obtain ⟨i0359, i1359, ix359⟩ := idx_some h_x_9
    have hst : statB (bodyOf Tryd.f72) [1, 1, 1, 0, 1, 0, 1, 1, 1, 0] = true := by kernel_rfl
    refine drawS (Has m) H (by kernel_rfl) (by kernel_rfl) ?_
    intro w361 H
    refine segD2 hst [0, 1, 2] [0, 1, 2] [(0, .slice (some ⟨ga0, 0, none⟩) len 24), (4, .int .i64 nd), (12, .int .u32 ((UInt32.ofInt (Int.tdiv ((UInt32.ofInt (u1.toNat : Int)).toNat : Int) 10000)).toNat : Int)), (14, .int .u32 ((UInt32.ofInt (((UInt32.ofInt (Int.tdiv (Int.tmod ((UInt32.ofInt (u1.toNat : Int)).toNat : Int) 10000) 100)).toNat : Int) * 2)).toNat : Int)), (15, .int .u32 ((UInt32.ofInt ((Int.tmod (Int.tmod ((UInt32.ofInt (u1.toNat : Int)).toNat : Int) 10000) 100) * 2)).toNat : Int)), (110, .slice (some ⟨ga0, 0, none⟩) len 24), (112, .int .i64 (IntKind.i64.wrap (nd - 1)))] (by kernel_rfl) ?_
    refine segD2 hst [3, 4, 5] [0, 1, 2, 3, 4, 5] [(0, .slice (some ⟨ga0, 0, none⟩) len 24), (4, .int .i64 nd), (12, .int .u32 ((UInt32.ofInt (Int.tdiv ((UInt32.ofInt (u1.toNat : Int)).toNat : Int) 10000)).toNat : Int)), (14, .int .u32 ((UInt32.ofInt (((UInt32.ofInt (Int.tdiv (Int.tmod ((UInt32.ofInt (u1.toNat : Int)).toNat : Int) 10000) 100)).toNat : Int) * 2)).toNat : Int)), (15, .int .u32 ((UInt32.ofInt ((Int.tmod (Int.tmod ((UInt32.ofInt (u1.toNat : Int)).toNat : Int) 10000) 100) * 2)).toNat : Int)), (110, .slice (some ⟨ga0, 0, none⟩) len 24), (112, .int .i64 (IntKind.i64.wrap (nd - 1))), (113, .slice (some ⟨ga0, 0, none⟩) len 24), (115, .int .i64 (IntKind.i64.wrap (nd - 2)))] (by kernel_rfl) ?_
    refine segD2 hst [6, 7] [0, 1, 2, 3, 4, 5, 6, 7] [(0, .slice (some ⟨ga0, 0, none⟩) len 24), (4, .int .i64 nd), (12, .int .u32 ((UInt32.ofInt (Int.tdiv ((UInt32.ofInt (u1.toNat : Int)).toNat : Int) 10000)).toNat : Int)), (14, .int .u32 ((UInt32.ofInt (((UInt32.ofInt (Int.tdiv (Int.tmod ((UInt32.ofInt (u1.toNat : Int)).toNat : Int) 10000) 100)).toNat : Int) * 2)).toNat : Int)), (15, .int .u32 ((UInt32.ofInt ((Int.tmod (Int.tmod ((UInt32.ofInt (u1.toNat : Int)).toNat : Int) 10000) 100) * 2)).toNat : Int)), (110, .slice (some ⟨ga0, 0, none⟩) len 24), (112, .int .i64 (IntKind.i64.wrap (nd - 1))), (113, .slice (some ⟨ga0, 0, none⟩) len 24), (115, .int .i64 (IntKind.i64.wrap (nd - 2))), (117, .int .u32 (IntKind.u32.wrap (((UInt32.ofInt ((Int.tmod (Int.tmod ((UInt32.ofInt (u1.toNat : Int)).toNat : Int) 10000) 100) * 2)).toNat : Int) + 1)))] (by kernel_rfl) ?_
    rw [q32_wrap (((UInt32.ofInt ((Int.tmod (Int.tmod ((UInt32.ofInt (u1.toNat : Int)).toNat : Int) 10000) 100) * 2)).toNat : Int) + 1)]
    refine segD2 hst [9] [0, 1, 2, 3, 4, 5, 6, 7, 9] [(0, .slice (some ⟨ga0, 0, none⟩) len 24), (4, .int .i64 nd), (12, .int .u32 ((UInt32.ofInt (Int.tdiv ((UInt32.ofInt (u1.toNat : Int)).toNat : Int) 10000)).toNat : Int)), (14, .int .u32 ((UInt32.ofInt (((UInt32.ofInt (Int.tdiv (Int.tmod ((UInt32.ofInt (u1.toNat : Int)).toNat : Int) 10000) 100)).toNat : Int) * 2)).toNat : Int)), (110, .slice (some ⟨ga0, 0, none⟩) len 24), (112, .int .i64 (IntKind.i64.wrap (nd - 1))), (113, .slice (some ⟨ga0, 0, none⟩) len 24), (115, .int .i64 (IntKind.i64.wrap (nd - 2))), (117, .int .u32 ((UInt32.ofInt (((UInt32.ofInt ((Int.tmod (Int.tmod ((UInt32.ofInt (u1.toNat : Int)).toNat : Int) 10000) 100) * 2)).toNat : Int) + 1)).toNat : Int)), (119, .int .u32 ((UInt32.ofInt ((Int.tmod (Int.tmod ((UInt32.ofInt (u1.toNat : Int)).toNat : Int) 10000) 100) * 2)).toNat : Int))] (by kernel_rfl) ?_
    refine takeD2 (i := 8) (d := (some 118)) (s := vS (Instr.index 9 (.string ⟨([48, 48, 48, 49, 48, 50, 48, 51, 48, 52, 48, 53, 48, 54, 48, 55, 48, 56, 48, 57, 49, 48, 49, 49, 49, 50, 49, 51, 49, 52, 49, 53, 49, 54, 49, 55, 49, 56, 49, 57, 50, 48, 50, 49, 50, 50, 50, 51, 50, 52, 50, 53, 50, 54, 50, 55, 50, 56, 50, 57, 51, 48, 51, 49, 51, 50, 51, 51, 51, 52, 51, 53, 51, 54, 51, 55, 51, 56, 51, 57, 52, 48, 52, 49, 52, 50, 52, 51, 52, 52, 52, 53, 52, 54, 52, 55, 52, 56, 52, 57, 53, 48, 53, 49, 53, 50, 53, 51, 53, 52, 53, 53, 53, 54, 53, 55, 53, 56, 53, 57, 54, 48, 54, 49, 54, 50, 54, 51, 54, 52, 54, 53, 54, 54, 54, 55, 54, 56, 54, 57, 55, 48, 55, 49, 55, 50, 55, 51, 55, 52, 55, 53, 55, 54, 55, 55, 55, 56, 55, 57, 56, 48, 56, 49, 56, 50, 56, 51, 56, 52, 56, 53, 56, 54, 56, 55, 56, 56, 56, 57, 57, 48, 57, 49, 57, 50, 57, 51, 57, 52, 57, 53, 57, 54, 57, 55, 57, 56, 57, 57] : List UInt8).toArray⟩) (.int .u32 ((UInt32.ofInt (((UInt32.ofInt ((Int.tmod (Int.tmod ((UInt32.ofInt (u1.toNat : Int)).toNat : Int) 10000) 100) * 2)).toNat : Int) + 1)).toNat : Int)))) (v := .int .u8 (c8.toNat : Int)) hst (by kernel_rfl) (by kernel_rfl) (fun w' hw' => str_idx_run _ _ _ _ _ (by kernel_rfl) h_c8) ?_
    refine takeD2 (i := 10) (d := (some 120)) (s := vS (Instr.index 9 (.string ⟨([48, 48, 48, 49, 48, 50, 48, 51, 48, 52, 48, 53, 48, 54, 48, 55, 48, 56, 48, 57, 49, 48, 49, 49, 49, 50, 49, 51, 49, 52, 49, 53, 49, 54, 49, 55, 49, 56, 49, 57, 50, 48, 50, 49, 50, 50, 50, 51, 50, 52, 50, 53, 50, 54, 50, 55, 50, 56, 50, 57, 51, 48, 51, 49, 51, 50, 51, 51, 51, 52, 51, 53, 51, 54, 51, 55, 51, 56, 51, 57, 52, 48, 52, 49, 52, 50, 52, 51, 52, 52, 52, 53, 52, 54, 52, 55, 52, 56, 52, 57, 53, 48, 53, 49, 53, 50, 53, 51, 53, 52, 53, 53, 53, 54, 53, 55, 53, 56, 53, 57, 54, 48, 54, 49, 54, 50, 54, 51, 54, 52, 54, 53, 54, 54, 54, 55, 54, 56, 54, 57, 55, 48, 55, 49, 55, 50, 55, 51, 55, 52, 55, 53, 55, 54, 55, 55, 55, 56, 55, 57, 56, 48, 56, 49, 56, 50, 56, 51, 56, 52, 56, 53, 56, 54, 56, 55, 56, 56, 56, 57, 57, 48, 57, 49, 57, 50, 57, 51, 57, 52, 57, 53, 57, 54, 57, 55, 57, 56, 57, 57] : List UInt8).toArray⟩) (.int .u32 ((UInt32.ofInt ((Int.tmod (Int.tmod ((UInt32.ofInt (u1.toNat : Int)).toNat : Int) 10000) 100) * 2)).toNat : Int)))) (v := .int .u8 (c9.toNat : Int)) hst (by kernel_rfl) (by kernel_rfl) (fun w' hw' => str_idx_run _ _ _ _ _ (by kernel_rfl) h_c9) ?_
    replace H : St w F m m [blkI ga0 (a1.map fU8) 99] w361 := H
    obtain ⟨i0362, i1362, ix362⟩ := idx_some h_x_8
    refine stD2 (i := 11) (by kernel_rfl) H.has (idxSA (some 121) 23 5 ga0 len 24 .i64 (IntKind.i64.wrap (nd - 1)) (by kernel_rfl) (by kernel_rfl) i0362 (of_decide_eq_true hc355) ?_)
    refine stD2 (i := 12) (by kernel_rfl) H.has (stAS fU8 none 5 0 ga0 ((IntKind.i64.wrap (nd - 1)).toNat) c8 a1 99 H rfl (by kernel_rfl) (by kernel_rfl) rfl (List.getElem?_eq_some_iff.1 ix362).1 ?_)
    intro w363 H
    obtain ⟨i0364, i1364, ix364⟩ := idx_some h_x_9
    refine stD2 (i := 13) (by kernel_rfl) H.has (idxSA (some 122) 23 5 ga0 len 24 .i64 (IntKind.i64.wrap (nd - 2)) (by kernel_rfl) (by kernel_rfl) i0364 (of_decide_eq_true hc358) ?_)
    refine stD2 (i := 14) (by kernel_rfl) H.has (stAS fU8 none 5 0 ga0 ((IntKind.i64.wrap (nd - 2)).toNat) c9 (a1.set ((IntKind.i64.wrap (nd - 1)).toNat) c8) 99 H rfl (by kernel_rfl) (by kernel_rfl) rfl (List.getElem?_eq_some_iff.1 ix364).1 ?_)
    intro w365 H
    refine endD2 (by kernel_rfl) H.has ?_
    refine seg 1 [.co [1, 1, 1, 0, 1, 0, 1, 1, 1, 1, 0], .co [1, 1, 1, 0, 1, 0, 1, 1, 1, 1, 1], .co [1, 1, 1, 1]] [(0, .slice (some ⟨ga0, 0, none⟩) len 24), (4, .int .i64 nd), (12, .int .u32 ((UInt32.ofInt (Int.tdiv ((UInt32.ofInt (u1.toNat : Int)).toNat : Int) 10000)).toNat : Int)), (14, .int .u32 ((UInt32.ofInt (((UInt32.ofInt (Int.tdiv (Int.tmod ((UInt32.ofInt (u1.toNat : Int)).toNat : Int) 10000) 100)).toNat : Int) * 2)).toNat : Int))] (by kernel_rfl) ?_
    obtain ⟨c10, h_c10, hf⟩ := bindE hf
    obtain ⟨c11, h_c11, hf⟩ := bindE hf
    obtain ⟨x_10, h_x_10, hf⟩ := bindE hf
    obtain ⟨hc366, hf⟩ := chkE hf
    obtain ⟨i0367, i1367, ix367⟩ := idx_some h_x_10
    obtain ⟨x_11, h_x_11, hf⟩ := bindE hf
    obtain ⟨hc369, hf⟩ := chkE hf
    obtain ⟨i0370, i1370, ix370⟩ := idx_some h_x_11
    have hst : statB (bodyOf Tryd.f72) [1, 1, 1, 0, 1, 0, 1, 1, 1, 1, 0] = true := by kernel_rfl
    refine drawS (Has m) H (by kernel_rfl) (by kernel_rfl) ?_
    intro w372 H
    refine segD2 hst [0, 1, 2] [0, 1, 2] [(0, .slice (some ⟨ga0, 0, none⟩) len 24), (4, .int .i64 nd), (12, .int .u32 ((UInt32.ofInt (Int.tdiv ((UInt32.ofInt (u1.toNat : Int)).toNat : Int) 10000)).toNat : Int)), (14, .int .u32 ((UInt32.ofInt (((UInt32.ofInt (Int.tdiv (Int.tmod ((UInt32.ofInt (u1.toNat : Int)).toNat : Int) 10000) 100)).toNat : Int) * 2)).toNat : Int)), (123, .slice (some ⟨ga0, 0, none⟩) len 24), (125, .int .i64 (IntKind.i64.wrap (nd - 3)))] (by kernel_rfl) ?_
    refine segD2 hst [3, 4, 5] [0, 1, 2, 3, 4, 5] [(0, .slice (some ⟨ga0, 0, none⟩) len 24), (4, .int .i64 nd), (12, .int .u32 ((UInt32.ofInt (Int.tdiv ((UInt32.ofInt (u1.toNat : Int)).toNat : Int) 10000)).toNat : Int)), (14, .int .u32 ((UInt32.ofInt (((UInt32.ofInt (Int.tdiv (Int.tmod ((UInt32.ofInt (u1.toNat : Int)).toNat : Int) 10000) 100)).toNat : Int) * 2)).toNat : Int)), (123, .slice (some ⟨ga0, 0, none⟩) len 24), (125, .int .i64 (IntKind.i64.wrap (nd - 3))), (126, .slice (some ⟨ga0, 0, none⟩) len 24), (128, .int .i64 (IntKind.i64.wrap (nd - 4)))] (by kernel_rfl) ?_
    refine segD2 hst [6, 7] [0, 1, 2, 3, 4, 5, 6, 7] [(0, .slice (some ⟨ga0, 0, none⟩) len 24), (4, .int .i64 nd), (12, .int .u32 ((UInt32.ofInt (Int.tdiv ((UInt32.ofInt (u1.toNat : Int)).toNat : Int) 10000)).toNat : Int)), (14, .int .u32 ((UInt32.ofInt (((UInt32.ofInt (Int.tdiv (Int.tmod ((UInt32.ofInt (u1.toNat : Int)).toNat : Int) 10000) 100)).toNat : Int) * 2)).toNat : Int)), (123, .slice (some ⟨ga0, 0, none⟩) len 24), (125, .int .i64 (IntKind.i64.wrap (nd - 3))), (126, .slice (some ⟨ga0, 0, none⟩) len 24), (128, .int .i64 (IntKind.i64.wrap (nd - 4))), (130, .int .u32 (IntKind.u32.wrap (((UInt32.ofInt (((UInt32.ofInt (Int.tdiv (Int.tmod ((UInt32.ofInt (u1.toNat : Int)).toNat : Int) 10000) 100)).toNat : Int) * 2)).toNat : Int) + 1)))] (by kernel_rfl) ?_
    rw [q32_wrap (((UInt32.ofInt (((UInt32.ofInt (Int.tdiv (Int.tmod ((UInt32.ofInt (u1.toNat : Int)).toNat : Int) 10000) 100)).toNat : Int) * 2)).toNat : Int) + 1)]
    refine segD2 hst [9] [0, 1, 2, 3, 4, 5, 6, 7, 9] [(0, .slice (some ⟨ga0, 0, none⟩) len 24), (4, .int .i64 nd), (12, .int .u32 ((UInt32.ofInt (Int.tdiv ((UInt32.ofInt (u1.toNat : Int)).toNat : Int) 10000)).toNat : Int)), (123, .slice (some ⟨ga0, 0, none⟩) len 24), (125, .int .i64 (IntKind.i64.wrap (nd - 3))), (126, .slice (some ⟨ga0, 0, none⟩) len 24), (128, .int .i64 (IntKind.i64.wrap (nd - 4))), (130, .int .u32 ((UInt32.ofInt (((UInt32.ofInt (((UInt32.ofInt (Int.tdiv (Int.tmod ((UInt32.ofInt (u1.toNat : Int)).toNat : Int) 10000) 100)).toNat : Int) * 2)).toNat : Int) + 1)).toNat : Int)), (132, .int .u32 ((UInt32.ofInt (((UInt32.ofInt (Int.tdiv (Int.tmod ((UInt32.ofInt (u1.toNat : Int)).toNat : Int) 10000) 100)).toNat : Int) * 2)).toNat : Int))] (by kernel_rfl) ?_
    refine takeD2 (i := 8) (d := (some 131)) (s := vS (Instr.index 9 (.string ⟨([48, 48, 48, 49, 48, 50, 48, 51, 48, 52, 48, 53, 48, 54, 48, 55, 48, 56, 48, 57, 49, 48, 49, 49, 49, 50, 49, 51, 49, 52, 49, 53, 49, 54, 49, 55, 49, 56, 49, 57, 50, 48, 50, 49, 50, 50, 50, 51, 50, 52, 50, 53, 50, 54, 50, 55, 50, 56, 50, 57, 51, 48, 51, 49, 51, 50, 51, 51, 51, 52, 51, 53, 51, 54, 51, 55, 51, 56, 51, 57, 52, 48, 52, 49, 52, 50, 52, 51, 52, 52, 52, 53, 52, 54, 52, 55, 52, 56, 52, 57, 53, 48, 53, 49, 53, 50, 53, 51, 53, 52, 53, 53, 53, 54, 53, 55, 53, 56, 53, 57, 54, 48, 54, 49, 54, 50, 54, 51, 54, 52, 54, 53, 54, 54, 54, 55, 54, 56, 54, 57, 55, 48, 55, 49, 55, 50, 55, 51, 55, 52, 55, 53, 55, 54, 55, 55, 55, 56, 55, 57, 56, 48, 56, 49, 56, 50, 56, 51, 56, 52, 56, 53, 56, 54, 56, 55, 56, 56, 56, 57, 57, 48, 57, 49, 57, 50, 57, 51, 57, 52, 57, 53, 57, 54, 57, 55, 57, 56, 57, 57] : List UInt8).toArray⟩) (.int .u32 ((UInt32.ofInt (((UInt32.ofInt (((UInt32.ofInt (Int.tdiv (Int.tmod ((UInt32.ofInt (u1.toNat : Int)).toNat : Int) 10000) 100)).toNat : Int) * 2)).toNat : Int) + 1)).toNat : Int)))) (v := .int .u8 (c10.toNat : Int)) hst (by kernel_rfl) (by kernel_rfl) (fun w' hw' => str_idx_run _ _ _ _ _ (by kernel_rfl) h_c10) ?_
    refine takeD2 (i := 10) (d := (some 133)) (s := vS (Instr.index 9 (.string ⟨([48, 48, 48, 49, 48, 50, 48, 51, 48, 52, 48, 53, 48, 54, 48, 55, 48, 56, 48, 57, 49, 48, 49, 49, 49, 50, 49, 51, 49, 52, 49, 53, 49, 54, 49, 55, 49, 56, 49, 57, 50, 48, 50, 49, 50, 50, 50, 51, 50, 52, 50, 53, 50, 54, 50, 55, 50, 56, 50, 57, 51, 48, 51, 49, 51, 50, 51, 51, 51, 52, 51, 53, 51, 54, 51, 55, 51, 56, 51, 57, 52, 48, 52, 49, 52, 50, 52, 51, 52, 52, 52, 53, 52, 54, 52, 55, 52, 56, 52, 57, 53, 48, 53, 49, 53, 50, 53, 51, 53, 52, 53, 53, 53, 54, 53, 55, 53, 56, 53, 57, 54, 48, 54, 49, 54, 50, 54, 51, 54, 52, 54, 53, 54, 54, 54, 55, 54, 56, 54, 57, 55, 48, 55, 49, 55, 50, 55, 51, 55, 52, 55, 53, 55, 54, 55, 55, 55, 56, 55, 57, 56, 48, 56, 49, 56, 50, 56, 51, 56, 52, 56, 53, 56, 54, 56, 55, 56, 56, 56, 57, 57, 48, 57, 49, 57, 50, 57, 51, 57, 52, 57, 53, 57, 54, 57, 55, 57, 56, 57, 57] : List UInt8).toArray⟩) (.int .u32 ((UInt32.ofInt (((UInt32.ofInt (Int.tdiv (Int.tmod ((UInt32.ofInt (u1.toNat : Int)).toNat : Int) 10000) 100)).toNat : Int) * 2)).toNat : Int)))) (v := .int .u8 (c11.toNat : Int)) hst (by kernel_rfl) (by kernel_rfl) (fun w' hw' => str_idx_run _ _ _ _ _ (by kernel_rfl) h_c11) ?_
    replace H : St w F m m [blkI ga0 (((a1.set ((IntKind.i64.wrap (nd - 1)).toNat) c8).set ((IntKind.i64.wrap (nd - 2)).toNat) c9).map fU8) 99] w372 := H
    obtain ⟨i0373, i1373, ix373⟩ := idx_some h_x_10
    refine stD2 (i := 11) (by kernel_rfl) H.has (idxSA (some 134) 23 5 ga0 len 24 .i64 (IntKind.i64.wrap (nd - 3)) (by kernel_rfl) (by kernel_rfl) i0373 (of_decide_eq_true hc366) ?_)
    refine stD2 (i := 12) (by kernel_rfl) H.has (stAS fU8 none 5 0 ga0 ((IntKind.i64.wrap (nd - 3)).toNat) c10 ((a1.set ((IntKind.i64.wrap (nd - 1)).toNat) c8).set ((IntKind.i64.wrap (nd - 2)).toNat) c9) 99 H rfl (by kernel_rfl) (by kernel_rfl) rfl (List.getElem?_eq_some_iff.1 ix373).1 ?_)
    intro w374 H
    obtain ⟨i0375, i1375, ix375⟩ := idx_some h_x_11
    refine stD2 (i := 13) (by kernel_rfl) H.has (idxSA (some 135) 23 5 ga0 len 24 .i64 (IntKind.i64.wrap (nd - 4)) (by kernel_rfl) (by kernel_rfl) i0375 (of_decide_eq_true hc369) ?_)
    refine stD2 (i := 14) (by kernel_rfl) H.has (stAS fU8 none 5 0 ga0 ((IntKind.i64.wrap (nd - 4)).toNat) c11 (((a1.set ((IntKind.i64.wrap (nd - 1)).toNat) c8).set ((IntKind.i64.wrap (nd - 2)).toNat) c9).set ((IntKind.i64.wrap (nd - 3)).toNat) c10) 99 H rfl (by kernel_rfl) (by kernel_rfl) rfl (List.getElem?_eq_some_iff.1 ix375).1 ?_)
    intro w376 H
    refine endD2 (by kernel_rfl) H.has ?_
    refine seg 11 [.co [1, 1, 1, 1, 0, 1], .co [1, 1, 1, 1, 1]] [(0, .slice (some ⟨ga0, 0, none⟩) len 24), (4, .int .i64 (IntKind.i64.wrap (nd - 4))), (12, .int .u32 ((UInt32.ofInt (Int.tdiv ((UInt32.ofInt (u1.toNat : Int)).toNat : Int) 10000)).toNat : Int)), (139, .bool (decide ((IntKind.i64.wrap (nd - 4)) ≥ 2)))] (by kernel_rfl) ?_
    rcases condT hf with ⟨hb377, hf⟩ | ⟨hb377, hf⟩
    · rw [hb377]
      have p377 := of_decide_eq_true hb377
      refine seg 15 [.co [1, 1, 1, 1, 0, 1, 0, 1, 1, 0], .co [1, 1, 1, 1, 0, 1, 0, 1, 1, 1], .co [1, 1, 1, 1, 1]] [(0, .slice (some ⟨ga0, 0, none⟩) len 24), (4, .int .i64 (IntKind.i64.wrap (nd - 4))), (12, .int .u32 (IntKind.u32.wrap (Int.tdiv ((UInt32.ofInt (Int.tdiv ((UInt32.ofInt (u1.toNat : Int)).toNat : Int) 10000)).toNat : Int) 100))), (16, .int .u32 (IntKind.u32.wrap ((Int.tmod ((UInt32.ofInt (Int.tdiv ((UInt32.ofInt (u1.toNat : Int)).toNat : Int) 10000)).toNat : Int) 100) * 2)))] (by kernel_rfl) ?_
      rw [q32_wrap (Int.tdiv ((UInt32.ofInt (Int.tdiv ((UInt32.ofInt (u1.toNat : Int)).toNat : Int) 10000)).toNat : Int) 100)]
      rw [q32_wrap ((Int.tmod ((UInt32.ofInt (Int.tdiv ((UInt32.ofInt (u1.toNat : Int)).toNat : Int) 10000)).toNat : Int) 100) * 2)]
      obtain ⟨c12, h_c12, hf⟩ := bindE hf
      obtain ⟨c13, h_c13, hf⟩ := bindE hf
      obtain ⟨x_12, h_x_12, hf⟩ := bindE hf
      obtain ⟨hc378, hf⟩ := chkE hf
      obtain ⟨i0379, i1379, ix379⟩ := idx_some h_x_12
      obtain ⟨x_13, h_x_13, hf⟩ := bindE hf
      obtain ⟨hc381, hf⟩ := chkE hf
      obtain ⟨i0382, i1382, ix382⟩ := idx_some h_x_13
      have hst : statB (bodyOf Tryd.f72) [1, 1, 1, 1, 0, 1, 0, 1, 1, 0] = true := by kernel_rfl
      refine drawS (Has m) H (by kernel_rfl) (by kernel_rfl) ?_
      intro w384 H
      refine segD2 hst [0, 1, 2] [0, 1, 2] [(0, .slice (some ⟨ga0, 0, none⟩) len 24), (4, .int .i64 (IntKind.i64.wrap (nd - 4))), (12, .int .u32 ((UInt32.ofInt (Int.tdiv ((UInt32.ofInt (Int.tdiv ((UInt32.ofInt (u1.toNat : Int)).toNat : Int) 10000)).toNat : Int) 100)).toNat : Int)), (16, .int .u32 ((UInt32.ofInt ((Int.tmod ((UInt32.ofInt (Int.tdiv ((UInt32.ofInt (u1.toNat : Int)).toNat : Int) 10000)).toNat : Int) 100) * 2)).toNat : Int)), (145, .slice (some ⟨ga0, 0, none⟩) len 24), (147, .int .i64 (IntKind.i64.wrap ((IntKind.i64.wrap (nd - 4)) - 1)))] (by kernel_rfl) ?_
      refine segD2 hst [3, 4, 5] [0, 1, 2, 3, 4, 5] [(0, .slice (some ⟨ga0, 0, none⟩) len 24), (4, .int .i64 (IntKind.i64.wrap (nd - 4))), (12, .int .u32 ((UInt32.ofInt (Int.tdiv ((UInt32.ofInt (Int.tdiv ((UInt32.ofInt (u1.toNat : Int)).toNat : Int) 10000)).toNat : Int) 100)).toNat : Int)), (16, .int .u32 ((UInt32.ofInt ((Int.tmod ((UInt32.ofInt (Int.tdiv ((UInt32.ofInt (u1.toNat : Int)).toNat : Int) 10000)).toNat : Int) 100) * 2)).toNat : Int)), (145, .slice (some ⟨ga0, 0, none⟩) len 24), (147, .int .i64 (IntKind.i64.wrap ((IntKind.i64.wrap (nd - 4)) - 1))), (148, .slice (some ⟨ga0, 0, none⟩) len 24), (150, .int .i64 (IntKind.i64.wrap ((IntKind.i64.wrap (nd - 4)) - 2)))] (by kernel_rfl) ?_
      refine segD2 hst [6, 7] [0, 1, 2, 3, 4, 5, 6, 7] [(0, .slice (some ⟨ga0, 0, none⟩) len 24), (4, .int .i64 (IntKind.i64.wrap (nd - 4))), (12, .int .u32 ((UInt32.ofInt (Int.tdiv ((UInt32.ofInt (Int.tdiv ((UInt32.ofInt (u1.toNat : Int)).toNat : Int) 10000)).toNat : Int) 100)).toNat : Int)), (16, .int .u32 ((UInt32.ofInt ((Int.tmod ((UInt32.ofInt (Int.tdiv ((UInt32.ofInt (u1.toNat : Int)).toNat : Int) 10000)).toNat : Int) 100) * 2)).toNat : Int)), (145, .slice (some ⟨ga0, 0, none⟩) len 24), (147, .int .i64 (IntKind.i64.wrap ((IntKind.i64.wrap (nd - 4)) - 1))), (148, .slice (some ⟨ga0, 0, none⟩) len 24), (150, .int .i64 (IntKind.i64.wrap ((IntKind.i64.wrap (nd - 4)) - 2))), (152, .int .u32 (IntKind.u32.wrap (((UInt32.ofInt ((Int.tmod ((UInt32.ofInt (Int.tdiv ((UInt32.ofInt (u1.toNat : Int)).toNat : Int) 10000)).toNat : Int) 100) * 2)).toNat : Int) + 1)))] (by kernel_rfl) ?_
      rw [q32_wrap (((UInt32.ofInt ((Int.tmod ((UInt32.ofInt (Int.tdiv ((UInt32.ofInt (u1.toNat : Int)).toNat : Int) 10000)).toNat : Int) 100) * 2)).toNat : Int) + 1)]
      refine segD2 hst [9] [0, 1, 2, 3, 4, 5, 6, 7, 9] [(0, .slice (some ⟨ga0, 0, none⟩) len 24), (4, .int .i64 (IntKind.i64.wrap (nd - 4))), (12, .int .u32 ((UInt32.ofInt (Int.tdiv ((UInt32.ofInt (Int.tdiv ((UInt32.ofInt (u1.toNat : Int)).toNat : Int) 10000)).toNat : Int) 100)).toNat : Int)), (145, .slice (some ⟨ga0, 0, none⟩) len 24), (147, .int .i64 (IntKind.i64.wrap ((IntKind.i64.wrap (nd - 4)) - 1))), (148, .slice (some ⟨ga0, 0, none⟩) len 24), (150, .int .i64 (IntKind.i64.wrap ((IntKind.i64.wrap (nd - 4)) - 2))), (152, .int .u32 ((UInt32.ofInt (((UInt32.ofInt ((Int.tmod ((UInt32.ofInt (Int.tdiv ((UInt32.ofInt (u1.toNat : Int)).toNat : Int) 10000)).toNat : Int) 100) * 2)).toNat : Int) + 1)).toNat : Int)), (154, .int .u32 ((UInt32.ofInt ((Int.tmod ((UInt32.ofInt (Int.tdiv ((UInt32.ofInt (u1.toNat : Int)).toNat : Int) 10000)).toNat : Int) 100) * 2)).toNat : Int))] (by kernel_rfl) ?_
      refine takeD2 (i := 8) (d := (some 153)) (s := vS (Instr.index 9 (.string ⟨([48, 48, 48, 49, 48, 50, 48, 51, 48, 52, 48, 53, 48, 54, 48, 55, 48, 56, 48, 57, 49, 48, 49, 49, 49, 50, 49, 51, 49, 52, 49, 53, 49, 54, 49, 55, 49, 56, 49, 57, 50, 48, 50, 49, 50, 50, 50, 51, 50, 52, 50, 53, 50, 54, 50, 55, 50, 56, 50, 57, 51, 48, 51, 49, 51, 50, 51, 51, 51, 52, 51, 53, 51, 54, 51, 55, 51, 56, 51, 57, 52, 48, 52, 49, 52, 50, 52, 51, 52, 52, 52, 53, 52, 54, 52, 55, 52, 56, 52, 57, 53, 48, 53, 49, 53, 50, 53, 51, 53, 52, 53, 53, 53, 54, 53, 55, 53, 56, 53, 57, 54, 48, 54, 49, 54, 50, 54, 51, 54, 52, 54, 53, 54, 54, 54, 55, 54, 56, 54, 57, 55, 48, 55, 49, 55, 50, 55, 51, 55, 52, 55, 53, 55, 54, 55, 55, 55, 56, 55, 57, 56, 48, 56, 49, 56, 50, 56, 51, 56, 52, 56, 53, 56, 54, 56, 55, 56, 56, 56, 57, 57, 48, 57, 49, 57, 50, 57, 51, 57, 52, 57, 53, 57, 54, 57, 55, 57, 56, 57, 57] : List UInt8).toArray⟩) (.int .u32 ((UInt32.ofInt (((UInt32.ofInt ((Int.tmod ((UInt32.ofInt (Int.tdiv ((UInt32.ofInt (u1.toNat : Int)).toNat : Int) 10000)).toNat : Int) 100) * 2)).toNat : Int) + 1)).toNat : Int)))) (v := .int .u8 (c12.toNat : Int)) hst (by kernel_rfl) (by kernel_rfl) (fun w' hw' => str_idx_run _ _ _ _ _ (by kernel_rfl) h_c12) ?_
      refine takeD2 (i := 10) (d := (some 155)) (s := vS (Instr.index 9 (.string ⟨([48, 48, 48, 49, 48, 50, 48, 51, 48, 52, 48, 53, 48, 54, 48, 55, 48, 56, 48, 57, 49, 48, 49, 49, 49, 50, 49, 51, 49, 52, 49, 53, 49, 54, 49, 55, 49, 56, 49, 57, 50, 48, 50, 49, 50, 50, 50, 51, 50, 52, 50, 53, 50, 54, 50, 55, 50, 56, 50, 57, 51, 48, 51, 49, 51, 50, 51, 51, 51, 52, 51, 53, 51, 54, 51, 55, 51, 56, 51, 57, 52, 48, 52, 49, 52, 50, 52, 51, 52, 52, 52, 53, 52, 54, 52, 55, 52, 56, 52, 57, 53, 48, 53, 49, 53, 50, 53, 51, 53, 52, 53, 53, 53, 54, 53, 55, 53, 56, 53, 57, 54, 48, 54, 49, 54, 50, 54, 51, 54, 52, 54, 53, 54, 54, 54, 55, 54, 56, 54, 57, 55, 48, 55, 49, 55, 50, 55, 51, 55, 52, 55, 53, 55, 54, 55, 55, 55, 56, 55, 57, 56, 48, 56, 49, 56, 50, 56, 51, 56, 52, 56, 53, 56, 54, 56, 55, 56, 56, 56, 57, 57, 48, 57, 49, 57, 50, 57, 51, 57, 52, 57, 53, 57, 54, 57, 55, 57, 56, 57, 57] : List UInt8).toArray⟩) (.int .u32 ((UInt32.ofInt ((Int.tmod ((UInt32.ofInt (Int.tdiv ((UInt32.ofInt (u1.toNat : Int)).toNat : Int) 10000)).toNat : Int) 100) * 2)).toNat : Int)))) (v := .int .u8 (c13.toNat : Int)) hst (by kernel_rfl) (by kernel_rfl) (fun w' hw' => str_idx_run _ _ _ _ _ (by kernel_rfl) h_c13) ?_
      replace H : St w F m m [blkI ga0 (((((a1.set ((IntKind.i64.wrap (nd - 1)).toNat) c8).set ((IntKind.i64.wrap (nd - 2)).toNat) c9).set ((IntKind.i64.wrap (nd - 3)).toNat) c10).set ((IntKind.i64.wrap (nd - 4)).toNat) c11).map fU8) 99] w384 := H
      obtain ⟨i0385, i1385, ix385⟩ := idx_some h_x_12
      refine stD2 (i := 11) (by kernel_rfl) H.has (idxSA (some 156) 23 5 ga0 len 24 .i64 (IntKind.i64.wrap ((IntKind.i64.wrap (nd - 4)) - 1)) (by kernel_rfl) (by kernel_rfl) i0385 (of_decide_eq_true hc378) ?_)
      refine stD2 (i := 12) (by kernel_rfl) H.has (stAS fU8 none 5 0 ga0 ((IntKind.i64.wrap ((IntKind.i64.wrap (nd - 4)) - 1)).toNat) c12 ((((a1.set ((IntKind.i64.wrap (nd - 1)).toNat) c8).set ((IntKind.i64.wrap (nd - 2)).toNat) c9).set ((IntKind.i64.wrap (nd - 3)).toNat) c10).set ((IntKind.i64.wrap (nd - 4)).toNat) c11) 99 H rfl (by kernel_rfl) (by kernel_rfl) rfl (List.getElem?_eq_some_iff.1 ix385).1 ?_)
      intro w386 H
      obtain ⟨i0387, i1387, ix387⟩ := idx_some h_x_13
      refine stD2 (i := 13) (by kernel_rfl) H.has (idxSA (some 157) 23 5 ga0 len 24 .i64 (IntKind.i64.wrap ((IntKind.i64.wrap (nd - 4)) - 2)) (by kernel_rfl) (by kernel_rfl) i0387 (of_decide_eq_true hc381) ?_)
      refine stD2 (i := 14) (by kernel_rfl) H.has (stAS fU8 none 5 0 ga0 ((IntKind.i64.wrap ((IntKind.i64.wrap (nd - 4)) - 2)).toNat) c13 (((((a1.set ((IntKind.i64.wrap (nd - 1)).toNat) c8).set ((IntKind.i64.wrap (nd - 2)).toNat) c9).set ((IntKind.i64.wrap (nd - 3)).toNat) c10).set ((IntKind.i64.wrap (nd - 4)).toNat) c11).set ((IntKind.i64.wrap ((IntKind.i64.wrap (nd - 4)) - 1)).toNat) c12) 99 H rfl (by kernel_rfl) (by kernel_rfl) rfl (List.getElem?_eq_some_iff.1 ix387).1 ?_)
      intro w388 H
      refine endD2 (by kernel_rfl) H.has ?_
      refine seg 10 [.co [1, 1, 1, 1, 1, 1]] [(0, .slice (some ⟨ga0, 0, none⟩) len 24), (12, .int .u32 ((UInt32.ofInt (Int.tdiv ((UInt32.ofInt (Int.tdiv ((UInt32.ofInt (u1.toNat : Int)).toNat : Int) 10000)).toNat : Int) 100)).toNat : Int)), (161, .bool (decide ((IntKind.i64.wrap ((IntKind.i64.wrap (nd - 4)) - 2)) > 0)))] (by kernel_rfl) ?_
      rcases condT hf with ⟨hb389, hf⟩ | ⟨hb389, hf⟩
      · rw [hb389]
        have p389 := of_decide_eq_true hb389
        refine seg 6 [.op [1, 1, 1, 1, 1, 1, 0] 4] [(162, .slice (some ⟨ga0, 0, none⟩) len 24), (165, .int .u8 (IntKind.u8.wrap (IntKind.u32.wrap (48 + ((UInt32.ofInt (Int.tdiv ((UInt32.ofInt (Int.tdiv ((UInt32.ofInt (u1.toNat : Int)).toNat : Int) 10000)).toNat : Int) 100)).toNat : Int)))))] (by kernel_rfl) ?_
        rw [q32_wrap (48 + ((UInt32.ofInt (Int.tdiv ((UInt32.ofInt (Int.tdiv ((UInt32.ofInt (u1.toNat : Int)).toNat : Int) 10000)).toNat : Int) 100)).toNat : Int))]
        rw [q8_wrap ((UInt32.ofInt (48 + ((UInt32.ofInt (Int.tdiv ((UInt32.ofInt (Int.tdiv ((UInt32.ofInt (u1.toNat : Int)).toNat : Int) 10000)).toNat : Int) 100)).toNat : Int))).toNat : Int)]
        obtain ⟨x_14, h_x_14, hf⟩ := bindE hf
        obtain ⟨hc390, hf⟩ := chkE hf
        obtain ⟨i0391, i1391, ix391⟩ := idx_some h_x_14
        refine st (idxSA (some 166) 23 5 ga0 len 24 .i64 0 (by kernel_rfl) (by kernel_rfl) i0391 (of_decide_eq_true hc390) ?_)
        refine st (stAS fU8 none 5 0 ga0 ((0 : Int).toNat) (UInt8.ofInt ((UInt32.ofInt (48 + ((UInt32.ofInt (Int.tdiv ((UInt32.ofInt (Int.tdiv ((UInt32.ofInt (u1.toNat : Int)).toNat : Int) 10000)).toNat : Int) 100)).toNat : Int))).toNat : Int)) ((((((a1.set ((IntKind.i64.wrap (nd - 1)).toNat) c8).set ((IntKind.i64.wrap (nd - 2)).toNat) c9).set ((IntKind.i64.wrap (nd - 3)).toNat) c10).set ((IntKind.i64.wrap (nd - 4)).toNat) c11).set ((IntKind.i64.wrap ((IntKind.i64.wrap (nd - 4)) - 1)).toNat) c12).set ((IntKind.i64.wrap ((IntKind.i64.wrap (nd - 4)) - 2)).toNat) c13) 99 H rfl (by kernel_rfl) (by kernel_rfl) rfl (List.getElem?_eq_some_iff.1 ix391).1 ?_)
        intro w392 H
        refine seg 1 [] [] (by kernel_rfl) ?_
        refine endR [] [] (by kernel_rfl) (by kernel_rfl) ?_
        obtain rfl : (((((((a1.set ((IntKind.i64.wrap (nd - 1)).toNat) c8).set ((IntKind.i64.wrap (nd - 2)).toNat) c9).set ((IntKind.i64.wrap (nd - 3)).toNat) c10).set ((IntKind.i64.wrap (nd - 4)).toNat) c11).set ((IntKind.i64.wrap ((IntKind.i64.wrap (nd - 4)) - 1)).toNat) c12).set ((IntKind.i64.wrap ((IntKind.i64.wrap (nd - 4)) - 2)).toNat) c13).set ((0 : Int).toNat) (UInt8.ofInt ((UInt32.ofInt (48 + ((UInt32.ofInt (Int.tdiv ((UInt32.ofInt (Int.tdiv ((UInt32.ofInt (u1.toNat : Int)).toNat : Int) 10000)).toNat : Int) 100)).toNat : Int))).toNat : Int))) = r := (Option.some.inj hf)
        exact ⟨_, rfl, m, rfl, H⟩
      · rw [hb389]
        have p389 := of_decide_eq_false hb389
        refine seg 2 [] [] (by kernel_rfl) ?_
        refine endR [] [] (by kernel_rfl) (by kernel_rfl) ?_
        obtain rfl : ((((((a1.set ((IntKind.i64.wrap (nd - 1)).toNat) c8).set ((IntKind.i64.wrap (nd - 2)).toNat) c9).set ((IntKind.i64.wrap (nd - 3)).toNat) c10).set ((IntKind.i64.wrap (nd - 4)).toNat) c11).set ((IntKind.i64.wrap ((IntKind.i64.wrap (nd - 4)) - 1)).toNat) c12).set ((IntKind.i64.wrap ((IntKind.i64.wrap (nd - 4)) - 2)).toNat) c13) = r := (Option.some.inj hf)
        exact ⟨_, rfl, m, rfl, H⟩
    · rw [hb377]
      have p377 := of_decide_eq_false hb377
      refine seg 7 [.co [1, 1, 1, 1, 1, 1]] [(0, .slice (some ⟨ga0, 0, none⟩) len 24), (12, .int .u32 ((UInt32.ofInt (Int.tdiv ((UInt32.ofInt (u1.toNat : Int)).toNat : Int) 10000)).toNat : Int)), (161, .bool (decide ((IntKind.i64.wrap (nd - 4)) > 0)))] (by kernel_rfl) ?_
      rcases condT hf with ⟨hb393, hf⟩ | ⟨hb393, hf⟩
      · rw [hb393]
        have p393 := of_decide_eq_true hb393
        refine seg 6 [.op [1, 1, 1, 1, 1, 1, 0] 4] [(162, .slice (some ⟨ga0, 0, none⟩) len 24), (165, .int .u8 (IntKind.u8.wrap (IntKind.u32.wrap (48 + ((UInt32.ofInt (Int.tdiv ((UInt32.ofInt (u1.toNat : Int)).toNat : Int) 10000)).toNat : Int)))))] (by kernel_rfl) ?_
        rw [q32_wrap (48 + ((UInt32.ofInt (Int.tdiv ((UInt32.ofInt (u1.toNat : Int)).toNat : Int) 10000)).toNat : Int))]
        rw [q8_wrap ((UInt32.ofInt (48 + ((UInt32.ofInt (Int.tdiv ((UInt32.ofInt (u1.toNat : Int)).toNat : Int) 10000)).toNat : Int))).toNat : Int)]
        obtain ⟨x_15, h_x_15, hf⟩ := bindE hf
        obtain ⟨hc394, hf⟩ := chkE hf
        obtain ⟨i0395, i1395, ix395⟩ := idx_some h_x_15
        refine st (idxSA (some 166) 23 5 ga0 len 24 .i64 0 (by kernel_rfl) (by kernel_rfl) i0395 (of_decide_eq_true hc394) ?_)
        refine st (stAS fU8 none 5 0 ga0 ((0 : Int).toNat) (UInt8.ofInt ((UInt32.ofInt (48 + ((UInt32.ofInt (Int.tdiv ((UInt32.ofInt (u1.toNat : Int)).toNat : Int) 10000)).toNat : Int))).toNat : Int)) ((((a1.set ((IntKind.i64.wrap (nd - 1)).toNat) c8).set ((IntKind.i64.wrap (nd - 2)).toNat) c9).set ((IntKind.i64.wrap (nd - 3)).toNat) c10).set ((IntKind.i64.wrap (nd - 4)).toNat) c11) 99 H rfl (by kernel_rfl) (by kernel_rfl) rfl (List.getElem?_eq_some_iff.1 ix395).1 ?_)
        intro w396 H
        refine seg 1 [] [] (by kernel_rfl) ?_
        refine endR [] [] (by kernel_rfl) (by kernel_rfl) ?_
        obtain rfl : (((((a1.set ((IntKind.i64.wrap (nd - 1)).toNat) c8).set ((IntKind.i64.wrap (nd - 2)).toNat) c9).set ((IntKind.i64.wrap (nd - 3)).toNat) c10).set ((IntKind.i64.wrap (nd - 4)).toNat) c11).set ((0 : Int).toNat) (UInt8.ofInt ((UInt32.ofInt (48 + ((UInt32.ofInt (Int.tdiv ((UInt32.ofInt (u1.toNat : Int)).toNat : Int) 10000)).toNat : Int))).toNat : Int))) = r := (Option.some.inj hf)
        exact ⟨_, rfl, m, rfl, H⟩
      · rw [hb393]
        have p393 := of_decide_eq_false hb393
        refine seg 2 [] [] (by kernel_rfl) ?_
        refine endR [] [] (by kernel_rfl) (by kernel_rfl) ?_
        obtain rfl : ((((a1.set ((IntKind.i64.wrap (nd - 1)).toNat) c8).set ((IntKind.i64.wrap (nd - 2)).toNat) c9).set ((IntKind.i64.wrap (nd - 3)).toNat) c10).set ((IntKind.i64.wrap (nd - 4)).toNat) c11) = r := (Option.some.inj hf)
        exact ⟨_, rfl, m, rfl, H⟩
  · rw [hb354]
    have p354 := of_decide_eq_false hb354
    refine seg 8 [.co [1, 1, 1, 1, 0, 1], .co [1, 1, 1, 1, 1]] [(0, .slice (some ⟨ga0, 0, none⟩) len 24), (4, .int .i64 nd), (12, .int .u32 ((UInt32.ofInt (u1.toNat : Int)).toNat : Int)), (139, .bool (decide (nd ≥ 2)))] (by kernel_rfl) ?_
    rcases condT hf with ⟨hb397, hf⟩ | ⟨hb397, hf⟩
    · rw [hb397]
      have p397 := of_decide_eq_true hb397
      refine seg 15 [.co [1, 1, 1, 1, 0, 1, 0, 1, 1, 0], .co [1, 1, 1, 1, 0, 1, 0, 1, 1, 1], .co [1, 1, 1, 1, 1]] [(0, .slice (some ⟨ga0, 0, none⟩) len 24), (4, .int .i64 nd), (12, .int .u32 (IntKind.u32.wrap (Int.tdiv ((UInt32.ofInt (u1.toNat : Int)).toNat : Int) 100))), (16, .int .u32 (IntKind.u32.wrap ((Int.tmod ((UInt32.ofInt (u1.toNat : Int)).toNat : Int) 100) * 2)))] (by kernel_rfl) ?_
      rw [q32_wrap (Int.tdiv ((UInt32.ofInt (u1.toNat : Int)).toNat : Int) 100)]
      rw [q32_wrap ((Int.tmod ((UInt32.ofInt (u1.toNat : Int)).toNat : Int) 100) * 2)]
      obtain ⟨c14, h_c14, hf⟩ := bindE hf
      obtain ⟨c15, h_c15, hf⟩ := bindE hf
      obtain ⟨x_16, h_x_16, hf⟩ := bindE hf
      obtain ⟨hc398, hf⟩ := chkE hf
      obtain ⟨i0399, i1399, ix399⟩ := idx_some h_x_16
      obtain ⟨x_17, h_x_17, hf⟩ := bindE hf
      obtain ⟨hc401, hf⟩ := chkE hf
      obtain ⟨i0402, i1402, ix402⟩ := idx_some h_x_17
      have hst : statB (bodyOf Tryd.f72) [1, 1, 1, 1, 0, 1, 0, 1, 1, 0] = true := by kernel_rfl
      refine drawS (Has m) H (by kernel_rfl) (by kernel_rfl) ?_
      intro w404 H
      refine segD2 hst [0, 1, 2] [0, 1, 2] [(0, .slice (some ⟨ga0, 0, none⟩) len 24), (4, .int .i64 nd), (12, .int .u32 ((UInt32.ofInt (Int.tdiv ((UInt32.ofInt (u1.toNat : Int)).toNat : Int) 100)).toNat : Int)), (16, .int .u32 ((UInt32.ofInt ((Int.tmod ((UInt32.ofInt (u1.toNat : Int)).toNat : Int) 100) * 2)).toNat : Int)), (145, .slice (some ⟨ga0, 0, none⟩) len 24), (147, .int .i64 (IntKind.i64.wrap (nd - 1)))] (by kernel_rfl) ?_
      rw [show IntKind.i64.wrap (nd - 1) = (nd - 1) from w64 (by omega)]
      refine segD2 hst [3, 4, 5] [0, 1, 2, 3, 4, 5] [(0, .slice (some ⟨ga0, 0, none⟩) len 24), (4, .int .i64 nd), (12, .int .u32 ((UInt32.ofInt (Int.tdiv ((UInt32.ofInt (u1.toNat : Int)).toNat : Int) 100)).toNat : Int)), (16, .int .u32 ((UInt32.ofInt ((Int.tmod ((UInt32.ofInt (u1.toNat : Int)).toNat : Int) 100) * 2)).toNat : Int)), (145, .slice (some ⟨ga0, 0, none⟩) len 24), (147, .int .i64 (nd - 1)), (148, .slice (some ⟨ga0, 0, none⟩) len 24), (150, .int .i64 (IntKind.i64.wrap (nd - 2)))] (by kernel_rfl) ?_
      rw [show IntKind.i64.wrap (nd - 2) = (nd - 2) from w64 (by omega)]
      refine segD2 hst [6, 7] [0, 1, 2, 3, 4, 5, 6, 7] [(0, .slice (some ⟨ga0, 0, none⟩) len 24), (4, .int .i64 nd), (12, .int .u32 ((UInt32.ofInt (Int.tdiv ((UInt32.ofInt (u1.toNat : Int)).toNat : Int) 100)).toNat : Int)), (16, .int .u32 ((UInt32.ofInt ((Int.tmod ((UInt32.ofInt (u1.toNat : Int)).toNat : Int) 100) * 2)).toNat : Int)), (145, .slice (some ⟨ga0, 0, none⟩) len 24), (147, .int .i64 (nd - 1)), (148, .slice (some ⟨ga0, 0, none⟩) len 24), (150, .int .i64 (nd - 2)), (152, .int .u32 (IntKind.u32.wrap (((UInt32.ofInt ((Int.tmod ((UInt32.ofInt (u1.toNat : Int)).toNat : Int) 100) * 2)).toNat : Int) + 1)))] (by kernel_rfl) ?_
      rw [q32_wrap (((UInt32.ofInt ((Int.tmod ((UInt32.ofInt (u1.toNat : Int)).toNat : Int) 100) * 2)).toNat : Int) + 1)]
      refine segD2 hst [9] [0, 1, 2, 3, 4, 5, 6, 7, 9] [(0, .slice (some ⟨ga0, 0, none⟩) len 24), (4, .int .i64 nd), (12, .int .u32 ((UInt32.ofInt (Int.tdiv ((UInt32.ofInt (u1.toNat : Int)).toNat : Int) 100)).toNat : Int)), (145, .slice (some ⟨ga0, 0, none⟩) len 24), (147, .int .i64 (nd - 1)), (148, .slice (some ⟨ga0, 0, none⟩) len 24), (150, .int .i64 (nd - 2)), (152, .int .u32 ((UInt32.ofInt (((UInt32.ofInt ((Int.tmod ((UInt32.ofInt (u1.toNat : Int)).toNat : Int) 100) * 2)).toNat : Int) + 1)).toNat : Int)), (154, .int .u32 ((UInt32.ofInt ((Int.tmod ((UInt32.ofInt (u1.toNat : Int)).toNat : Int) 100) * 2)).toNat : Int))] (by kernel_rfl) ?_
      refine takeD2 (i := 8) (d := (some 153)) (s := vS (Instr.index 9 (.string ⟨([48, 48, 48, 49, 48, 50, 48, 51, 48, 52, 48, 53, 48, 54, 48, 55, 48, 56, 48, 57, 49, 48, 49, 49, 49, 50, 49, 51, 49, 52, 49, 53, 49, 54, 49, 55, 49, 56, 49, 57, 50, 48, 50, 49, 50, 50, 50, 51, 50, 52, 50, 53, 50, 54, 50, 55, 50, 56, 50, 57, 51, 48, 51, 49, 51, 50, 51, 51, 51, 52, 51, 53, 51, 54, 51, 55, 51, 56, 51, 57, 52, 48, 52, 49, 52, 50, 52, 51, 52, 52, 52, 53, 52, 54, 52, 55, 52, 56, 52, 57, 53, 48, 53, 49, 53, 50, 53, 51, 53, 52, 53, 53, 53, 54, 53, 55, 53, 56, 53, 57, 54, 48, 54, 49, 54, 50, 54, 51, 54, 52, 54, 53, 54, 54, 54, 55, 54, 56, 54, 57, 55, 48, 55, 49, 55, 50, 55, 51, 55, 52, 55, 53, 55, 54, 55, 55, 55, 56, 55, 57, 56, 48, 56, 49, 56, 50, 56, 51, 56, 52, 56, 53, 56, 54, 56, 55, 56, 56, 56, 57, 57, 48, 57, 49, 57, 50, 57, 51, 57, 52, 57, 53, 57, 54, 57, 55, 57, 56, 57, 57] : List UInt8).toArray⟩) (.int .u32 ((UInt32.ofInt (((UInt32.ofInt ((Int.tmod ((UInt32.ofInt (u1.toNat : Int)).toNat : Int) 100) * 2)).toNat : Int) + 1)).toNat : Int)))) (v := .int .u8 (c14.toNat : Int)) hst (by kernel_rfl) (by kernel_rfl) (fun w' hw' => str_idx_run _ _ _ _ _ (by kernel_rfl) h_c14) ?_
      refine takeD2 (i := 10) (d := (some 155)) (s := vS (Instr.index 9 (.string ⟨([48, 48, 48, 49, 48, 50, 48, 51, 48, 52, 48, 53, 48, 54, 48, 55, 48, 56, 48, 57, 49, 48, 49, 49, 49, 50, 49, 51, 49, 52, 49, 53, 49, 54, 49, 55, 49, 56, 49, 57, 50, 48, 50, 49, 50, 50, 50, 51, 50, 52, 50, 53, 50, 54, 50, 55, 50, 56, 50, 57, 51, 48, 51, 49, 51, 50, 51, 51, 51, 52, 51, 53, 51, 54, 51, 55, 51, 56, 51, 57, 52, 48, 52, 49, 52, 50, 52, 51, 52, 52, 52, 53, 52, 54, 52, 55, 52, 56, 52, 57, 53, 48, 53, 49, 53, 50, 53, 51, 53, 52, 53, 53, 53, 54, 53, 55, 53, 56, 53, 57, 54, 48, 54, 49, 54, 50, 54, 51, 54, 52, 54, 53, 54, 54, 54, 55, 54, 56, 54, 57, 55, 48, 55, 49, 55, 50, 55, 51, 55, 52, 55, 53, 55, 54, 55, 55, 55, 56, 55, 57, 56, 48, 56, 49, 56, 50, 56, 51, 56, 52, 56, 53, 56, 54, 56, 55, 56, 56, 56, 57, 57, 48, 57, 49, 57, 50, 57, 51, 57, 52, 57, 53, 57, 54, 57, 55, 57, 56, 57, 57] : List UInt8).toArray⟩) (.int .u32 ((UInt32.ofInt ((Int.tmod ((UInt32.ofInt (u1.toNat : Int)).toNat : Int) 100) * 2)).toNat : Int)))) (v := .int .u8 (c15.toNat : Int)) hst (by kernel_rfl) (by kernel_rfl) (fun w' hw' => str_idx_run _ _ _ _ _ (by kernel_rfl) h_c15) ?_
      replace H : St w F m m [blkI ga0 (a1.map fU8) 99] w404 := H
      obtain ⟨i0405, i1405, ix405⟩ := idx_some h_x_16
      refine stD2 (i := 11) (by kernel_rfl) H.has (idxSA (some 156) 23 5 ga0 len 24 .i64 (nd - 1) (by kernel_rfl) (by kernel_rfl) i0405 (of_decide_eq_true hc398) ?_)
      refine stD2 (i := 12) (by kernel_rfl) H.has (stAS fU8 none 5 0 ga0 ((nd - 1).toNat) c14 a1 99 H rfl (by kernel_rfl) (by kernel_rfl) rfl (List.getElem?_eq_some_iff.1 ix405).1 ?_)
      intro w406 H
      obtain ⟨i0407, i1407, ix407⟩ := idx_some h_x_17
      refine stD2 (i := 13) (by kernel_rfl) H.has (idxSA (some 157) 23 5 ga0 len 24 .i64 (nd - 2) (by kernel_rfl) (by kernel_rfl) i0407 (of_decide_eq_true hc401) ?_)
      refine stD2 (i := 14) (by kernel_rfl) H.has (stAS fU8 none 5 0 ga0 ((nd - 2).toNat) c15 (a1.set ((nd - 1).toNat) c14) 99 H rfl (by kernel_rfl) (by kernel_rfl) rfl (List.getElem?_eq_some_iff.1 ix407).1 ?_)
      intro w408 H
      refine endD2 (by kernel_rfl) H.has ?_
      refine seg 10 [.co [1, 1, 1, 1, 1, 1]] [(0, .slice (some ⟨ga0, 0, none⟩) len 24), (12, .int .u32 ((UInt32.ofInt (Int.tdiv ((UInt32.ofInt (u1.toNat : Int)).toNat : Int) 100)).toNat : Int)), (161, .bool (decide ((IntKind.i64.wrap (nd - 2)) > 0)))] (by kernel_rfl) ?_
      rw [show IntKind.i64.wrap (nd - 2) = (nd - 2) from w64 (by omega)]
      rcases condT hf with ⟨hb409, hf⟩ | ⟨hb409, hf⟩
      · rw [hb409]
        have p409 := of_decide_eq_true hb409
        refine seg 6 [.op [1, 1, 1, 1, 1, 1, 0] 4] [(162, .slice (some ⟨ga0, 0, none⟩) len 24), (165, .int .u8 (IntKind.u8.wrap (IntKind.u32.wrap (48 + ((UInt32.ofInt (Int.tdiv ((UInt32.ofInt (u1.toNat : Int)).toNat : Int) 100)).toNat : Int)))))] (by kernel_rfl) ?_
        rw [q32_wrap (48 + ((UInt32.ofInt (Int.tdiv ((UInt32.ofInt (u1.toNat : Int)).toNat : Int) 100)).toNat : Int))]
        rw [q8_wrap ((UInt32.ofInt (48 + ((UInt32.ofInt (Int.tdiv ((UInt32.ofInt (u1.toNat : Int)).toNat : Int) 100)).toNat : Int))).toNat : Int)]
        obtain ⟨x_18, h_x_18, hf⟩ := bindE hf
        obtain ⟨hc410, hf⟩ := chkE hf
        obtain ⟨i0411, i1411, ix411⟩ := idx_some h_x_18
        refine st (idxSA (some 166) 23 5 ga0 len 24 .i64 0 (by kernel_rfl) (by kernel_rfl) i0411 (of_decide_eq_true hc410) ?_)
        refine st (stAS fU8 none 5 0 ga0 ((0 : Int).toNat) (UInt8.ofInt ((UInt32.ofInt (48 + ((UInt32.ofInt (Int.tdiv ((UInt32.ofInt (u1.toNat : Int)).toNat : Int) 100)).toNat : Int))).toNat : Int)) ((a1.set ((nd - 1).toNat) c14).set ((nd - 2).toNat) c15) 99 H rfl (by kernel_rfl) (by kernel_rfl) rfl (List.getElem?_eq_some_iff.1 ix411).1 ?_)
        intro w412 H
        refine seg 1 [] [] (by kernel_rfl) ?_
        refine endR [] [] (by kernel_rfl) (by kernel_rfl) ?_
        obtain rfl : (((a1.set ((nd - 1).toNat) c14).set ((nd - 2).toNat) c15).set ((0 : Int).toNat) (UInt8.ofInt ((UInt32.ofInt (48 + ((UInt32.ofInt (Int.tdiv ((UInt32.ofInt (u1.toNat : Int)).toNat : Int) 100)).toNat : Int))).toNat : Int))) = r := (Option.some.inj hf)
        exact ⟨_, rfl, m, rfl, H⟩
      · rw [hb409]
        have p409 := of_decide_eq_false hb409
        refine seg 2 [] [] (by kernel_rfl) ?_
        refine endR [] [] (by kernel_rfl) (by kernel_rfl) ?_
        obtain rfl : ((a1.set ((nd - 1).toNat) c14).set ((nd - 2).toNat) c15) = r := (Option.some.inj hf)
        exact ⟨_, rfl, m, rfl, H⟩
    · rw [hb397]
      have p397 := of_decide_eq_false hb397
      refine seg 7 [.co [1, 1, 1, 1, 1, 1]] [(0, .slice (some ⟨ga0, 0, none⟩) len 24), (12, .int .u32 ((UInt32.ofInt (u1.toNat : Int)).toNat : Int)), (161, .bool (decide (nd > 0)))] (by kernel_rfl) ?_
      rcases condT hf with ⟨hb413, hf⟩ | ⟨hb413, hf⟩
      · rw [hb413]
        have p413 := of_decide_eq_true hb413
        refine seg 6 [.op [1, 1, 1, 1, 1, 1, 0] 4] [(162, .slice (some ⟨ga0, 0, none⟩) len 24), (165, .int .u8 (IntKind.u8.wrap (IntKind.u32.wrap (48 + ((UInt32.ofInt (u1.toNat : Int)).toNat : Int)))))] (by kernel_rfl) ?_
        rw [q32_wrap (48 + ((UInt32.ofInt (u1.toNat : Int)).toNat : Int))]
        rw [q8_wrap ((UInt32.ofInt (48 + ((UInt32.ofInt (u1.toNat : Int)).toNat : Int))).toNat : Int)]
        obtain ⟨x_19, h_x_19, hf⟩ := bindE hf
        obtain ⟨hc414, hf⟩ := chkE hf
        obtain ⟨i0415, i1415, ix415⟩ := idx_some h_x_19
        refine st (idxSA (some 166) 23 5 ga0 len 24 .i64 0 (by kernel_rfl) (by kernel_rfl) i0415 (of_decide_eq_true hc414) ?_)
        refine st (stAS fU8 none 5 0 ga0 ((0 : Int).toNat) (UInt8.ofInt ((UInt32.ofInt (48 + ((UInt32.ofInt (u1.toNat : Int)).toNat : Int))).toNat : Int)) a1 99 H rfl (by kernel_rfl) (by kernel_rfl) rfl (List.getElem?_eq_some_iff.1 ix415).1 ?_)
        intro w416 H
        refine seg 1 [] [] (by kernel_rfl) ?_
        refine endR [] [] (by kernel_rfl) (by kernel_rfl) ?_
        obtain rfl : (a1.set ((0 : Int).toNat) (UInt8.ofInt ((UInt32.ofInt (48 + ((UInt32.ofInt (u1.toNat : Int)).toNat : Int))).toNat : Int))) = r := (Option.some.inj hf)
        exact ⟨_, rfl, m, rfl, H⟩
      · rw [hb413]
        have p413 := of_decide_eq_false hb413
        refine seg 2 [] [] (by kernel_rfl) ?_
        refine endR [] [] (by kernel_rfl) (by kernel_rfl) ?_
        have hret := (Option.some.inj hf)
        subst hret
        exact ⟨_, rfl, m, rfl, H⟩
theorem internal_strconv_isPowerOfTwo_c {m : Mem} {w : World} (hm : Has m w) (x_ : Int) :
    Calls Tryd.prog 83 #[.int .i64 x_] w fun e w' => ∃ v, e = .returned v ∧ v = .bool (internal_strconv_isPowerOfTwo x_) ∧ Ex w w' := by
  generalize hf : internal_strconv_isPowerOfTwo x_ = r
  unfold internal_strconv_isPowerOfTwo at hf
  have H := St.start0 hm
  refine callsR Tryd.func83 (by kernel_rfl) (by kernel_rfl) ?_
  refine seg 13 [.co [1, 1]] [(2, .bool ((Go.bits .and .i64 x_ (IntKind.i64.wrap (x_ - 1))) == 0))] (by kernel_rfl) ?_
  refine retR [2] [.bool ((Go.bits .and .i64 x_ (IntKind.i64.wrap (x_ - 1))) == 0)] (by kernel_rfl) (by kernel_rfl) (by kernel_rfl) ?_
  obtain rfl : ((Go.bits .and .i64 x_ (IntKind.i64.wrap (x_ - 1))) == 0) = r := hf
  exact ⟨_, rfl, rfl, H.scalar⟩
theorem math_bits_TrailingZeros64_c {m : Mem} {w : World} (hm : Has m w) (hG3 : TabM m 3 (tab2.map fU8)) (x_ : UInt64) {r : Int} (hf : math_bits_TrailingZeros64 x_ = some r) :
    Calls Tryd.prog 88 #[.int .u64 (x_.toNat : Int)] w fun e w' => ∃ v, e = .returned v ∧ v = .int .i64 r ∧ Ex w w' := by
  unfold math_bits_TrailingZeros64 at hf
  have H := St.start0 hm
  refine callsR Tryd.func88 (by kernel_rfl) (by kernel_rfl) ?_
  refine seg 10 [.co [1, 0, 1], .co [1, 1]] [(0, .int .u64 (x_.toNat : Int)), (4, .bool ((x_.toNat : Int) == 0))] (by kernel_rfl) ?_
  rcases condT hf with ⟨hb2, hf⟩ | ⟨hb2, hf⟩
  · rw [hb2]
    refine seg 5 [.co [1, 0, 1, 0, 1], .co [1, 1]] [(2, .int .i64 64)] (by kernel_rfl) ?_
    refine retR [2] [.int .i64 64] (by kernel_rfl) (by kernel_rfl) (by kernel_rfl) ?_
    obtain rfl : 64 = r := (Option.some.inj hf)
    exact ⟨_, rfl, rfl, H.scalar⟩
  · rw [hb2]
    refine seg 9 [.op [1, 1, 0] 5, .co [1, 1, 1]] [(9, .int .u64 (IntKind.u64.wrap ((Go.bits .and .u64 (x_.toNat : Int) (IntKind.u64.wrap (0 - (x_.toNat : Int)))) * 285870213051353865)))] (by kernel_rfl) ?_
    rw [q64_sub (0 : UInt64) x_ 0 (x_.toNat : Int) (by rfl) (by rfl)]
    rw [q64_and x_ ((0 : UInt64) - x_) (x_.toNat : Int) (((0 : UInt64) - x_).toNat : Int) (by rfl) (by rfl)]
    rw [q64_mul (x_ &&& ((0 : UInt64) - x_)) (285870213051353865 : UInt64) ((x_ &&& ((0 : UInt64) - x_)).toNat : Int) 285870213051353865 (by rfl) (by rfl)]
    refine st (runR (by kernel_rfl : fetch _ _ _ _ _ = some ((some 10), vS (Op.shift .shr .u64 (((x_ &&& ((0 : UInt64) - x_)) * (285870213051353865 : UInt64)).toNat : Int) .u64 58))) (shr64_run _ _ (by decide)) ?_)
    obtain ⟨x_1, h_x_1, hf⟩ := bindE hf
    obtain ⟨i03, i13, ix3⟩ := idx_some h_x_1
    refine st (idxAS (some 11) 128 64 5 3 .u64 ((shr64 ((x_ &&& ((0 : UInt64) - x_)) * (285870213051353865 : UInt64)) 58).toNat : Int) (by kernel_rfl) (by kernel_rfl) i03 i13 ?_)
    refine st (ldR (some 12) 5 (⟨3, ((shr64 ((x_ &&& ((0 : UInt64) - x_)) * (285870213051353865 : UInt64)) 58).toNat : Int).toNat, none⟩) (.int .u8 (x_1.toNat : Int)) (by kernel_rfl) (by kernel_rfl) (H.cellI (hG3.at_ ix3)) ?_)
    refine seg 3 [.co [1, 1, 1]] [(2, .int .i64 (IntKind.i64.wrap (x_1.toNat : Int)))] (by kernel_rfl) ?_
    have := x_1.toNat_lt
    rw [show IntKind.i64.wrap (x_1.toNat : Int) = (x_1.toNat : Int) from w64 (by omega)]
    refine retR [2] [.int .i64 (x_1.toNat : Int)] (by kernel_rfl) (by kernel_rfl) (by kernel_rfl) ?_
    obtain rfl : (x_1.toNat : Int) = r := (Option.some.inj hf)
    exact ⟨_, rfl, rfl, H.scalar⟩
theorem math_bits_TrailingZeros_c {m : Mem} {w : World} (hm : Has m w) (hG3 : TabM m 3 (tab2.map fU8)) (x_ : UInt64) {r : Int} (hf : math_bits_TrailingZeros x_ = some r) :
    Calls Tryd.prog 84 #[.int .u64 (x_.toNat : Int)] w fun e w' => ∃ v, e = .returned v ∧ v = .int .i64 r ∧ Ex w w' := by
  unfold math_bits_TrailingZeros at hf
  have H := St.start0 hm
  refine callsR Tryd.func84 (by kernel_rfl) (by kernel_rfl) ?_
  refine seg 10 [.op [1, 1, 0] 1, .co [1, 1, 1]] [(6, .int .u64 (x_.toNat : Int))] (by kernel_rfl) ?_
  obtain ⟨traili, h_traili, hf⟩ := bindE hf
  refine st (callR (some 7) 88 #[.int .u64 (x_.toNat : Int)] Tryd.call88 (math_bits_TrailingZeros64_c H.has hG3 x_ h_traili) (by kernel_rfl) ?_)
  rintro _ w1 ⟨rfl, hx1⟩
  replace H := H.ex hx1
  refine seg 2 [.co [1, 1, 1]] [(2, .int .i64 traili)] (by kernel_rfl) ?_
  refine retR [2] [.int .i64 traili] (by kernel_rfl) (by kernel_rfl) (by kernel_rfl) ?_
  have hret := (Option.some.inj hf)
  subst hret
  exact ⟨_, rfl, rfl, H.scalar⟩
theorem internal_strconv_formatBits_c {m : Mem} {w : World} (hm : Has m w) (hG3 : TabM m 3 (tab2.map fU8)) (dst : (List UInt8)) (A0_0 : Option Addr) (c0_0 : Nat) (u : UInt64) (base : Int) (neg : Bool) (append_ : Bool) {F : Nat → Prop} (hsep : Sep m w [rowI rU8 5 A0_0 c0_0 dst] F) (hF : ∀ k, F k → m k = none) {r : ((List UInt8) × (List UInt8))} (hf : internal_strconv_formatBits dst u base neg append_ = some r) :
    Calls Tryd.prog 73 #[.slice A0_0 dst.length c0_0, .int .u64 (u.toNat : Int), .int .i64 base, .bool neg, .bool append_] w fun e w' => ∃ v, e = .returned v ∧ ∃ Az_0 : Option Addr, ∃ cz_0 : Nat, ∃ m' : Mem, v = .tuple #[.slice Az_0 r.1.length cz_0, .string ⟨r.2.toArray⟩] ∧ St w F m m' [rowI rU8 5 Az_0 cz_0 r.1] w' ∧ r.2.length ≤ 9223372036854775807 := by
  unfold internal_strconv_formatBits at hf
  have H := St.start hm hsep hF
  refine callsR Tryd.func73 (by kernel_rfl) (by kernel_rfl) ?_
  refine seg 11 [.op [1, 0, 0] 3, .co [1, 0, 1], .co [1, 1]] [(0, .slice A0_0 dst.length c0_0), (1, .int .u64 (u.toNat : Int)), (2, .int .i64 base), (3, .bool neg), (4, .bool append_), (10, .slice none 0 0), (11, .string ⟨([] : List UInt8).toArray⟩), (21, .bool (decide (base < 2)))] (by kernel_rfl) ?_
  rcases condT hf with ⟨hb3, hf⟩ | ⟨hb3, hf⟩
  · rw [hb3]
    have p3 := of_decide_eq_true hb3
    refine seg 10 [.op [1, 0, 1, 0] 0, .co [1, 1]] [(0, .slice A0_0 dst.length c0_0), (1, .int .u64 (u.toNat : Int)), (2, .int .i64 base), (3, .bool neg), (4, .bool append_), (10, .slice none 0 0), (11, .string ⟨([] : List UInt8).toArray⟩)] (by kernel_rfl) ?_
    cases hf
  · rw [hb3]
    have p3 := of_decide_eq_false hb3
    refine seg 4 [.op [1, 0, 0] 7, .co [1, 0, 1], .co [1, 1]] [(0, .slice A0_0 dst.length c0_0), (1, .int .u64 (u.toNat : Int)), (2, .int .i64 base), (3, .bool neg), (4, .bool append_), (10, .slice none 0 0), (11, .string ⟨([] : List UInt8).toArray⟩), (25, .bool (base == 10))] (by kernel_rfl) ?_
    rcases condT hf with ⟨hb4, hf⟩ | ⟨hb4, hf⟩
    · rw [hb4]
      refine seg 6 [.op [1, 0, 1, 0] 0, .co [1, 1]] [(0, .slice A0_0 dst.length c0_0), (1, .int .u64 (u.toNat : Int)), (2, .int .i64 base), (3, .bool neg), (4, .bool append_), (10, .slice none 0 0), (11, .string ⟨([] : List UInt8).toArray⟩)] (by kernel_rfl) ?_
      cases hf
    · rw [hb4]
      refine seg 4 [.co [1, 0, 1], .co [1, 1]] [(0, .slice A0_0 dst.length c0_0), (1, .int .u64 (u.toNat : Int)), (2, .int .i64 base), (3, .bool neg), (4, .bool append_), (10, .slice none 0 0), (11, .string ⟨([] : List UInt8).toArray⟩), (28, .bool (decide (base > 36)))] (by kernel_rfl) ?_
      rcases condT hf with ⟨hb6, hf⟩ | ⟨hb6, hf⟩
      · rw [hb6]
        have p6 := of_decide_eq_true hb6
        refine seg 2 [.op [1, 0, 1, 0] 0, .co [1, 1]] [(0, .slice A0_0 dst.length c0_0), (1, .int .u64 (u.toNat : Int)), (2, .int .i64 base), (3, .bool neg), (4, .bool append_), (10, .slice none 0 0), (11, .string ⟨([] : List UInt8).toArray⟩)] (by kernel_rfl) ?_
        cases hf
      · rw [hb6]
        have p6 := of_decide_eq_false hb6
        refine seg 4 [.op [1, 1, 0] 0, .co [1, 1, 1]] [(0, .slice A0_0 dst.length c0_0), (1, .int .u64 (u.toNat : Int)), (2, .int .i64 base), (3, .bool neg), (4, .bool append_), (10, .slice none 0 0), (11, .string ⟨([] : List UInt8).toArray⟩)] (by kernel_rfl) ?_
        refine st (newS (some 12) (fun g => .pointer (some ⟨g, 0, none⟩)) [.int .u8 0, .int .u8 0, .int .u8 0, .int .u8 0, .int .u8 0, .int .u8 0, .int .u8 0, .int .u8 0, .int .u8 0, .int .u8 0, .int .u8 0, .int .u8 0, .int .u8 0, .int .u8 0, .int .u8 0, .int .u8 0, .int .u8 0, .int .u8 0, .int .u8 0, .int .u8 0, .int .u8 0, .int .u8 0, .int .u8 0, .int .u8 0, .int .u8 0, .int .u8 0, .int .u8 0, .int .u8 0, .int .u8 0, .int .u8 0, .int .u8 0, .int .u8 0, .int .u8 0, .int .u8 0, .int .u8 0, .int .u8 0, .int .u8 0, .int .u8 0, .int .u8 0, .int .u8 0, .int .u8 0, .int .u8 0, .int .u8 0, .int .u8 0, .int .u8 0, .int .u8 0, .int .u8 0, .int .u8 0, .int .u8 0, .int .u8 0, .int .u8 0, .int .u8 0, .int .u8 0, .int .u8 0, .int .u8 0, .int .u8 0, .int .u8 0, .int .u8 0, .int .u8 0, .int .u8 0, .int .u8 0, .int .u8 0, .int .u8 0, .int .u8 0, .int .u8 0] 116 H (by kernel_rfl) ?_)
        intro g7 w7 H
        replace H := H.toArr 0 fU8 (List.replicate 65 (0 : UInt8)) rfl (by kernel_rfl)
        refine seg 10 [.co [1, 1, 1, 1, 0, 1], .co [1, 1, 1, 1, 1]] [(0, .slice A0_0 dst.length c0_0), (1, .int .u64 (u.toNat : Int)), (2, .int .i64 base), (3, .bool neg), (4, .bool append_), (10, .slice none 0 0), (11, .string ⟨([] : List UInt8).toArray⟩), (12, .pointer (some (⟨g7, 0, none⟩))), (13, .int .i64 65), (30, .bool neg)] (by kernel_rfl) ?_
        obtain ⟨y226, hp226, hf⟩ := ltE hf
        refine joinR 0 (fun (x : UInt64 × Bool) => [(0, .slice A0_0 dst.length c0_0), (1, .int .u64 (x.1.toNat : Int)), (2, .int .i64 base), (3, .bool x.2), (4, .bool append_), (10, .slice none 0 0), (11, .string ⟨([] : List UInt8).toArray⟩), (12, .pointer (some (⟨g7, 0, none⟩))), (13, .int .i64 65)]) (fun (x : UInt64 × Bool) (wj226 : World) => y226 = (x.1, x.2) ∧ St w F m m [rowI rU8 5 A0_0 c0_0 dst, blkI g7 ((List.replicate 65 (0 : UInt8)).map fU8) 116] wj226) (by kernel_rfl) ?_ ?_
        · rcases condT hp226 with ⟨hb228, hp226⟩ | ⟨hb228, hp226⟩
          · rw [hb228]
            refine seg 6 [.le 0, .co [1, 1, 1, 1, 1]] [(0, .slice A0_0 dst.length c0_0), (1, .int .u64 (IntKind.u64.wrap (0 - (u.toNat : Int)))), (2, .int .i64 base), (3, .bool true), (4, .bool append_), (10, .slice none 0 0), (11, .string ⟨([] : List UInt8).toArray⟩), (12, .pointer (some (⟨g7, 0, none⟩))), (13, .int .i64 65)] (by kernel_rfl) ?_
            rw [q64_sub (0 : UInt64) u 0 (u.toNat : Int) (by rfl) (by rfl)]
            refine leJ (((0 : UInt64) - u), true) ⟨hp226.symm, (H.pull 1 rfl)⟩ (by kernel_rfl)
          · rw [hb228]
            refine seg 2 [.le 0, .co [1, 1, 1, 1, 1]] [(0, .slice A0_0 dst.length c0_0), (1, .int .u64 (u.toNat : Int)), (2, .int .i64 base), (3, .bool false), (4, .bool append_), (10, .slice none 0 0), (11, .string ⟨([] : List UInt8).toArray⟩), (12, .pointer (some (⟨g7, 0, none⟩))), (13, .int .i64 65)] (by kernel_rfl) ?_
            refine leJ (u, false) ⟨hp226.symm, (H.pull 1 rfl)⟩ (by kernel_rfl)
        rintro ⟨u1, neg1⟩ wj226 ⟨hy226, H⟩
        try dsimp only at hy226
        try dsimp only at H
        rw [hy226] at hf
        try dsimp only at hf
        refine seg 4 [.op [1, 1, 1, 1, 1, 0, 0] 1, .co [1, 1, 1, 1, 1, 0, 1], .co [1, 1, 1, 1, 1, 1]] [(0, .slice A0_0 dst.length c0_0), (1, .int .u64 (u1.toNat : Int)), (2, .int .i64 base), (3, .bool neg1), (4, .bool append_), (10, .slice none 0 0), (11, .string ⟨([] : List UInt8).toArray⟩), (12, .pointer (some (⟨g7, 0, none⟩))), (13, .int .i64 65), (33, .int .i64 base)] (by kernel_rfl) ?_
        refine st (callR (some 34) 83 #[.int .i64 base] Tryd.call83 (internal_strconv_isPowerOfTwo_c H.has base) (by kernel_rfl) ?_)
        rintro _ w229 ⟨rfl, hx229⟩
        replace H := H.ex hx229
        refine seg 1 [.co [1, 1, 1, 1, 1, 0, 1], .co [1, 1, 1, 1, 1, 1]] [(0, .slice A0_0 dst.length c0_0), (1, .int .u64 (u1.toNat : Int)), (2, .int .i64 base), (3, .bool neg1), (4, .bool append_), (10, .slice none 0 0), (11, .string ⟨([] : List UInt8).toArray⟩), (12, .pointer (some (⟨g7, 0, none⟩))), (13, .int .i64 65), (34, .bool (internal_strconv_isPowerOfTwo base))] (by kernel_rfl) ?_
        rcases condT hf with ⟨hb230, hf⟩ | ⟨hb230, hf⟩
        · rw [hb230]
          refine seg 5 [.op [1, 1, 1, 1, 1, 0, 1, 0, 0] 2, .co [1, 1, 1, 1, 1, 0, 1, 0, 1], .co [1, 1, 1, 1, 1, 1]] [(0, .slice A0_0 dst.length c0_0), (1, .int .u64 (u1.toNat : Int)), (2, .int .i64 base), (3, .bool neg1), (4, .bool append_), (10, .slice none 0 0), (11, .string ⟨([] : List UInt8).toArray⟩), (12, .pointer (some (⟨g7, 0, none⟩))), (13, .int .i64 65), (36, .int .u64 (IntKind.u64.wrap base))] (by kernel_rfl) ?_
          rw [q64_wrap base]
          obtain ⟨traili, h_traili, hf⟩ := bindE hf
          refine st (callR (some 37) 84 #[.int .u64 ((UInt64.ofInt base).toNat : Int)] Tryd.call84 (math_bits_TrailingZeros_c H.has hG3 (UInt64.ofInt base) h_traili) (by kernel_rfl) ?_)
          rintro _ w231 ⟨rfl, hx231⟩
          replace H := H.ex hx231
          refine seg 17 [.co [1, 1, 1, 1, 1, 0, 1, 0, 1, 1, 1, 0], .co [1, 1, 1, 1, 1, 0, 1, 0, 1, 1, 1, 1], .co [1, 1, 1, 1, 1, 1]] [(0, .slice A0_0 dst.length c0_0), (1, .int .u64 (u1.toNat : Int)), (3, .bool neg1), (4, .bool append_), (10, .slice none 0 0), (11, .string ⟨([] : List UInt8).toArray⟩), (12, .pointer (some (⟨g7, 0, none⟩))), (13, .int .i64 65), (14, .int .u64 (IntKind.u64.wrap traili)), (15, .int .u64 (IntKind.u64.wrap base)), (16, .int .u64 (IntKind.u64.wrap ((IntKind.u64.wrap base) - 1)))] (by kernel_rfl) ?_
          rw [q64_wrap traili]
          rw [q64_wrap base]
          rw [q64_sub (UInt64.ofInt base) (1 : UInt64) ((UInt64.ofInt base).toNat : Int) 1 (by rfl) (by rfl)]
          obtain ⟨y257, hp257, hf⟩ := bindE hf
          refine joinR 0 (fun (x : UInt64 × (List UInt8) × Int) => [(0, .slice A0_0 dst.length c0_0), (1, .int .u64 (x.1.toNat : Int)), (3, .bool neg1), (4, .bool append_), (10, .slice none 0 0), (11, .string ⟨([] : List UInt8).toArray⟩), (12, .pointer (some (⟨g7, 0, none⟩))), (13, .int .i64 x.2.2)]) (fun (x : UInt64 × (List UInt8) × Int) (wj257 : World) => y257 = (x.1, x.2.1, x.2.2) ∧ St w F m m [rowI rU8 5 A0_0 c0_0 dst, blkI g7 (x.2.1.map fU8) 116] wj257) (by kernel_rfl) ?_ ?_
          · refine seg 1 [.co [1, 1, 1, 1, 1, 0, 1, 0, 1, 1, 1, 0, 0], .bl 0, .le 0, .co [1, 1, 1, 1, 1, 0, 1, 0, 1, 1, 1, 1], .co [1, 1, 1, 1, 1, 1]] [(0, .slice A0_0 dst.length c0_0), (1, .int .u64 (u1.toNat : Int)), (3, .bool neg1), (4, .bool append_), (10, .slice none 0 0), (11, .string ⟨([] : List UInt8).toArray⟩), (12, .pointer (some (⟨g7, 0, none⟩))), (13, .int .i64 65), (14, .int .u64 ((UInt64.ofInt traili).toNat : Int)), (15, .int .u64 ((UInt64.ofInt base).toNat : Int)), (16, .int .u64 (((UInt64.ofInt base) - (1 : UInt64)).toNat : Int))] (by kernel_rfl) ?_
            obtain ⟨nn273, hR273⟩ := loopO_iff.1 hp257
            refine loopR 1 (fun (x : Nat × UInt64 × (List UInt8) × Int) => [(0, .slice A0_0 dst.length c0_0), (1, .int .u64 (x.2.1.toNat : Int)), (3, .bool neg1), (4, .bool append_), (10, .slice none 0 0), (11, .string ⟨([] : List UInt8).toArray⟩), (12, .pointer (some (⟨g7, 0, none⟩))), (13, .int .i64 x.2.2.2), (14, .int .u64 ((UInt64.ofInt traili).toNat : Int)), (15, .int .u64 ((UInt64.ofInt base).toNat : Int)), (16, .int .u64 (((UInt64.ofInt base) - (1 : UInt64)).toNat : Int))]) (fun (x : Nat × UInt64 × (List UInt8) × Int) (wl273 : World) => iter (fun s => internal_strconv_formatBits_l1 base traili s.1 s.2.1 s.2.2) x.1 (x.2.1, x.2.2.1, x.2.2.2) = some y257 ∧ St w F m m [rowI rU8 5 A0_0 c0_0 dst, blkI g7 (x.2.2.1.map fU8) 116] wl273) (fun (x : Nat × UInt64 × (List UInt8) × Int) => x.1) (nn273, u1, (List.replicate 65 (0 : UInt8)), 65) (by kernel_rfl) (by kernel_rfl) (by kernel_rfl) ?_ ?_
            · exact ⟨hR273, H⟩
            rintro ⟨n273, u2, a, i⟩ wl273 ⟨hR273, H⟩
            try dsimp only at hR273
            try dsimp only at H
            obtain ⟨nk273, q273, rfl, hb_273, hnx273, hfin273⟩ := iterE hR273
            replace hb_273 : internal_strconv_formatBits_l1 base traili u2 a i = some q273 := hb_273
            unfold internal_strconv_formatBits_l1 at hb_273
            refine seg 7 [.co [1, 1, 1, 1, 1, 0, 1, 0, 1, 1, 1, 0, 0, 0, 0, 1], .co [1, 1, 1, 1, 1, 0, 1, 0, 1, 1, 1, 0, 0, 0, 1], .le 1, .bl 0, .le 0, .co [1, 1, 1, 1, 1, 0, 1, 0, 1, 1, 1, 1], .co [1, 1, 1, 1, 1, 1]] [(0, .slice A0_0 dst.length c0_0), (1, .int .u64 (u2.toNat : Int)), (3, .bool neg1), (4, .bool append_), (10, .slice none 0 0), (11, .string ⟨([] : List UInt8).toArray⟩), (12, .pointer (some (⟨g7, 0, none⟩))), (13, .int .i64 i), (14, .int .u64 ((UInt64.ofInt traili).toNat : Int)), (15, .int .u64 ((UInt64.ofInt base).toNat : Int)), (16, .int .u64 (((UInt64.ofInt base) - (1 : UInt64)).toNat : Int)), (46, .bool (decide ((u2.toNat : Int) ≥ ((UInt64.ofInt base).toNat : Int))))] (by kernel_rfl) ?_
            rcases condT hb_273 with ⟨hb275, hb_273⟩ | ⟨hb275, hb_273⟩
            · rw [hb275]
              have p275 := of_decide_eq_true hb275
              refine seg 15 [.op [1, 1, 1, 1, 1, 0, 1, 0, 1, 1, 1, 0, 0, 0, 1, 0, 1, 0] 4, .co [1, 1, 1, 1, 1, 0, 1, 0, 1, 1, 1, 0, 0, 0, 1, 0, 1, 1], .bl 1, .le 1, .bl 0, .le 0, .co [1, 1, 1, 1, 1, 0, 1, 0, 1, 1, 1, 1], .co [1, 1, 1, 1, 1, 1]] [(0, .slice A0_0 dst.length c0_0), (1, .int .u64 (u2.toNat : Int)), (3, .bool neg1), (4, .bool append_), (10, .slice none 0 0), (11, .string ⟨([] : List UInt8).toArray⟩), (12, .pointer (some (⟨g7, 0, none⟩))), (13, .int .i64 (IntKind.i64.wrap (i - 1))), (14, .int .u64 ((UInt64.ofInt traili).toNat : Int)), (15, .int .u64 ((UInt64.ofInt base).toNat : Int)), (16, .int .u64 (((UInt64.ofInt base) - (1 : UInt64)).toNat : Int)), (49, .int .i64 (IntKind.i64.wrap (i - 1))), (52, .int .u64 (Go.bits .and .u64 (u2.toNat : Int) (((UInt64.ofInt base) - (1 : UInt64)).toNat : Int)))] (by kernel_rfl) ?_
              rw [q64_and u2 ((UInt64.ofInt base) - (1 : UInt64)) (u2.toNat : Int) (((UInt64.ofInt base) - (1 : UInt64)).toNat : Int) (by rfl) (by rfl)]
              obtain ⟨c, h_c, hb_273⟩ := bindE hb_273
              refine st (strS (some 53) 9 ([48, 49, 50, 51, 52, 53, 54, 55, 56, 57, 97, 98, 99, 100, 101, 102, 103, 104, 105, 106, 107, 108, 109, 110, 111, 112, 113, 114, 115, 116, 117, 118, 119, 120, 121, 122] : List UInt8) .u64 ((u2 &&& ((UInt64.ofInt base) - (1 : UInt64))).toNat : Int) c (by kernel_rfl) (by kernel_rfl) h_c ?_)
              obtain ⟨x_, h_x_, hb_273⟩ := bindE hb_273
              obtain ⟨hc276, hb_273⟩ := chkE hb_273
              obtain ⟨i0277, i1277, ix277⟩ := idx_some h_x_
              refine st (idxAS (some 54) 116 65 5 g7 .i64 (IntKind.i64.wrap (i - 1)) (by kernel_rfl) (by kernel_rfl) i0277 (of_decide_eq_true hc276) ?_)
              refine st (stAS fU8 none 5 1 g7 ((IntKind.i64.wrap (i - 1)).toNat) c a 116 H rfl (by kernel_rfl) (by kernel_rfl) rfl (List.getElem?_eq_some_iff.1 ix277).1 ?_)
              intro w278 H
              refine seg 4 [.op [1, 1, 1, 1, 1, 0, 1, 0, 1, 1, 1, 0, 0, 0, 1, 0, 1, 1] 2, .bl 1, .le 1, .bl 0, .le 0, .co [1, 1, 1, 1, 1, 0, 1, 0, 1, 1, 1, 1], .co [1, 1, 1, 1, 1, 1]] [(0, .slice A0_0 dst.length c0_0), (3, .bool neg1), (4, .bool append_), (10, .slice none 0 0), (11, .string ⟨([] : List UInt8).toArray⟩), (12, .pointer (some (⟨g7, 0, none⟩))), (13, .int .i64 (IntKind.i64.wrap (i - 1))), (14, .int .u64 ((UInt64.ofInt traili).toNat : Int)), (15, .int .u64 ((UInt64.ofInt base).toNat : Int)), (16, .int .u64 (((UInt64.ofInt base) - (1 : UInt64)).toNat : Int)), (55, .int .u64 (u2.toNat : Int)), (56, .int .u64 ((UInt64.ofInt traili).toNat : Int))] (by kernel_rfl) ?_
              replace H : St w F m m [rowI rU8 5 A0_0 c0_0 dst, blkI g7 ((a.set ((IntKind.i64.wrap (i - 1)).toNat) c).map fU8) 116] w278 := H
              refine st (runR (by kernel_rfl : fetch _ _ _ _ _ = some ((some 57), vS (Op.shift .shr .u64 (u2.toNat : Int) .u64 ((UInt64.ofInt traili).toNat : Int)))) (shr64_run _ _ (by omega)) ?_)
              refine seg 3 [.le 1, .bl 0, .le 0, .co [1, 1, 1, 1, 1, 0, 1, 0, 1, 1, 1, 1], .co [1, 1, 1, 1, 1, 1]] [(0, .slice A0_0 dst.length c0_0), (1, .int .u64 ((shr64 u2 ((UInt64.ofInt traili).toNat : Int)).toNat : Int)), (3, .bool neg1), (4, .bool append_), (10, .slice none 0 0), (11, .string ⟨([] : List UInt8).toArray⟩), (12, .pointer (some (⟨g7, 0, none⟩))), (13, .int .i64 (IntKind.i64.wrap (i - 1))), (14, .int .u64 ((UInt64.ofInt traili).toNat : Int)), (15, .int .u64 ((UInt64.ofInt base).toNat : Int)), (16, .int .u64 (((UInt64.ofInt base) - (1 : UInt64)).toNat : Int))] (by kernel_rfl) ?_
              refine leR (nk273, (shr64 u2 ((UInt64.ofInt traili).toNat : Int)), (a.set ((IntKind.i64.wrap (i - 1)).toNat) c), (IntKind.i64.wrap (i - 1))) (Nat.lt_succ_self _) ⟨hnx273 _ (Option.some.inj hb_273).symm, H⟩ (by kernel_rfl)
            · rw [hb275]
              have p275 := of_decide_eq_false hb275
              refine seg 2 [.le 0, .co [1, 1, 1, 1, 1, 0, 1, 0, 1, 1, 1, 1], .co [1, 1, 1, 1, 1, 1]] [(0, .slice A0_0 dst.length c0_0), (1, .int .u64 (u2.toNat : Int)), (3, .bool neg1), (4, .bool append_), (10, .slice none 0 0), (11, .string ⟨([] : List UInt8).toArray⟩), (12, .pointer (some (⟨g7, 0, none⟩))), (13, .int .i64 i)] (by kernel_rfl) ?_
              refine leR_up (k' := []) (by rfl) ?_
              refine leJ (u2, a, i) ⟨(hfin273 _ (Option.some.inj hb_273).symm).symm, H⟩ (by kernel_rfl)
          rintro ⟨u2, a, i⟩ wj257 ⟨hy257, H⟩
          try dsimp only at hy257
          try dsimp only at H
          rw [hy257] at hf
          try dsimp only at hf
          refine seg 9 [.op [1, 1, 1, 1, 1, 0, 1, 0, 1, 1, 1, 1, 1] 2, .co [1, 1, 1, 1, 1, 1]] [(0, .slice A0_0 dst.length c0_0), (3, .bool neg1), (4, .bool append_), (10, .slice none 0 0), (11, .string ⟨([] : List UInt8).toArray⟩), (12, .pointer (some (⟨g7, 0, none⟩))), (13, .int .i64 (IntKind.i64.wrap (i - 1))), (60, .int .i64 (IntKind.i64.wrap (i - 1))), (61, .int .u64 (u2.toNat : Int))] (by kernel_rfl) ?_
          obtain ⟨c1, h_c1, hf⟩ := bindE hf
          refine st (strS (some 62) 9 ([48, 49, 50, 51, 52, 53, 54, 55, 56, 57, 97, 98, 99, 100, 101, 102, 103, 104, 105, 106, 107, 108, 109, 110, 111, 112, 113, 114, 115, 116, 117, 118, 119, 120, 121, 122] : List UInt8) .u64 (u2.toNat : Int) c1 (by kernel_rfl) (by kernel_rfl) h_c1 ?_)
          obtain ⟨x_1, h_x_1, hf⟩ := bindE hf
          obtain ⟨hc279, hf⟩ := chkE hf
          obtain ⟨i0280, i1280, ix280⟩ := idx_some h_x_1
          refine st (idxAS (some 63) 116 65 5 g7 .i64 (IntKind.i64.wrap (i - 1)) (by kernel_rfl) (by kernel_rfl) i0280 (of_decide_eq_true hc279) ?_)
          refine st (stAS fU8 none 5 1 g7 ((IntKind.i64.wrap (i - 1)).toNat) c1 a 116 H rfl (by kernel_rfl) (by kernel_rfl) rfl (List.getElem?_eq_some_iff.1 ix280).1 ?_)
          intro w281 H
          refine seg 6 [.co [1, 1, 1, 1, 1, 1, 0, 1], .co [1, 1, 1, 1, 1, 1, 1]] [(0, .slice A0_0 dst.length c0_0), (4, .bool append_), (10, .slice none 0 0), (11, .string ⟨([] : List UInt8).toArray⟩), (12, .pointer (some (⟨g7, 0, none⟩))), (13, .int .i64 (IntKind.i64.wrap (i - 1))), (89, .bool neg1)] (by kernel_rfl) ?_
          rcases condT hf with ⟨hb302, hf⟩ | ⟨hb302, hf⟩
          · rw [hb302]
            refine seg 9 [.op [1, 1, 1, 1, 1, 1, 0, 1, 0, 1] 1, .co [1, 1, 1, 1, 1, 1, 1]] [(0, .slice A0_0 dst.length c0_0), (4, .bool append_), (10, .slice none 0 0), (11, .string ⟨([] : List UInt8).toArray⟩), (12, .pointer (some (⟨g7, 0, none⟩))), (13, .int .i64 (IntKind.i64.wrap ((IntKind.i64.wrap (i - 1)) - 1))), (92, .int .i64 (IntKind.i64.wrap ((IntKind.i64.wrap (i - 1)) - 1)))] (by kernel_rfl) ?_
            obtain ⟨x_2, h_x_2, hf⟩ := bindE hf
            obtain ⟨hc303, hf⟩ := chkE hf
            obtain ⟨i0304, i1304, ix304⟩ := idx_some h_x_2
            refine st (idxAS (some 93) 116 65 5 g7 .i64 (IntKind.i64.wrap ((IntKind.i64.wrap (i - 1)) - 1)) (by kernel_rfl) (by kernel_rfl) i0304 (of_decide_eq_true hc303) ?_)
            refine st (stAS fU8 none 5 1 g7 ((IntKind.i64.wrap ((IntKind.i64.wrap (i - 1)) - 1)).toNat) (45 : UInt8) (a.set ((IntKind.i64.wrap (i - 1)).toNat) c1) 116 H rfl (by kernel_rfl) (by kernel_rfl) rfl (List.getElem?_eq_some_iff.1 ix304).1 ?_)
            intro w305 H
            refine seg 6 [.co [1, 1, 1, 1, 1, 1, 1, 0, 1], .co [1, 1, 1, 1, 1, 1, 1, 1]] [(0, .slice A0_0 dst.length c0_0), (10, .slice none 0 0), (11, .string ⟨([] : List UInt8).toArray⟩), (12, .pointer (some (⟨g7, 0, none⟩))), (13, .int .i64 (IntKind.i64.wrap ((IntKind.i64.wrap (i - 1)) - 1))), (94, .bool append_)] (by kernel_rfl) ?_
            rcases condT hf with ⟨hb306, hf⟩ | ⟨hb306, hf⟩
            · rw [hb306]
              refine seg 5 [.op [1, 1, 1, 1, 1, 1, 1, 0, 1, 0, 0] 2, .co [1, 1, 1, 1, 1, 1, 1, 0, 1, 0, 1], .co [1, 1, 1, 1, 1, 1, 1, 1]] [(11, .string ⟨([] : List UInt8).toArray⟩), (12, .pointer (some (⟨g7, 0, none⟩))), (95, .slice A0_0 dst.length c0_0), (96, .int .i64 (IntKind.i64.wrap ((IntKind.i64.wrap (i - 1)) - 1)))] (by kernel_rfl) ?_
              obtain ⟨hc308, hf⟩ := chkE hf
              obtain ⟨mf307, hsub307, hbf307, H⟩ := H.fixB 1 rfl
              have hN307 := of_decide_eq_true hc308
              have hA307 := SlI.ofArr hbf307 (by rw [hN307]; decide)
              obtain ⟨y_, h_y_, hf⟩ := bindE hf
              refine st (sliAS (some 97) 116 65 5 ⟨g7, 0, none⟩ ((a.set ((IntKind.i64.wrap (i - 1)).toNat) c1).set ((IntKind.i64.wrap ((IntKind.i64.wrap (i - 1)) - 1)).toNat) (45 : UInt8)) y_ (some (.int .i64 (IntKind.i64.wrap ((IntKind.i64.wrap (i - 1)) - 1)))) none (IntKind.i64.wrap ((IntKind.i64.wrap (i - 1)) - 1)) (((a.set ((IntKind.i64.wrap (i - 1)).toNat) c1).set ((IntKind.i64.wrap ((IntKind.i64.wrap (i - 1)) - 1)).toNat) (45 : UInt8)).length : Int) hA307 hN307 (by kernel_rfl) (by kernel_rfl) (.inr ⟨_, rfl⟩) (.inl ⟨rfl, rfl⟩) h_y_ ?_)
              intro A309 c309 hs309
              obtain ⟨xs310, hr310, hx310⟩ := hs309.cs
              obtain ⟨b, h_b, hf⟩ := bindE hf
              refine st (appS (r := rU8) (some 98) 23 5 1 (.int .u8 0) 23 0 A0_0 A309 c0_0 y_.length c309 dst y_ b _ H rfl ⟨Tryd.underlying23, by kernel_rfl⟩ rfl (by decide) (by kernel_rfl) (hx310.cs H.has) hr310 rfl h_b (by decide) (by decide) ?_)
              intro A311 c311 w311 H
              refine seg 2 [.co [1, 1, 1, 1, 1, 1, 1, 0, 1, 0, 1], .co [1, 1, 1, 1, 1, 1, 1, 1]] [(10, .slice A311 b.length c311), (11, .string ⟨([] : List UInt8).toArray⟩)] (by kernel_rfl) ?_
              refine retR [10, 11] [.slice A311 b.length c311, .string ⟨([] : List UInt8).toArray⟩] (by kernel_rfl) (by kernel_rfl) (by kernel_rfl) ?_
              obtain rfl : (b, ([] : List UInt8)) = r := (Option.some.inj hf)
              exact ⟨_, rfl, A311, c311, mf307, rfl, H, (Nat.le_of_ble_eq_true rfl)⟩
            · rw [hb306]
              refine seg 5 [.op [1, 1, 1, 1, 1, 1, 1, 1, 0] 1, .co [1, 1, 1, 1, 1, 1, 1, 1, 1]] [(10, .slice none 0 0), (12, .pointer (some (⟨g7, 0, none⟩))), (99, .int .i64 (IntKind.i64.wrap ((IntKind.i64.wrap (i - 1)) - 1)))] (by kernel_rfl) ?_
              obtain ⟨hc313, hf⟩ := chkE hf
              obtain ⟨mf312, hsub312, hbf312, H⟩ := H.fixB 1 rfl
              have hN312 := of_decide_eq_true hc313
              have hA312 := SlI.ofArr hbf312 (by rw [hN312]; decide)
              obtain ⟨y_1, h_y_1, hf⟩ := bindE hf
              refine st (sliAS (some 100) 116 65 5 ⟨g7, 0, none⟩ ((a.set ((IntKind.i64.wrap (i - 1)).toNat) c1).set ((IntKind.i64.wrap ((IntKind.i64.wrap (i - 1)) - 1)).toNat) (45 : UInt8)) y_1 (some (.int .i64 (IntKind.i64.wrap ((IntKind.i64.wrap (i - 1)) - 1)))) none (IntKind.i64.wrap ((IntKind.i64.wrap (i - 1)) - 1)) (((a.set ((IntKind.i64.wrap (i - 1)).toNat) c1).set ((IntKind.i64.wrap ((IntKind.i64.wrap (i - 1)) - 1)).toNat) (45 : UInt8)).length : Int) hA312 hN312 (by kernel_rfl) (by kernel_rfl) (.inr ⟨_, rfl⟩) (.inl ⟨rfl, rfl⟩) h_y_1 ?_)
              intro A314 c314 hs314
              refine st (b2sS (some 101) 23 9 5 A314 c314 y_1 Tryd.underlying23 Tryd.underlying5 Tryd.underlying9 (by kernel_rfl) (hs314.bytes.cs H.has) ?_)
              have hl315 : y_1.length ≤ 9223372036854775807 := hs314.bound
              refine seg 2 [.co [1, 1, 1, 1, 1, 1, 1, 1, 1]] [(10, .slice none 0 0), (11, .string ⟨y_1.toArray⟩)] (by kernel_rfl) ?_
              have H := H.nilR rU8 5
              refine retR [10, 11] [.slice none 0 0, .string ⟨y_1.toArray⟩] (by kernel_rfl) (by kernel_rfl) (by kernel_rfl) ?_
              obtain rfl : ([], y_1) = r := (Option.some.inj hf)
              exact ⟨_, rfl, none, 0, mf312, rfl, (St.takeN 1 H), hl315⟩
          · rw [hb302]
            refine seg 7 [.co [1, 1, 1, 1, 1, 1, 1, 0, 1], .co [1, 1, 1, 1, 1, 1, 1, 1]] [(0, .slice A0_0 dst.length c0_0), (10, .slice none 0 0), (11, .string ⟨([] : List UInt8).toArray⟩), (12, .pointer (some (⟨g7, 0, none⟩))), (13, .int .i64 (IntKind.i64.wrap (i - 1))), (94, .bool append_)] (by kernel_rfl) ?_
            rcases condT hf with ⟨hb322, hf⟩ | ⟨hb322, hf⟩
            · rw [hb322]
              refine seg 5 [.op [1, 1, 1, 1, 1, 1, 1, 0, 1, 0, 0] 2, .co [1, 1, 1, 1, 1, 1, 1, 0, 1, 0, 1], .co [1, 1, 1, 1, 1, 1, 1, 1]] [(11, .string ⟨([] : List UInt8).toArray⟩), (12, .pointer (some (⟨g7, 0, none⟩))), (95, .slice A0_0 dst.length c0_0), (96, .int .i64 (IntKind.i64.wrap (i - 1)))] (by kernel_rfl) ?_
              obtain ⟨hc324, hf⟩ := chkE hf
              obtain ⟨mf323, hsub323, hbf323, H⟩ := H.fixB 1 rfl
              have hN323 := of_decide_eq_true hc324
              have hA323 := SlI.ofArr hbf323 (by rw [hN323]; decide)
              obtain ⟨y_2, h_y_2, hf⟩ := bindE hf
              refine st (sliAS (some 97) 116 65 5 ⟨g7, 0, none⟩ (a.set ((IntKind.i64.wrap (i - 1)).toNat) c1) y_2 (some (.int .i64 (IntKind.i64.wrap (i - 1)))) none (IntKind.i64.wrap (i - 1)) ((a.set ((IntKind.i64.wrap (i - 1)).toNat) c1).length : Int) hA323 hN323 (by kernel_rfl) (by kernel_rfl) (.inr ⟨_, rfl⟩) (.inl ⟨rfl, rfl⟩) h_y_2 ?_)
              intro A325 c325 hs325
              obtain ⟨xs326, hr326, hx326⟩ := hs325.cs
              obtain ⟨b1, h_b1, hf⟩ := bindE hf
              refine st (appS (r := rU8) (some 98) 23 5 1 (.int .u8 0) 23 0 A0_0 A325 c0_0 y_2.length c325 dst y_2 b1 _ H rfl ⟨Tryd.underlying23, by kernel_rfl⟩ rfl (by decide) (by kernel_rfl) (hx326.cs H.has) hr326 rfl h_b1 (by decide) (by decide) ?_)
              intro A327 c327 w327 H
              refine seg 2 [.co [1, 1, 1, 1, 1, 1, 1, 0, 1, 0, 1], .co [1, 1, 1, 1, 1, 1, 1, 1]] [(10, .slice A327 b1.length c327), (11, .string ⟨([] : List UInt8).toArray⟩)] (by kernel_rfl) ?_
              refine retR [10, 11] [.slice A327 b1.length c327, .string ⟨([] : List UInt8).toArray⟩] (by kernel_rfl) (by kernel_rfl) (by kernel_rfl) ?_
              obtain rfl : (b1, ([] : List UInt8)) = r := (Option.some.inj hf)
              exact ⟨_, rfl, A327, c327, mf323, rfl, H, (Nat.le_of_ble_eq_true rfl)⟩
            · rw [hb322]
              refine seg 5 [.op [1, 1, 1, 1, 1, 1, 1, 1, 0] 1, .co [1, 1, 1, 1, 1, 1, 1, 1, 1]] [(10, .slice none 0 0), (12, .pointer (some (⟨g7, 0, none⟩))), (99, .int .i64 (IntKind.i64.wrap (i - 1)))] (by kernel_rfl) ?_
              replace H : St w F m m [blkI g7 ((a.set ((IntKind.i64.wrap (i - 1)).toNat) c1).map fU8) 116] w281 := (H.drop 0 rfl)
              obtain ⟨hc329, hf⟩ := chkE hf
              obtain ⟨mf328, hsub328, hbf328, H⟩ := H.fixB 0 rfl
              have hN328 := of_decide_eq_true hc329
              have hA328 := SlI.ofArr hbf328 (by rw [hN328]; decide)
              obtain ⟨y_3, h_y_3, hf⟩ := bindE hf
              refine st (sliAS (some 100) 116 65 5 ⟨g7, 0, none⟩ (a.set ((IntKind.i64.wrap (i - 1)).toNat) c1) y_3 (some (.int .i64 (IntKind.i64.wrap (i - 1)))) none (IntKind.i64.wrap (i - 1)) ((a.set ((IntKind.i64.wrap (i - 1)).toNat) c1).length : Int) hA328 hN328 (by kernel_rfl) (by kernel_rfl) (.inr ⟨_, rfl⟩) (.inl ⟨rfl, rfl⟩) h_y_3 ?_)
              intro A330 c330 hs330
              refine st (b2sS (some 101) 23 9 5 A330 c330 y_3 Tryd.underlying23 Tryd.underlying5 Tryd.underlying9 (by kernel_rfl) (hs330.bytes.cs H.has) ?_)
              have hl331 : y_3.length ≤ 9223372036854775807 := hs330.bound
              refine seg 2 [.co [1, 1, 1, 1, 1, 1, 1, 1, 1]] [(10, .slice none 0 0), (11, .string ⟨y_3.toArray⟩)] (by kernel_rfl) ?_
              have H := H.nilR rU8 5
              refine retR [10, 11] [.slice none 0 0, .string ⟨y_3.toArray⟩] (by kernel_rfl) (by kernel_rfl) (by kernel_rfl) ?_
              obtain rfl : ([], y_3) = r := (Option.some.inj hf)
              exact ⟨_, rfl, none, 0, mf328, rfl, H, hl331⟩
        · rw [hb230]
          refine seg 8 [.co [1, 1, 1, 1, 1, 0, 1, 1, 1, 0], .co [1, 1, 1, 1, 1, 0, 1, 1, 1, 1], .co [1, 1, 1, 1, 1, 1]] [(0, .slice A0_0 dst.length c0_0), (1, .int .u64 (u1.toNat : Int)), (3, .bool neg1), (4, .bool append_), (10, .slice none 0 0), (11, .string ⟨([] : List UInt8).toArray⟩), (12, .pointer (some (⟨g7, 0, none⟩))), (13, .int .i64 65), (17, .int .u64 (IntKind.u64.wrap base))] (by kernel_rfl) ?_
          rw [q64_wrap base]
          obtain ⟨y363, hp363, hf⟩ := bindE hf
          refine joinR 0 (fun (x : UInt64 × (List UInt8) × Int) => [(0, .slice A0_0 dst.length c0_0), (1, .int .u64 (x.1.toNat : Int)), (3, .bool neg1), (4, .bool append_), (10, .slice none 0 0), (11, .string ⟨([] : List UInt8).toArray⟩), (12, .pointer (some (⟨g7, 0, none⟩))), (13, .int .i64 x.2.2)]) (fun (x : UInt64 × (List UInt8) × Int) (wj363 : World) => y363 = (x.1, x.2.1, x.2.2) ∧ St w F m m [rowI rU8 5 A0_0 c0_0 dst, blkI g7 (x.2.1.map fU8) 116] wj363) (by kernel_rfl) ?_ ?_
          · refine seg 1 [.co [1, 1, 1, 1, 1, 0, 1, 1, 1, 0, 0], .bl 2, .le 0, .co [1, 1, 1, 1, 1, 0, 1, 1, 1, 1], .co [1, 1, 1, 1, 1, 1]] [(0, .slice A0_0 dst.length c0_0), (1, .int .u64 (u1.toNat : Int)), (3, .bool neg1), (4, .bool append_), (10, .slice none 0 0), (11, .string ⟨([] : List UInt8).toArray⟩), (12, .pointer (some (⟨g7, 0, none⟩))), (13, .int .i64 65), (17, .int .u64 ((UInt64.ofInt base).toNat : Int))] (by kernel_rfl) ?_
            obtain ⟨nn382, hR382⟩ := loopO_iff.1 hp363
            refine loopR 1 (fun (x : Nat × UInt64 × (List UInt8) × Int) => [(0, .slice A0_0 dst.length c0_0), (1, .int .u64 (x.2.1.toNat : Int)), (3, .bool neg1), (4, .bool append_), (10, .slice none 0 0), (11, .string ⟨([] : List UInt8).toArray⟩), (12, .pointer (some (⟨g7, 0, none⟩))), (13, .int .i64 x.2.2.2), (17, .int .u64 ((UInt64.ofInt base).toNat : Int))]) (fun (x : Nat × UInt64 × (List UInt8) × Int) (wl382 : World) => iter (fun s => internal_strconv_formatBits_l2 base s.1 s.2.1 s.2.2) x.1 (x.2.1, x.2.2.1, x.2.2.2) = some y363 ∧ St w F m m [rowI rU8 5 A0_0 c0_0 dst, blkI g7 (x.2.2.1.map fU8) 116] wl382) (fun (x : Nat × UInt64 × (List UInt8) × Int) => x.1) (nn382, u1, (List.replicate 65 (0 : UInt8)), 65) (by kernel_rfl) (by kernel_rfl) (by kernel_rfl) ?_ ?_
            · exact ⟨hR382, H⟩
            rintro ⟨n382, u3, a1, i1⟩ wl382 ⟨hR382, H⟩
            try dsimp only at hR382
            try dsimp only at H
            obtain ⟨nk382, q382, rfl, hb_382, hnx382, hfin382⟩ := iterE hR382
            replace hb_382 : internal_strconv_formatBits_l2 base u3 a1 i1 = some q382 := hb_382
            unfold internal_strconv_formatBits_l2 at hb_382
            refine seg 7 [.co [1, 1, 1, 1, 1, 0, 1, 1, 1, 0, 0, 0, 0, 1], .co [1, 1, 1, 1, 1, 0, 1, 1, 1, 0, 0, 0, 1], .le 1, .bl 2, .le 0, .co [1, 1, 1, 1, 1, 0, 1, 1, 1, 1], .co [1, 1, 1, 1, 1, 1]] [(0, .slice A0_0 dst.length c0_0), (1, .int .u64 (u3.toNat : Int)), (3, .bool neg1), (4, .bool append_), (10, .slice none 0 0), (11, .string ⟨([] : List UInt8).toArray⟩), (12, .pointer (some (⟨g7, 0, none⟩))), (13, .int .i64 i1), (17, .int .u64 ((UInt64.ofInt base).toNat : Int)), (68, .bool (decide ((u3.toNat : Int) ≥ ((UInt64.ofInt base).toNat : Int))))] (by kernel_rfl) ?_
            rcases condT hb_382 with ⟨hb384, hb_382⟩ | ⟨hb384, hb_382⟩
            · rw [hb384]
              have p384 := of_decide_eq_true hb384
              refine seg 13 [.op [1, 1, 1, 1, 1, 0, 1, 1, 1, 0, 0, 0, 1, 0, 1, 0] 2, .co [1, 1, 1, 1, 1, 0, 1, 1, 1, 0, 0, 0, 1, 0, 1, 1], .bl 3, .le 1, .bl 2, .le 0, .co [1, 1, 1, 1, 1, 0, 1, 1, 1, 1], .co [1, 1, 1, 1, 1, 1]] [(0, .slice A0_0 dst.length c0_0), (1, .int .u64 (u3.toNat : Int)), (3, .bool neg1), (4, .bool append_), (10, .slice none 0 0), (11, .string ⟨([] : List UInt8).toArray⟩), (12, .pointer (some (⟨g7, 0, none⟩))), (13, .int .i64 (IntKind.i64.wrap (i1 - 1))), (17, .int .u64 ((UInt64.ofInt base).toNat : Int)), (71, .int .u64 (u3.toNat : Int)), (72, .int .u64 ((UInt64.ofInt base).toNat : Int))] (by kernel_rfl) ?_
              obtain ⟨hc385, hb_382⟩ := chkE hb_382
              refine st (runR (by kernel_rfl : fetch _ _ _ _ _ = some ((some 73), vS (Op.intDiv .quo .u64 (u3.toNat : Int) ((UInt64.ofInt base).toNat : Int)))) (quo64_run u3 (UInt64.ofInt base) (of_decide_eq_true hc385)) ?_)
              refine seg 10 [.op [1, 1, 1, 1, 1, 0, 1, 1, 1, 0, 0, 0, 1, 0, 1, 1, 0] 6, .co [1, 1, 1, 1, 1, 0, 1, 1, 1, 0, 0, 0, 1, 0, 1, 1, 1], .bl 3, .le 1, .bl 2, .le 0, .co [1, 1, 1, 1, 1, 0, 1, 1, 1, 1], .co [1, 1, 1, 1, 1, 1]] [(0, .slice A0_0 dst.length c0_0), (3, .bool neg1), (4, .bool append_), (10, .slice none 0 0), (11, .string ⟨([] : List UInt8).toArray⟩), (12, .pointer (some (⟨g7, 0, none⟩))), (13, .int .i64 (IntKind.i64.wrap (i1 - 1))), (17, .int .u64 ((UInt64.ofInt base).toNat : Int)), (18, .int .u64 ((u3 / (UInt64.ofInt base)).toNat : Int)), (74, .int .i64 (IntKind.i64.wrap (i1 - 1))), (79, .int .u64 (IntKind.u64.wrap ((u3.toNat : Int) - (IntKind.u64.wrap (((u3 / (UInt64.ofInt base)).toNat : Int) * ((UInt64.ofInt base).toNat : Int))))))] (by kernel_rfl) ?_
              rw [q64_mul (u3 / (UInt64.ofInt base)) (UInt64.ofInt base) ((u3 / (UInt64.ofInt base)).toNat : Int) ((UInt64.ofInt base).toNat : Int) (by rfl) (by rfl)]
              rw [q64_sub u3 ((u3 / (UInt64.ofInt base)) * (UInt64.ofInt base)) (u3.toNat : Int) (((u3 / (UInt64.ofInt base)) * (UInt64.ofInt base)).toNat : Int) (by rfl) (by rfl)]
              obtain ⟨c2, h_c2, hb_382⟩ := bindE hb_382
              refine st (strS (some 80) 9 ([48, 49, 50, 51, 52, 53, 54, 55, 56, 57, 97, 98, 99, 100, 101, 102, 103, 104, 105, 106, 107, 108, 109, 110, 111, 112, 113, 114, 115, 116, 117, 118, 119, 120, 121, 122] : List UInt8) .u64 ((u3 - ((u3 / (UInt64.ofInt base)) * (UInt64.ofInt base))).toNat : Int) c2 (by kernel_rfl) (by kernel_rfl) h_c2 ?_)
              obtain ⟨x_3, h_x_3, hb_382⟩ := bindE hb_382
              obtain ⟨hc386, hb_382⟩ := chkE hb_382
              obtain ⟨i0387, i1387, ix387⟩ := idx_some h_x_3
              refine st (idxAS (some 81) 116 65 5 g7 .i64 (IntKind.i64.wrap (i1 - 1)) (by kernel_rfl) (by kernel_rfl) i0387 (of_decide_eq_true hc386) ?_)
              refine st (stAS fU8 none 5 1 g7 ((IntKind.i64.wrap (i1 - 1)).toNat) c2 a1 116 H rfl (by kernel_rfl) (by kernel_rfl) rfl (List.getElem?_eq_some_iff.1 ix387).1 ?_)
              intro w388 H
              refine seg 6 [.le 1, .bl 2, .le 0, .co [1, 1, 1, 1, 1, 0, 1, 1, 1, 1], .co [1, 1, 1, 1, 1, 1]] [(0, .slice A0_0 dst.length c0_0), (1, .int .u64 ((u3 / (UInt64.ofInt base)).toNat : Int)), (3, .bool neg1), (4, .bool append_), (10, .slice none 0 0), (11, .string ⟨([] : List UInt8).toArray⟩), (12, .pointer (some (⟨g7, 0, none⟩))), (13, .int .i64 (IntKind.i64.wrap (i1 - 1))), (17, .int .u64 ((UInt64.ofInt base).toNat : Int))] (by kernel_rfl) ?_
              refine leR (nk382, (u3 / (UInt64.ofInt base)), (a1.set ((IntKind.i64.wrap (i1 - 1)).toNat) c2), (IntKind.i64.wrap (i1 - 1))) (Nat.lt_succ_self _) ⟨hnx382 _ (Option.some.inj hb_382).symm, H⟩ (by kernel_rfl)
            · rw [hb384]
              have p384 := of_decide_eq_false hb384
              refine seg 2 [.le 0, .co [1, 1, 1, 1, 1, 0, 1, 1, 1, 1], .co [1, 1, 1, 1, 1, 1]] [(0, .slice A0_0 dst.length c0_0), (1, .int .u64 (u3.toNat : Int)), (3, .bool neg1), (4, .bool append_), (10, .slice none 0 0), (11, .string ⟨([] : List UInt8).toArray⟩), (12, .pointer (some (⟨g7, 0, none⟩))), (13, .int .i64 i1)] (by kernel_rfl) ?_
              refine leR_up (k' := []) (by rfl) ?_
              refine leJ (u3, a1, i1) ⟨(hfin382 _ (Option.some.inj hb_382).symm).symm, H⟩ (by kernel_rfl)
          rintro ⟨u3, a1, i1⟩ wj363 ⟨hy363, H⟩
          try dsimp only at hy363
          try dsimp only at H
          rw [hy363] at hf
          try dsimp only at hf
          refine seg 9 [.op [1, 1, 1, 1, 1, 0, 1, 1, 1, 1, 1] 2, .co [1, 1, 1, 1, 1, 1]] [(0, .slice A0_0 dst.length c0_0), (3, .bool neg1), (4, .bool append_), (10, .slice none 0 0), (11, .string ⟨([] : List UInt8).toArray⟩), (12, .pointer (some (⟨g7, 0, none⟩))), (13, .int .i64 (IntKind.i64.wrap (i1 - 1))), (85, .int .i64 (IntKind.i64.wrap (i1 - 1))), (86, .int .u64 (u3.toNat : Int))] (by kernel_rfl) ?_
          obtain ⟨c3, h_c3, hf⟩ := bindE hf
          refine st (strS (some 87) 9 ([48, 49, 50, 51, 52, 53, 54, 55, 56, 57, 97, 98, 99, 100, 101, 102, 103, 104, 105, 106, 107, 108, 109, 110, 111, 112, 113, 114, 115, 116, 117, 118, 119, 120, 121, 122] : List UInt8) .u64 (u3.toNat : Int) c3 (by kernel_rfl) (by kernel_rfl) h_c3 ?_)
          obtain ⟨x_4, h_x_4, hf⟩ := bindE hf
          obtain ⟨hc389, hf⟩ := chkE hf
          obtain ⟨i0390, i1390, ix390⟩ := idx_some h_x_4
          refine st (idxAS (some 88) 116 65 5 g7 .i64 (IntKind.i64.wrap (i1 - 1)) (by kernel_rfl) (by kernel_rfl) i0390 (of_decide_eq_true hc389) ?_)
          refine st (stAS fU8 none 5 1 g7 ((IntKind.i64.wrap (i1 - 1)).toNat) c3 a1 116 H rfl (by kernel_rfl) (by kernel_rfl) rfl (List.getElem?_eq_some_iff.1 ix390).1 ?_)
          intro w391 H
          refine seg 6 [.co [1, 1, 1, 1, 1, 1, 0, 1], .co [1, 1, 1, 1, 1, 1, 1]] [(0, .slice A0_0 dst.length c0_0), (4, .bool append_), (10, .slice none 0 0), (11, .string ⟨([] : List UInt8).toArray⟩), (12, .pointer (some (⟨g7, 0, none⟩))), (13, .int .i64 (IntKind.i64.wrap (i1 - 1))), (89, .bool neg1)] (by kernel_rfl) ?_
          rcases condT hf with ⟨hb392, hf⟩ | ⟨hb392, hf⟩
          · rw [hb392]
            refine seg 9 [.op [1, 1, 1, 1, 1, 1, 0, 1, 0, 1] 1, .co [1, 1, 1, 1, 1, 1, 1]] [(0, .slice A0_0 dst.length c0_0), (4, .bool append_), (10, .slice none 0 0), (11, .string ⟨([] : List UInt8).toArray⟩), (12, .pointer (some (⟨g7, 0, none⟩))), (13, .int .i64 (IntKind.i64.wrap ((IntKind.i64.wrap (i1 - 1)) - 1))), (92, .int .i64 (IntKind.i64.wrap ((IntKind.i64.wrap (i1 - 1)) - 1)))] (by kernel_rfl) ?_
            obtain ⟨x_5, h_x_5, hf⟩ := bindE hf
            obtain ⟨hc393, hf⟩ := chkE hf
            obtain ⟨i0394, i1394, ix394⟩ := idx_some h_x_5
            refine st (idxAS (some 93) 116 65 5 g7 .i64 (IntKind.i64.wrap ((IntKind.i64.wrap (i1 - 1)) - 1)) (by kernel_rfl) (by kernel_rfl) i0394 (of_decide_eq_true hc393) ?_)
            refine st (stAS fU8 none 5 1 g7 ((IntKind.i64.wrap ((IntKind.i64.wrap (i1 - 1)) - 1)).toNat) (45 : UInt8) (a1.set ((IntKind.i64.wrap (i1 - 1)).toNat) c3) 116 H rfl (by kernel_rfl) (by kernel_rfl) rfl (List.getElem?_eq_some_iff.1 ix394).1 ?_)
            intro w395 H
            refine seg 6 [.co [1, 1, 1, 1, 1, 1, 1, 0, 1], .co [1, 1, 1, 1, 1, 1, 1, 1]] [(0, .slice A0_0 dst.length c0_0), (10, .slice none 0 0), (11, .string ⟨([] : List UInt8).toArray⟩), (12, .pointer (some (⟨g7, 0, none⟩))), (13, .int .i64 (IntKind.i64.wrap ((IntKind.i64.wrap (i1 - 1)) - 1))), (94, .bool append_)] (by kernel_rfl) ?_
            rcases condT hf with ⟨hb402, hf⟩ | ⟨hb402, hf⟩
            · rw [hb402]
              refine seg 5 [.op [1, 1, 1, 1, 1, 1, 1, 0, 1, 0, 0] 2, .co [1, 1, 1, 1, 1, 1, 1, 0, 1, 0, 1], .co [1, 1, 1, 1, 1, 1, 1, 1]] [(11, .string ⟨([] : List UInt8).toArray⟩), (12, .pointer (some (⟨g7, 0, none⟩))), (95, .slice A0_0 dst.length c0_0), (96, .int .i64 (IntKind.i64.wrap ((IntKind.i64.wrap (i1 - 1)) - 1)))] (by kernel_rfl) ?_
              obtain ⟨hc404, hf⟩ := chkE hf
              obtain ⟨mf403, hsub403, hbf403, H⟩ := H.fixB 1 rfl
              have hN403 := of_decide_eq_true hc404
              have hA403 := SlI.ofArr hbf403 (by rw [hN403]; decide)
              obtain ⟨y_4, h_y_4, hf⟩ := bindE hf
              refine st (sliAS (some 97) 116 65 5 ⟨g7, 0, none⟩ ((a1.set ((IntKind.i64.wrap (i1 - 1)).toNat) c3).set ((IntKind.i64.wrap ((IntKind.i64.wrap (i1 - 1)) - 1)).toNat) (45 : UInt8)) y_4 (some (.int .i64 (IntKind.i64.wrap ((IntKind.i64.wrap (i1 - 1)) - 1)))) none (IntKind.i64.wrap ((IntKind.i64.wrap (i1 - 1)) - 1)) (((a1.set ((IntKind.i64.wrap (i1 - 1)).toNat) c3).set ((IntKind.i64.wrap ((IntKind.i64.wrap (i1 - 1)) - 1)).toNat) (45 : UInt8)).length : Int) hA403 hN403 (by kernel_rfl) (by kernel_rfl) (.inr ⟨_, rfl⟩) (.inl ⟨rfl, rfl⟩) h_y_4 ?_)
              intro A405 c405 hs405
              obtain ⟨xs406, hr406, hx406⟩ := hs405.cs
              obtain ⟨b2, h_b2, hf⟩ := bindE hf
              refine st (appS (r := rU8) (some 98) 23 5 1 (.int .u8 0) 23 0 A0_0 A405 c0_0 y_4.length c405 dst y_4 b2 _ H rfl ⟨Tryd.underlying23, by kernel_rfl⟩ rfl (by decide) (by kernel_rfl) (hx406.cs H.has) hr406 rfl h_b2 (by decide) (by decide) ?_)
              intro A407 c407 w407 H
              refine seg 2 [.co [1, 1, 1, 1, 1, 1, 1, 0, 1, 0, 1], .co [1, 1, 1, 1, 1, 1, 1, 1]] [(10, .slice A407 b2.length c407), (11, .string ⟨([] : List UInt8).toArray⟩)] (by kernel_rfl) ?_
              refine retR [10, 11] [.slice A407 b2.length c407, .string ⟨([] : List UInt8).toArray⟩] (by kernel_rfl) (by kernel_rfl) (by kernel_rfl) ?_
              obtain rfl : (b2, ([] : List UInt8)) = r := (Option.some.inj hf)
              exact ⟨_, rfl, A407, c407, mf403, rfl, H, (Nat.le_of_ble_eq_true rfl)⟩
            · rw [hb402]
              refine seg 5 [.op [1, 1, 1, 1, 1, 1, 1, 1, 0] 1, .co [1, 1, 1, 1, 1, 1, 1, 1, 1]] [(10, .slice none 0 0), (12, .pointer (some (⟨g7, 0, none⟩))), (99, .int .i64 (IntKind.i64.wrap ((IntKind.i64.wrap (i1 - 1)) - 1)))] (by kernel_rfl) ?_
              obtain ⟨hc409, hf⟩ := chkE hf
              obtain ⟨mf408, hsub408, hbf408, H⟩ := H.fixB 1 rfl
              have hN408 := of_decide_eq_true hc409
              have hA408 := SlI.ofArr hbf408 (by rw [hN408]; decide)
              obtain ⟨y_5, h_y_5, hf⟩ := bindE hf
              refine st (sliAS (some 100) 116 65 5 ⟨g7, 0, none⟩ ((a1.set ((IntKind.i64.wrap (i1 - 1)).toNat) c3).set ((IntKind.i64.wrap ((IntKind.i64.wrap (i1 - 1)) - 1)).toNat) (45 : UInt8)) y_5 (some (.int .i64 (IntKind.i64.wrap ((IntKind.i64.wrap (i1 - 1)) - 1)))) none (IntKind.i64.wrap ((IntKind.i64.wrap (i1 - 1)) - 1)) (((a1.set ((IntKind.i64.wrap (i1 - 1)).toNat) c3).set ((IntKind.i64.wrap ((IntKind.i64.wrap (i1 - 1)) - 1)).toNat) (45 : UInt8)).length : Int) hA408 hN408 (by kernel_rfl) (by kernel_rfl) (.inr ⟨_, rfl⟩) (.inl ⟨rfl, rfl⟩) h_y_5 ?_)
              intro A410 c410 hs410
              refine st (b2sS (some 101) 23 9 5 A410 c410 y_5 Tryd.underlying23 Tryd.underlying5 Tryd.underlying9 (by kernel_rfl) (hs410.bytes.cs H.has) ?_)
              have hl411 : y_5.length ≤ 9223372036854775807 := hs410.bound
              refine seg 2 [.co [1, 1, 1, 1, 1, 1, 1, 1, 1]] [(10, .slice none 0 0), (11, .string ⟨y_5.toArray⟩)] (by kernel_rfl) ?_
              have H := H.nilR rU8 5
              refine retR [10, 11] [.slice none 0 0, .string ⟨y_5.toArray⟩] (by kernel_rfl) (by kernel_rfl) (by kernel_rfl) ?_
              obtain rfl : ([], y_5) = r := (Option.some.inj hf)
              exact ⟨_, rfl, none, 0, mf408, rfl, (St.takeN 1 H), hl411⟩
          · rw [hb392]
            refine seg 7 [.co [1, 1, 1, 1, 1, 1, 1, 0, 1], .co [1, 1, 1, 1, 1, 1, 1, 1]] [(0, .slice A0_0 dst.length c0_0), (10, .slice none 0 0), (11, .string ⟨([] : List UInt8).toArray⟩), (12, .pointer (some (⟨g7, 0, none⟩))), (13, .int .i64 (IntKind.i64.wrap (i1 - 1))), (94, .bool append_)] (by kernel_rfl) ?_
            rcases condT hf with ⟨hb418, hf⟩ | ⟨hb418, hf⟩
            · rw [hb418]
              refine seg 5 [.op [1, 1, 1, 1, 1, 1, 1, 0, 1, 0, 0] 2, .co [1, 1, 1, 1, 1, 1, 1, 0, 1, 0, 1], .co [1, 1, 1, 1, 1, 1, 1, 1]] [(11, .string ⟨([] : List UInt8).toArray⟩), (12, .pointer (some (⟨g7, 0, none⟩))), (95, .slice A0_0 dst.length c0_0), (96, .int .i64 (IntKind.i64.wrap (i1 - 1)))] (by kernel_rfl) ?_
              obtain ⟨hc420, hf⟩ := chkE hf
              obtain ⟨mf419, hsub419, hbf419, H⟩ := H.fixB 1 rfl
              have hN419 := of_decide_eq_true hc420
              have hA419 := SlI.ofArr hbf419 (by rw [hN419]; decide)
              obtain ⟨y_6, h_y_6, hf⟩ := bindE hf
              refine st (sliAS (some 97) 116 65 5 ⟨g7, 0, none⟩ (a1.set ((IntKind.i64.wrap (i1 - 1)).toNat) c3) y_6 (some (.int .i64 (IntKind.i64.wrap (i1 - 1)))) none (IntKind.i64.wrap (i1 - 1)) ((a1.set ((IntKind.i64.wrap (i1 - 1)).toNat) c3).length : Int) hA419 hN419 (by kernel_rfl) (by kernel_rfl) (.inr ⟨_, rfl⟩) (.inl ⟨rfl, rfl⟩) h_y_6 ?_)
              intro A421 c421 hs421
              obtain ⟨xs422, hr422, hx422⟩ := hs421.cs
              obtain ⟨b3, h_b3, hf⟩ := bindE hf
              refine st (appS (r := rU8) (some 98) 23 5 1 (.int .u8 0) 23 0 A0_0 A421 c0_0 y_6.length c421 dst y_6 b3 _ H rfl ⟨Tryd.underlying23, by kernel_rfl⟩ rfl (by decide) (by kernel_rfl) (hx422.cs H.has) hr422 rfl h_b3 (by decide) (by decide) ?_)
              intro A423 c423 w423 H
              refine seg 2 [.co [1, 1, 1, 1, 1, 1, 1, 0, 1, 0, 1], .co [1, 1, 1, 1, 1, 1, 1, 1]] [(10, .slice A423 b3.length c423), (11, .string ⟨([] : List UInt8).toArray⟩)] (by kernel_rfl) ?_
              refine retR [10, 11] [.slice A423 b3.length c423, .string ⟨([] : List UInt8).toArray⟩] (by kernel_rfl) (by kernel_rfl) (by kernel_rfl) ?_
              obtain rfl : (b3, ([] : List UInt8)) = r := (Option.some.inj hf)
              exact ⟨_, rfl, A423, c423, mf419, rfl, H, (Nat.le_of_ble_eq_true rfl)⟩
            · rw [hb418]
              refine seg 5 [.op [1, 1, 1, 1, 1, 1, 1, 1, 0] 1, .co [1, 1, 1, 1, 1, 1, 1, 1, 1]] [(10, .slice none 0 0), (12, .pointer (some (⟨g7, 0, none⟩))), (99, .int .i64 (IntKind.i64.wrap (i1 - 1)))] (by kernel_rfl) ?_
              replace H : St w F m m [blkI g7 ((a1.set ((IntKind.i64.wrap (i1 - 1)).toNat) c3).map fU8) 116] w391 := (H.drop 0 rfl)
              obtain ⟨hc425, hf⟩ := chkE hf
              obtain ⟨mf424, hsub424, hbf424, H⟩ := H.fixB 0 rfl
              have hN424 := of_decide_eq_true hc425
              have hA424 := SlI.ofArr hbf424 (by rw [hN424]; decide)
              obtain ⟨y_7, h_y_7, hf⟩ := bindE hf
              refine st (sliAS (some 100) 116 65 5 ⟨g7, 0, none⟩ (a1.set ((IntKind.i64.wrap (i1 - 1)).toNat) c3) y_7 (some (.int .i64 (IntKind.i64.wrap (i1 - 1)))) none (IntKind.i64.wrap (i1 - 1)) ((a1.set ((IntKind.i64.wrap (i1 - 1)).toNat) c3).length : Int) hA424 hN424 (by kernel_rfl) (by kernel_rfl) (.inr ⟨_, rfl⟩) (.inl ⟨rfl, rfl⟩) h_y_7 ?_)
              intro A426 c426 hs426
              refine st (b2sS (some 101) 23 9 5 A426 c426 y_7 Tryd.underlying23 Tryd.underlying5 Tryd.underlying9 (by kernel_rfl) (hs426.bytes.cs H.has) ?_)
              have hl427 : y_7.length ≤ 9223372036854775807 := hs426.bound
              refine seg 2 [.co [1, 1, 1, 1, 1, 1, 1, 1, 1]] [(10, .slice none 0 0), (11, .string ⟨y_7.toArray⟩)] (by kernel_rfl) ?_
              have H := H.nilR rU8 5
              refine retR [10, 11] [.slice none 0 0, .string ⟨y_7.toArray⟩] (by kernel_rfl) (by kernel_rfl) (by kernel_rfl) ?_
              obtain rfl : ([], y_7) = r := (Option.some.inj hf)
              exact ⟨_, rfl, none, 0, mf424, rfl, H, hl427⟩
theorem internal_strconv_FormatUint_c {m : Mem} {w : World} (hm : Has m w) (hG1 : TabM m 1 (tab0.map fU64)) (hG3 : TabM m 3 (tab2.map fU8)) (i : UInt64) (base : Int) {r : (List UInt8)} (hf : internal_strconv_FormatUint i base = some r) :
    Calls Tryd.prog 54 #[.int .u64 (i.toNat : Int), .int .i64 base] w fun e w' => ∃ v, e = .returned v ∧ v = .string ⟨r.toArray⟩ ∧ Ex w w' ∧ r.length ≤ 9223372036854775807 := by
  unfold internal_strconv_FormatUint at hf
  have H := St.start0 hm
  refine callsR Tryd.func54 (by kernel_rfl) (by kernel_rfl) ?_
  refine seg 10 [.co [1, 0, 1], .co [1, 1]] [(0, .int .u64 (i.toNat : Int)), (1, .int .i64 base), (10, .bool (base == 10))] (by kernel_rfl) ?_
  rcases condT hf with ⟨hb14, hf⟩ | ⟨hb14, hf⟩
  · rw [hb14]
    refine seg 7 [.co [1, 0, 1, 0, 0, 1], .co [1, 0, 1, 0, 1], .co [1, 1]] [(0, .int .u64 (i.toNat : Int)), (12, .bool (decide ((i.toNat : Int) < 100)))] (by kernel_rfl) ?_
    rcases condT hf with ⟨hb15, hf⟩ | ⟨hb15, hf⟩
    · rw [hb15]
      have p15 := of_decide_eq_true hb15
      refine seg 5 [.op [1, 0, 1, 0, 0, 1, 0, 0] 2, .co [1, 0, 1, 0, 0, 1, 0, 1], .co [1, 0, 1, 0, 1], .co [1, 1]] [(14, .int .i64 (IntKind.i64.wrap (i.toNat : Int)))] (by kernel_rfl) ?_
      obtain ⟨small, h_small, hf⟩ := bindE hf
      refine st (callR (some 15) 70 #[.int .i64 (IntKind.i64.wrap (i.toNat : Int))] Tryd.call70 (internal_strconv_small_c H.has (IntKind.i64.wrap (i.toNat : Int)) h_small) (by kernel_rfl) ?_)
      rintro _ w17 ⟨rfl, hx17, hl17_0⟩
      replace H := H.ex hx17
      refine seg 2 [.co [1, 0, 1, 0, 0, 1, 0, 1], .co [1, 0, 1, 0, 1], .co [1, 1]] [(4, .string ⟨small.toArray⟩)] (by kernel_rfl) ?_
      refine retR [4] [.string ⟨small.toArray⟩] (by kernel_rfl) (by kernel_rfl) (by kernel_rfl) ?_
      have hret := (Option.some.inj hf)
      subst hret
      exact ⟨_, rfl, rfl, H.scalar, hl17_0⟩
    · rw [hb15]
      have p15 := of_decide_eq_false hb15
      refine seg 4 [.op [1, 0, 1, 0, 1, 0] 0, .co [1, 0, 1, 0, 1, 1], .co [1, 1]] [(0, .int .u64 (i.toNat : Int))] (by kernel_rfl) ?_
      refine st (newS (some 5) (fun g => .pointer (some ⟨g, 0, none⟩)) [.int .u8 0, .int .u8 0, .int .u8 0, .int .u8 0, .int .u8 0, .int .u8 0, .int .u8 0, .int .u8 0, .int .u8 0, .int .u8 0, .int .u8 0, .int .u8 0, .int .u8 0, .int .u8 0, .int .u8 0, .int .u8 0, .int .u8 0, .int .u8 0, .int .u8 0, .int .u8 0, .int .u8 0, .int .u8 0, .int .u8 0, .int .u8 0] 99 H (by kernel_rfl) ?_)
      intro g18 w18 H
      replace H := H.toArr 0 fU8 (List.replicate 24 (0 : UInt8)) rfl (by kernel_rfl)
      refine seg 4 [.op [1, 0, 1, 0, 1, 1, 0] 1, .co [1, 0, 1, 0, 1, 1, 1], .co [1, 1]] [(0, .int .u64 (i.toNat : Int)), (5, .pointer (some (⟨g18, 0, none⟩))), (16, .int .u64 (i.toNat : Int))] (by kernel_rfl) ?_
      obtain ⟨numDig, h_numDig, hf⟩ := bindE hf
      refine st (callR (some 17) 71 #[.int .u64 (i.toNat : Int)] Tryd.call71 (internal_strconv_numDigits_c H.has hG1 i h_numDig) (by kernel_rfl) ?_)
      rintro _ w19 ⟨rfl, hx19⟩
      replace H := H.ex hx19
      refine seg 5 [.op [1, 0, 1, 0, 1, 1, 1, 0] 1, .co [1, 0, 1, 0, 1, 1, 1, 1], .co [1, 1]] [(0, .int .u64 (i.toNat : Int)), (5, .pointer (some (⟨g18, 0, none⟩))), (6, .int .i64 numDig), (18, .int .i64 numDig)] (by kernel_rfl) ?_
      replace H : St w noF m m [blkI g18 ((List.replicate 24 (0 : UInt8)).map fU8) 99] w19 := H
      obtain ⟨hc20, hf⟩ := chkE hf
      refine st (sliA0 (some 19) 99 24 5 g18 .i64 numDig (by kernel_rfl) (by kernel_rfl) (by kernel_rfl) (of_decide_eq_true hc20) ?_)
      refine seg 1 [.op [1, 0, 1, 0, 1, 1, 1, 0] 3, .co [1, 0, 1, 0, 1, 1, 1, 1], .co [1, 1]] [(5, .pointer (some (⟨g18, 0, none⟩))), (6, .int .i64 numDig), (19, .slice (some ⟨g18, 0, none⟩) numDig.toNat 24), (20, .int .u64 (i.toNat : Int))] (by kernel_rfl) ?_
      obtain ⟨format, h_format, hf⟩ := bindE hf
      obtain ⟨F21, hse21, hFn21, hcl21⟩ := St.call [blkI g18 ((List.replicate 24 (0 : UInt8)).map fU8) 99] H
      refine st (callR (some 21) 72 #[.slice (some ⟨g18, 0, none⟩) numDig.toNat 24, .int .u64 (i.toNat : Int)] Tryd.call72 (internal_strconv_formatBase10_c H.has g18 (List.replicate 24 (0 : UInt8)) numDig.toNat i hse21 hFn21 h_format) (by kernel_rfl) ?_)
      rintro _ w21 ⟨mk21, rfl, hS21⟩
      have hsub21 := hS21.sub
      replace H := hcl21 _ _ _ hS21
      refine seg 4 [.op [1, 0, 1, 0, 1, 1, 1, 1, 0] 1, .co [1, 0, 1, 0, 1, 1, 1, 1, 1], .co [1, 1]] [(5, .pointer (some (⟨g18, 0, none⟩))), (22, .int .i64 numDig)] (by kernel_rfl) ?_
      obtain ⟨hc22, hf⟩ := chkE hf
      refine st (sliA0 (some 23) 99 24 5 g18 .i64 numDig (by kernel_rfl) (by kernel_rfl) (by kernel_rfl) (of_decide_eq_true hc22) ?_)
      obtain ⟨hc23, hf⟩ := chkE hf
      refine st (b2sA (some 24) 23 9 5 (some ⟨g18, 0, none⟩) numDig.toNat 24 (format.take numDig.toNat) Tryd.underlying23 Tryd.underlying5 Tryd.underlying9 (by kernel_rfl) (Cs.arr (H.blk 0 rfl) numDig.toNat) (of_decide_eq_true hc23) ?_)
      have hl24 : (format.take numDig.toNat).length ≤ 9223372036854775807 := Nat.le_trans (Nat.le_of_eq (of_decide_eq_true hc23).1) (of_decide_eq_true hc23).2
      refine seg 2 [.co [1, 0, 1, 0, 1, 1, 1, 1, 1], .co [1, 1]] [(4, .string ⟨(format.take numDig.toNat).toArray⟩)] (by kernel_rfl) ?_
      refine retR [4] [.string ⟨(format.take numDig.toNat).toArray⟩] (by kernel_rfl) (by kernel_rfl) (by kernel_rfl) ?_
      obtain rfl : (format.take numDig.toNat) = r := (Option.some.inj hf)
      exact ⟨_, rfl, rfl, H.scalar, hl24⟩
  · rw [hb14]
    refine seg 6 [.op [1, 1, 0] 2, .co [1, 1, 1]] [(26, .int .u64 (i.toNat : Int)), (27, .int .i64 base)] (by kernel_rfl) ?_
    have H := H.nilR rU8 5
    obtain ⟨format1, h_format1, hf⟩ := bindE hf
    obtain ⟨F25, hse25, hFn25, hcl25⟩ := St.call [rowI rU8 5 none 0 ([] : List UInt8)] H
    refine st (callR (some 28) 73 #[.slice none 0 0, .int .u64 (i.toNat : Int), .int .i64 base, .bool false, .bool false] Tryd.call73 (internal_strconv_formatBits_c H.has hG3 [] none 0 i base false false hse25 hFn25 h_format1) (by kernel_rfl) ?_)
    rintro _ w25 ⟨A25_0, c25_0, mk25, rfl, hS25, hl25_0⟩
    have hsub25 := hS25.sub
    replace H := hcl25 _ _ _ hS25
    refine seg 11 [.co [1, 1, 1, 1]] [(4, .string ⟨format1.2.toArray⟩)] (by kernel_rfl) ?_
    refine retR [4] [.string ⟨format1.2.toArray⟩] (by kernel_rfl) (by kernel_rfl) (by kernel_rfl) ?_
    obtain rfl : format1.2 = r := (Option.some.inj hf)
    exact ⟨_, rfl, rfl, H.scalar, hl25_0⟩
theorem strconv_FormatUint_c {m : Mem} {w : World} (hm : Has m w) (hG1 : TabM m 1 (tab0.map fU64)) (hG3 : TabM m 3 (tab2.map fU8)) (i : UInt64) (base : Int) {r : (List UInt8)} (hf : strconv_FormatUint i base = some r) :
    Calls Tryd.prog 34 #[.int .u64 (i.toNat : Int), .int .i64 base] w fun e w' => ∃ v, e = .returned v ∧ v = .string ⟨r.toArray⟩ ∧ Ex w w' ∧ r.length ≤ 9223372036854775807 := by
  unfold strconv_FormatUint at hf
  have H := St.start0 hm
  refine callsR Tryd.func34 (by kernel_rfl) (by kernel_rfl) ?_
  refine seg 8 [.op [1, 0] 2, .co [1, 1]] [(5, .int .u64 (i.toNat : Int)), (6, .int .i64 base)] (by kernel_rfl) ?_
  obtain ⟨format, h_format, hf⟩ := bindE hf
  refine st (callR (some 7) 54 #[.int .u64 (i.toNat : Int), .int .i64 base] Tryd.call54 (internal_strconv_FormatUint_c H.has hG1 hG3 i base h_format) (by kernel_rfl) ?_)
  rintro _ w1 ⟨rfl, hx1, hl1_0⟩
  replace H := H.ex hx1
  refine seg 2 [.co [1, 1]] [(4, .string ⟨format.toArray⟩)] (by kernel_rfl) ?_
  refine retR [4] [.string ⟨format.toArray⟩] (by kernel_rfl) (by kernel_rfl) (by kernel_rfl) ?_
  have hret := (Option.some.inj hf)
  subst hret
  exact ⟨_, rfl, rfl, H.scalar, hl1_0⟩
theorem strings_Builder_WriteByte_c {m : Mem} {w : World} (hm : Has m w) (g0 : Nat) (b : TStringsBuilder) (A0_1 : Option Addr) (c0_1 : Nat) (c : UInt8) {F : Nat → Prop} (hsep : Sep m w [blkI g0 [(bptr g0 b.f_addr), .slice A0_1 b.f_buf.length c0_1] 64, rowI rU8 5 A0_1 c0_1 b.f_buf] F) (hF : ∀ k, F k → m k = none) {r : TStringsBuilder} (hf : strings_Builder_WriteByte b c = some r) :
    Calls Tryd.prog 59 #[.pointer (some (⟨g0, 0, none⟩)), .int .u8 (c.toNat : Int)] w fun e w' => ∃ v, e = .returned v ∧ ∃ Az_o0_1 : Option Addr, ∃ cz_o0_1 : Nat, ∃ m' : Mem, v = .nilIface ∧ St w F m m' [blkI g0 [(bptr g0 r.f_addr), .slice Az_o0_1 r.f_buf.length cz_o0_1] 64, rowI rU8 5 Az_o0_1 cz_o0_1 r.f_buf] w' := by
  unfold strings_Builder_WriteByte at hf
  have H := St.start hm hsep hF
  refine callsR Tryd.func59 (by kernel_rfl) (by kernel_rfl) ?_
  refine seg 7 [.op [1, 0] 1, .co [1, 1]] [(0, .pointer (some (⟨g0, 0, none⟩))), (1, .int .u8 (c.toNat : Int)), (5, .pointer (some (⟨g0, 0, none⟩)))] (by kernel_rfl) ?_
  refine st (ckS lays240 laysX (some 6) 52 64 0 g0 b.f_addr (.slice A0_1 b.f_buf.length c0_1) rfl rfl H rfl Tryd.call52 (by kernel_rfl) ?_)
  intro w1 H
  refine seg 7 [.op [1, 1, 0] 4, .co [1, 1, 1]] [(1, .int .u8 (c.toNat : Int)), (7, .pointer (some (⟨g0, 0, none⟩))), (10, .pointer (some (⟨g0, 1, none⟩)))] (by kernel_rfl) ?_
  refine st (ldR (some 11) 23 (⟨g0, 1, none⟩) (.slice A0_1 b.f_buf.length c0_1) (by kernel_rfl) (by kernel_rfl) (H.cellB 0 rfl rfl) ?_)
  refine seg 1 [.op [1, 1, 0] 6, .co [1, 1, 1]] [(7, .pointer (some (⟨g0, 0, none⟩))), (11, .slice A0_1 b.f_buf.length c0_1), (12, .int .u8 (c.toNat : Int))] (by kernel_rfl) ?_
  refine st (newS (some 13) (fun g => .slice (some ⟨g, 0, none⟩) 1 1) [.int .u8 (c.toNat : Int)] 5 H (by kernel_rfl) ?_)
  intro g2 w2 H
  obtain ⟨b1, h_b1, hf⟩ := bindE hf
  refine st (appS (r := rU8) (some 14) 23 5 1 (.int .u8 0) 23 2 A0_1 (some ⟨g2, 0, none⟩) c0_1 1 1 b.f_buf [c] b1 _ H rfl ⟨Tryd.underlying23, by kernel_rfl⟩ rfl (by decide) (by kernel_rfl) (Cs.of_blk (H.blk 0 rfl)) (Rows.u8.2 rfl) rfl h_b1 (by decide) (by decide) ?_)
  intro A3 c3 w3 H
  replace H := H.drop 0 rfl
  refine seg 2 [.op [1, 1, 0] 10, .co [1, 1, 1]] [(14, .slice A3 b1.length c3), (16, .pointer (some (⟨g0, 1, none⟩)))] (by kernel_rfl) ?_
  refine st (stS none 23 0 g0 1 (.slice A3 b1.length c3) [.pointer (some (⟨g0, 0, none⟩)), .slice A0_1 b.f_buf.length c0_1] 64 H rfl (by kernel_rfl) (by kernel_rfl) rfl (of_decide_eq_true rfl) ?_)
  intro w4 H
  refine seg 5 [.co [1, 1, 1, 1]] [(4, .nilIface)] (by kernel_rfl) ?_
  refine retR [4] [.nilIface] (by kernel_rfl) (by kernel_rfl) (by kernel_rfl) ?_
  obtain rfl : ({ f_addr := true, f_buf := b1 } : TStringsBuilder) = r := (Option.some.inj hf)
  exact ⟨_, rfl, A3, c3, m, rfl, H⟩
theorem script_hex_c {m : Mem} {w : World} (hm : Has m w) (x_ : (List UInt8)) (A0_0 : Option Addr) (c0_0 : Nat) (s0_0 : SlI rU8 m A0_0 c0_0 x_) {r : (List UInt8)} (hf : script_hex x_ = some r) :
    Calls Tryd.prog 37 #[.slice A0_0 x_.length c0_0] w fun e w' => ∃ v, e = .returned v ∧ v = .string ⟨r.toArray⟩ ∧ Ex w w' ∧ r.length ≤ 9223372036854775807 := by
  unfold script_hex at hf
  have H := St.start0 hm
  refine callsR Tryd.func37 (by kernel_rfl) (by kernel_rfl) ?_
  refine seg 11 [.co [1, 0, 1], .co [1, 1]] [(0, .slice A0_0 x_.length c0_0), (8, .bool ((x_.length : Int) == 0))] (by kernel_rfl) ?_
  rcases condT hf with ⟨hb2, hf⟩ | ⟨hb2, hf⟩
  · rw [hb2]
    refine seg 5 [.co [1, 0, 1, 0, 1], .co [1, 1]] [(2, .string ⟨([45] : List UInt8).toArray⟩)] (by kernel_rfl) ?_
    refine retR [2] [.string ⟨([45] : List UInt8).toArray⟩] (by kernel_rfl) (by kernel_rfl) (by kernel_rfl) ?_
    obtain rfl : ([45] : List UInt8) = r := (Option.some.inj hf)
    exact ⟨_, rfl, rfl, H.scalar, (Nat.le_of_ble_eq_true rfl)⟩
  · rw [hb2]
    refine seg 4 [.op [1, 1, 0] 0, .co [1, 1, 1]] [(0, .slice A0_0 x_.length c0_0)] (by kernel_rfl) ?_
    refine st (newS (some 3) (fun g => .pointer (some ⟨g, 0, none⟩)) [.pointer none, .slice none 0 0] 64 H (by kernel_rfl) ?_)
    intro g3 w3 H
    refine seg 8 [.co [1, 1, 1, 0, 1], .co [1, 1, 1, 1]] [(3, .pointer (some (⟨g3, 0, none⟩))), (9, .slice A0_0 x_.length c0_0), (10, .int .i64 (x_.length : Int)), (11, .int .i64 0)] (by kernel_rfl) ?_
    obtain ⟨y52, hp52, hf⟩ := bindE hf
    refine joinR 0 (fun (x : Bool × (List UInt8) × Option Addr × Nat × Mem) => [(3, .pointer (some (⟨g3, 0, none⟩)))]) (fun (x : Bool × (List UInt8) × Option Addr × Nat × Mem) (wj52 : World) => y52 = (x.1, x.2.1) ∧ St w noF m x.2.2.2.2 [blkI g3 [(bptr g3 x.1), .slice (x.2.2.1) x.2.1.length (x.2.2.2.1)] 64, rowI rU8 5 (x.2.2.1) (x.2.2.2.1) x.2.1] wj52 ∧ Sub m x.2.2.2.2) (by kernel_rfl) ?_ ?_
    · refine seg 1 [.co [1, 1, 1, 0, 1, 0], .bl 0, .le 0, .co [1, 1, 1, 1]] [(3, .pointer (some (⟨g3, 0, none⟩))), (9, .slice A0_0 x_.length c0_0), (10, .int .i64 (x_.length : Int)), (11, .int .i64 0)] (by kernel_rfl) ?_
      have H := H.nilR rU8 5
      obtain ⟨nn67, hR67⟩ := loopO_iff.1 hp52
      refine loopR 1 (fun (x : Nat × Bool × (List UInt8) × Nat × Option Addr × Nat × Mem) => [(3, .pointer (some (⟨g3, 0, none⟩))), (9, .slice A0_0 x_.length c0_0), (10, .int .i64 (x_.length : Int)), (11, .int .i64 (x.2.2.2.1 : Int))]) (fun (x : Nat × Bool × (List UInt8) × Nat × Option Addr × Nat × Mem) (wl67 : World) => iter (fun s => script_hex_l1 x_ s.1 s.2.1 s.2.2) x.1 (x.2.1, x.2.2.1, x.2.2.2.1) = some y52 ∧ St w noF m x.2.2.2.2.2.2 [blkI g3 [(bptr g3 x.2.1), .slice (x.2.2.2.2.1) x.2.2.1.length (x.2.2.2.2.2.1)] 64, rowI rU8 5 (x.2.2.2.2.1) (x.2.2.2.2.2.1) x.2.2.1] wl67 ∧ Sub m x.2.2.2.2.2.2) (fun (x : Nat × Bool × (List UInt8) × Nat × Option Addr × Nat × Mem) => x.1) (nn67, false, [], 0, none, 0, m) (by kernel_rfl) (by kernel_rfl) (by kernel_rfl) ?_ ?_
      · exact ⟨hR67, (H.pull 1 rfl), (Sub.refl _)⟩
      rintro ⟨n67, addr, buf, t, A_1_68, c_2_68, mm68⟩ wl67 ⟨hR67, H, hsub68⟩
      try dsimp only at hR67
      try dsimp only at H
      try dsimp only at hsub68
      obtain ⟨nk67, q67, rfl, hb_67, hnx67, hfin67⟩ := iterE hR67
      replace hb_67 : script_hex_l1 x_ addr buf t = some q67 := hb_67
      unfold script_hex_l1 at hb_67
      refine seg 5 [.co [1, 1, 1, 0, 1, 0, 0, 1, 0], .co [1, 1, 1, 0, 1, 0, 0, 1, 1], .le 1, .bl 0, .le 0, .co [1, 1, 1, 1]] [(3, .pointer (some (⟨g3, 0, none⟩))), (9, .slice A0_0 x_.length c0_0), (10, .int .i64 (x_.length : Int)), (11, .int .i64 (t : Int)), (12, .bool (decide ((t : Int) < (x_.length : Int))))] (by kernel_rfl) ?_
      rcases condT hb_67 with ⟨hb69, hb_67⟩ | ⟨hb69, hb_67⟩
      · rw [hb69]
        have p69 := of_decide_eq_true hb69
        refine seg 6 [.op [1, 1, 1, 0, 1, 0, 0, 1, 1, 0, 0, 0] 0, .co [1, 1, 1, 0, 1, 0, 0, 1, 1, 0, 0, 1], .bl 1, .co [1, 1, 1, 0, 1, 0, 0, 1, 1, 1], .le 1, .bl 0, .le 0, .co [1, 1, 1, 1]] [(3, .pointer (some (⟨g3, 0, none⟩))), (9, .slice A0_0 x_.length c0_0), (10, .int .i64 (x_.length : Int)), (11, .int .i64 (t : Int))] (by kernel_rfl) ?_
        obtain ⟨x_1, h_x_1, hb_67⟩ := bindE hb_67
        obtain ⟨ad71, _, ea71, rfl, hc71⟩ := (s0_0.mono hsub68).at_ h_x_1 (by decide)
        refine st (idxS (some 13) 23 5 1 A0_0 ad71 x_.length c0_0 .i64 (t : Int) ea71 (by kernel_rfl) (by kernel_rfl) (by omega) (by have := (List.getElem?_eq_some_iff.1 h_x_1).1; omega) ?_)
        refine st (ldR (some 14) 5 (ad71.add (t * 1)) (.int .u8 (x_1.toNat : Int)) (by kernel_rfl) (by kernel_rfl) (H.cellI (mc0 (hc71 0 _ rfl))) ?_)
        refine seg 5 [.op [1, 1, 1, 0, 1, 0, 0, 1, 1, 0, 0, 1, 0] 1, .co [1, 1, 1, 0, 1, 0, 0, 1, 1, 0, 0, 1, 1], .bl 1, .co [1, 1, 1, 0, 1, 0, 0, 1, 1, 1], .le 1, .bl 0, .le 0, .co [1, 1, 1, 1]] [(3, .pointer (some (⟨g3, 0, none⟩))), (5, .int .u8 (x_1.toNat : Int)), (9, .slice A0_0 x_.length c0_0), (10, .int .i64 (x_.length : Int)), (11, .int .i64 (t : Int)), (15, .int .u8 (x_1.toNat : Int))] (by kernel_rfl) ?_
        refine st (runR (by kernel_rfl : fetch _ _ _ _ _ = some ((some 16), vS (Op.shift .shr .u8 (x_1.toNat : Int) .u64 4))) (shr8_run _ _ (by decide)) ?_)
        obtain ⟨c, h_c, hb_67⟩ := bindE hb_67
        refine st (strS (some 17) 9 ([48, 49, 50, 51, 52, 53, 54, 55, 56, 57, 97, 98, 99, 100, 101, 102] : List UInt8) .u8 ((shr8 x_1 4).toNat : Int) c (by kernel_rfl) (by kernel_rfl) h_c ?_)
        obtain ⟨writeB, h_writeB, hb_67⟩ := bindE hb_67
        obtain ⟨F72, hse72, hFn72, hcl72⟩ := St.call [blkI g3 [(bptr g3 addr), .slice A_1_68 buf.length c_2_68] 64, rowI rU8 5 A_1_68 c_2_68 buf] ((H.pull 1 rfl).pull 1 rfl)
        refine st (callR (some 18) 59 #[.pointer (some (⟨g3, 0, none⟩)), .int .u8 (c.toNat : Int)] Tryd.call59 (strings_Builder_WriteByte_c H.has g3 ({ f_addr := addr, f_buf := buf } : TStringsBuilder) A_1_68 c_2_68 c hse72 hFn72 h_writeB) (by kernel_rfl) ?_)
        rintro _ w72 ⟨A72_o0_1, c72_o0_1, mk72, rfl, hS72⟩
        have hsub72 := hS72.sub
        replace H := hcl72 _ _ _ hS72
        refine seg 4 [.op [1, 1, 1, 0, 1, 0, 0, 1, 1, 0, 0, 1, 1] 2, .bl 1, .co [1, 1, 1, 0, 1, 0, 0, 1, 1, 1], .le 1, .bl 0, .le 0, .co [1, 1, 1, 1]] [(3, .pointer (some (⟨g3, 0, none⟩))), (9, .slice A0_0 x_.length c0_0), (10, .int .i64 (x_.length : Int)), (11, .int .i64 (t : Int)), (20, .int .u8 (Go.bits .and .u8 (x_1.toNat : Int) 15))] (by kernel_rfl) ?_
        rw [q8_and x_1 (15 : UInt8) (x_1.toNat : Int) 15 (by rfl) (by rfl)]
        obtain ⟨c1, h_c1, hb_67⟩ := bindE hb_67
        refine st (strS (some 21) 9 ([48, 49, 50, 51, 52, 53, 54, 55, 56, 57, 97, 98, 99, 100, 101, 102] : List UInt8) .u8 ((x_1 &&& (15 : UInt8)).toNat : Int) c1 (by kernel_rfl) (by kernel_rfl) h_c1 ?_)
        obtain ⟨writeB1, h_writeB1, hb_67⟩ := bindE hb_67
        obtain ⟨F73, hse73, hFn73, hcl73⟩ := St.call [blkI g3 [(bptr g3 writeB.f_addr), .slice A72_o0_1 writeB.f_buf.length c72_o0_1] 64, rowI rU8 5 A72_o0_1 c72_o0_1 writeB.f_buf] ((H.pull 1 rfl).pull 1 rfl)
        refine st (callR (some 22) 59 #[.pointer (some (⟨g3, 0, none⟩)), .int .u8 (c1.toNat : Int)] Tryd.call59 (strings_Builder_WriteByte_c H.has g3 writeB A72_o0_1 c72_o0_1 c1 hse73 hFn73 h_writeB1) (by kernel_rfl) ?_)
        rintro _ w73 ⟨A73_o0_1, c73_o0_1, mk73, rfl, hS73⟩
        have hsub73 := hS73.sub
        replace H := hcl73 _ _ _ hS73
        refine seg 6 [.le 1, .bl 0, .le 0, .co [1, 1, 1, 1]] [(3, .pointer (some (⟨g3, 0, none⟩))), (9, .slice A0_0 x_.length c0_0), (10, .int .i64 (x_.length : Int)), (11, .int .i64 (IntKind.i64.wrap ((t : Int) + 1)))] (by kernel_rfl) ?_
        have := s0_0.bound
        rw [show IntKind.i64.wrap ((t : Int) + 1) = ((t : Int) + 1) from w64 (by omega)]
        refine leR (nk67, writeB1.f_addr, writeB1.f_buf, (t + 1), A73_o0_1, c73_o0_1, mk73) (Nat.lt_succ_self _) ⟨hnx67 _ (Option.some.inj hb_67).symm, H, ((hsub68.trans hsub72).trans hsub73)⟩ (by kernel_rfl)
      · rw [hb69]
        have p69 := of_decide_eq_false hb69
        refine seg 2 [.le 0, .co [1, 1, 1, 1]] [(3, .pointer (some (⟨g3, 0, none⟩)))] (by kernel_rfl) ?_
        refine leR_up (k' := []) (by rfl) ?_
        refine leJ (addr, buf, A_1_68, c_2_68, mm68) ⟨(hfin67 _ (Option.some.inj hb_67).symm).symm, H, hsub68⟩ (by kernel_rfl)
    rintro ⟨addr, buf, A_1_53, c_2_53, mm53⟩ wj52 ⟨hy52, H, hsub53⟩
    try dsimp only at hy52
    try dsimp only at H
    try dsimp only at hsub53
    rw [hy52] at hf
    try dsimp only at hf
    refine seg 2 [.op [1, 1, 1, 1, 0] 0, .co [1, 1, 1, 1, 1]] [(3, .pointer (some (⟨g3, 0, none⟩)))] (by kernel_rfl) ?_
    have hl75 : buf.length ≤ 9223372036854775807 := Nat.le_trans (H.rowCap 1 rfl).1 (H.rowCap 1 rfl).2
    refine st (bldStrS lays169 laysX (some 24) 32 64 5 0 1 g3 (bptr g3 addr) A_1_53 c_2_53 buf rfl rfl rfl H rfl rfl Tryd.call32 (by kernel_rfl) ?_)
    intro w74 H
    refine seg 2 [.co [1, 1, 1, 1, 1]] [(2, .string ⟨buf.toArray⟩)] (by kernel_rfl) ?_
    refine retR [2] [.string ⟨buf.toArray⟩] (by kernel_rfl) (by kernel_rfl) (by kernel_rfl) ?_
    have hret := (Option.some.inj hf)
    subst hret
    exact ⟨_, rfl, rfl, H.scalar, hl75⟩
theorem script_callWords_c {m : Mem} {w : World} (hm : Has m w) :
    Calls Tryd.prog 38 #[] w fun e w' => ∃ v, e = .returned v ∧ ∃ Az_0 : Option Addr, ∃ cz_0 : Nat, ∃ m' : Mem, v = .slice Az_0 script_callWords.length cz_0 ∧ St w noF m m' [rowI rStr 9 Az_0 cz_0 script_callWords] w' := by
  generalize hf : script_callWords = r
  unfold script_callWords at hf
  have H := St.start0 hm
  refine callsR Tryd.func38 (by kernel_rfl) (by kernel_rfl) ?_
  refine seg 6 [.op [1, 0] 0, .co [1, 1]] [] (by kernel_rfl) ?_
  refine st (newS (some 1) (fun g => .slice (some ⟨g, 0, none⟩) 9 9) [.string ⟨([] : List UInt8).toArray⟩, .string ⟨([108, 111, 111, 107, 117, 112] : List UInt8).toArray⟩, .string ⟨([115, 116, 97, 116] : List UInt8).toArray⟩, .string ⟨([114, 101, 97, 100, 100, 105, 114] : List UInt8).toArray⟩, .string ⟨([114, 101, 97, 100, 108, 105, 110, 107] : List UInt8).toArray⟩, .string ⟨([114, 101, 97, 100] : List UInt8).toArray⟩, .string ⟨([110, 97, 109, 101, 115] : List UInt8).toArray⟩, .string ⟨([97, 116, 116, 114] : List UInt8).toArray⟩, .string ⟨([119, 97, 108, 107] : List UInt8).toArray⟩] 9 H (by kernel_rfl) ?_)
  intro g1 w1 H
  refine seg 2 [.co [1, 1]] [(0, .slice (some ⟨g1, 0, none⟩) 9 9)] (by kernel_rfl) ?_
  have H := H.toRow (r := rStr) (l := [([] : List UInt8), ([108, 111, 111, 107, 117, 112] : List UInt8), ([115, 116, 97, 116] : List UInt8), ([114, 101, 97, 100, 100, 105, 114] : List UInt8), ([114, 101, 97, 100, 108, 105, 110, 107] : List UInt8), ([114, 101, 97, 100] : List UInt8), ([110, 97, 109, 101, 115] : List UInt8), ([97, 116, 116, 114] : List UInt8), ([119, 97, 108, 107] : List UInt8)]) 0 rfl (Rows.cons (cs := [.string ⟨([] : List UInt8).toArray⟩]) ⟨rfl, (Nat.le_of_ble_eq_true rfl)⟩ (Rows.cons (cs := [.string ⟨([108, 111, 111, 107, 117, 112] : List UInt8).toArray⟩]) ⟨rfl, (Nat.le_of_ble_eq_true rfl)⟩ (Rows.cons (cs := [.string ⟨([115, 116, 97, 116] : List UInt8).toArray⟩]) ⟨rfl, (Nat.le_of_ble_eq_true rfl)⟩ (Rows.cons (cs := [.string ⟨([114, 101, 97, 100, 100, 105, 114] : List UInt8).toArray⟩]) ⟨rfl, (Nat.le_of_ble_eq_true rfl)⟩ (Rows.cons (cs := [.string ⟨([114, 101, 97, 100, 108, 105, 110, 107] : List UInt8).toArray⟩]) ⟨rfl, (Nat.le_of_ble_eq_true rfl)⟩ (Rows.cons (cs := [.string ⟨([114, 101, 97, 100] : List UInt8).toArray⟩]) ⟨rfl, (Nat.le_of_ble_eq_true rfl)⟩ (Rows.cons (cs := [.string ⟨([110, 97, 109, 101, 115] : List UInt8).toArray⟩]) ⟨rfl, (Nat.le_of_ble_eq_true rfl)⟩ (Rows.cons (cs := [.string ⟨([97, 116, 116, 114] : List UInt8).toArray⟩]) ⟨rfl, (Nat.le_of_ble_eq_true rfl)⟩ (Rows.cons (cs := [.string ⟨([119, 97, 108, 107] : List UInt8).toArray⟩]) ⟨rfl, (Nat.le_of_ble_eq_true rfl)⟩ Rows.nil))))))))) (Nat.le_of_ble_eq_true rfl)
  refine retR [0] [.slice (some ⟨g1, 0, none⟩) 9 9] (by kernel_rfl) (by kernel_rfl) (by kernel_rfl) ?_
  obtain rfl : [([] : List UInt8), ([108, 111, 111, 107, 117, 112] : List UInt8), ([115, 116, 97, 116] : List UInt8), ([114, 101, 97, 100, 100, 105, 114] : List UInt8), ([114, 101, 97, 100, 108, 105, 110, 107] : List UInt8), ([114, 101, 97, 100] : List UInt8), ([110, 97, 109, 101, 115] : List UInt8), ([97, 116, 116, 114] : List UInt8), ([119, 97, 108, 107] : List UInt8)] = r := hf
  exact ⟨_, rfl, (some ⟨g1, 0, none⟩), 9, m, rfl, H⟩
theorem manifest_plain_c {m : Mem} {w : World} (hm : Has m w) (c : UInt8) :
    Calls Tryd.prog 60 #[.int .u8 (c.toNat : Int)] w fun e w' => ∃ v, e = .returned v ∧ v = .bool (manifest_plain c) ∧ Ex w w' := by
  generalize hf : manifest_plain c = r
  unfold manifest_plain at hf
  have H := St.start0 hm
  refine callsR Tryd.func60 (by kernel_rfl) (by kernel_rfl) ?_
  refine seg 9 [.op [1, 0] 3, .co [1, 1]] [(0, .int .u8 (c.toNat : Int)), (5, .bool (decide ((c.toNat : Int) > 32)))] (by kernel_rfl) ?_
  rcases condT hf with ⟨hb3, hf⟩ | ⟨hb3, hf⟩
  · rw [hb3]
    have p3 := of_decide_eq_true hb3
    refine seg 4 [.op [1, 0] 7, .co [1, 1]] [(0, .int .u8 (c.toNat : Int)), (9, .bool (decide ((c.toNat : Int) < 127)))] (by kernel_rfl) ?_
    rcases condT hf with ⟨hb4, hf⟩ | ⟨hb4, hf⟩
    · rw [hb4]
      have p4 := of_decide_eq_true hb4
      refine seg 5 [.co [1, 1]] [(2, .bool ((c.toNat : Int) != 37))] (by kernel_rfl) ?_
      refine retR [2] [.bool ((c.toNat : Int) != 37)] (by kernel_rfl) (by kernel_rfl) (by kernel_rfl) ?_
      obtain rfl : ((c.toNat : Int) != 37) = r := hf
      exact ⟨_, rfl, rfl, H.scalar⟩
    · rw [hb4]
      have p4 := of_decide_eq_false hb4
      refine seg 5 [.co [1, 1]] [(2, .bool false)] (by kernel_rfl) ?_
      refine retR [2] [.bool false] (by kernel_rfl) (by kernel_rfl) (by kernel_rfl) ?_
      have hret := hf
      subst hret
      exact ⟨_, rfl, rfl, H.scalar⟩
  · rw [hb3]
    have p3 := of_decide_eq_false hb3
    refine seg 9 [.co [1, 1]] [(2, .bool false)] (by kernel_rfl) ?_
    refine retR [2] [.bool false] (by kernel_rfl) (by kernel_rfl) (by kernel_rfl) ?_
    have hret := hf
    subst hret
    exact ⟨_, rfl, rfl, H.scalar⟩
theorem manifest_Quote_c {m : Mem} {w : World} (hm : Has m w) (s_ : (List UInt8)) (l0_0 : s_.length ≤ 9223372036854775807) {r : (List UInt8)} (hf : manifest_Quote s_ = some r) :
    Calls Tryd.prog 39 #[.string ⟨s_.toArray⟩] w fun e w' => ∃ v, e = .returned v ∧ v = .string ⟨r.toArray⟩ ∧ Ex w w' ∧ r.length ≤ 9223372036854775807 := by
  unfold manifest_Quote at hf
  have H := St.start0 hm
  refine callsR Tryd.func39 (by kernel_rfl) (by kernel_rfl) ?_
  refine seg 10 [.co [1, 0, 1], .co [1, 1]] [(0, .string ⟨s_.toArray⟩), (7, .bool ((ByteArray.toList ⟨s_.toArray⟩) == (ByteArray.toList ⟨([] : List UInt8).toArray⟩)))] (by kernel_rfl) ?_
  rw [seq_raw s_ ([] : List UInt8)]
  rcases condT hf with ⟨hb2, hf⟩ | ⟨hb2, hf⟩
  · rw [hb2]
    refine seg 5 [.co [1, 0, 1, 0, 1], .co [1, 1]] [(2, .string ⟨([37] : List UInt8).toArray⟩)] (by kernel_rfl) ?_
    refine retR [2] [.string ⟨([37] : List UInt8).toArray⟩] (by kernel_rfl) (by kernel_rfl) (by kernel_rfl) ?_
    obtain rfl : ([37] : List UInt8) = r := (Option.some.inj hf)
    exact ⟨_, rfl, rfl, H.scalar, (Nat.le_of_ble_eq_true rfl)⟩
  · rw [hb2]
    refine seg 13 [.co [1, 1, 1, 0, 1], .co [1, 1, 1, 1]] [(0, .string ⟨s_.toArray⟩), (3, .slice none 0 0), (9, .int .i64 (s_.length : Int)), (10, .int .i64 0)] (by kernel_rfl) ?_
    obtain ⟨y67, hp67, hf⟩ := bindE hf
    refine joinR 0 (fun (x : (List UInt8) × Option Addr × Nat) => [(3, .slice (x.2.1) x.1.length (x.2.2))]) (fun (x : (List UInt8) × Option Addr × Nat) (wj67 : World) => y67 = x.1 ∧ St w noF m m [rowI rU8 5 (x.2.1) (x.2.2) x.1] wj67) (by kernel_rfl) ?_ ?_
    · refine seg 1 [.co [1, 1, 1, 0, 1, 0], .bl 0, .le 0, .co [1, 1, 1, 1]] [(0, .string ⟨s_.toArray⟩), (3, .slice none 0 0), (9, .int .i64 (s_.length : Int)), (10, .int .i64 0)] (by kernel_rfl) ?_
      have H := H.nilR rU8 5
      obtain ⟨nn85, hR85⟩ := loopO_iff.1 hp67
      refine loopR 1 (fun (x : Nat × (List UInt8) × Nat × Option Addr × Nat) => [(0, .string ⟨s_.toArray⟩), (3, .slice (x.2.2.2.1) x.2.1.length (x.2.2.2.2)), (9, .int .i64 (s_.length : Int)), (10, .int .i64 (x.2.2.1 : Int))]) (fun (x : Nat × (List UInt8) × Nat × Option Addr × Nat) (wl85 : World) => iter (fun s => manifest_Quote_l1 s_ s.1 s.2) x.1 (x.2.1, x.2.2.1) = some y67 ∧ St w noF m m [rowI rU8 5 (x.2.2.2.1) (x.2.2.2.2) x.2.1] wl85) (fun (x : Nat × (List UInt8) × Nat × Option Addr × Nat) => x.1) (nn85, [], 0, none, 0) (by kernel_rfl) (by kernel_rfl) (by kernel_rfl) ?_ ?_
      · exact ⟨hR85, H⟩
      rintro ⟨n85, b, t, A_1_86, c_2_86⟩ wl85 ⟨hR85, H⟩
      try dsimp only at hR85
      try dsimp only at H
      obtain ⟨nk85, q85, rfl, hb_85, hnx85, hfin85⟩ := iterE hR85
      replace hb_85 : manifest_Quote_l1 s_ b t = some q85 := hb_85
      unfold manifest_Quote_l1 at hb_85
      refine seg 5 [.co [1, 1, 1, 0, 1, 0, 0, 1, 0], .co [1, 1, 1, 0, 1, 0, 0, 1, 1], .le 1, .bl 0, .le 0, .co [1, 1, 1, 1]] [(0, .string ⟨s_.toArray⟩), (3, .slice A_1_86 b.length c_2_86), (9, .int .i64 (s_.length : Int)), (10, .int .i64 (t : Int)), (11, .bool (decide ((t : Int) < (s_.length : Int))))] (by kernel_rfl) ?_
      rcases condT hb_85 with ⟨hb87, hb_85⟩ | ⟨hb87, hb_85⟩
      · rw [hb87]
        have p87 := of_decide_eq_true hb87
        refine seg 13 [.op [1, 1, 1, 0, 1, 0, 0, 1, 1, 0, 0, 1, 0] 2, .co [1, 1, 1, 0, 1, 0, 0, 1, 1, 0, 0, 1, 1], .bl 1, .co [1, 1, 1, 0, 1, 0, 0, 1, 1, 1], .le 1, .bl 0, .le 0, .co [1, 1, 1, 1]] [(0, .string ⟨s_.toArray⟩), (3, .slice A_1_86 b.length c_2_86), (9, .int .i64 (s_.length : Int)), (10, .int .i64 (t : Int)), (13, .string ⟨s_.toArray⟩), (14, .int .i64 (t : Int))] (by kernel_rfl) ?_
        replace H : St w noF m m [rowI rU8 5 A_1_86 c_2_86 b] wl85 := H
        obtain ⟨c, h_c, hb_85⟩ := bindE hb_85
        refine st (strS (some 15) 9 s_ .i64 (t : Int) c (by kernel_rfl) (by kernel_rfl) h_c ?_)
        refine seg 5 [.op [1, 1, 1, 0, 1, 0, 0, 1, 1, 0, 0, 1, 1, 0] 1, .co [1, 1, 1, 0, 1, 0, 0, 1, 1, 0, 0, 1, 1, 1], .bl 1, .co [1, 1, 1, 0, 1, 0, 0, 1, 1, 1], .le 1, .bl 0, .le 0, .co [1, 1, 1, 1]] [(0, .string ⟨s_.toArray⟩), (3, .slice A_1_86 b.length c_2_86), (5, .int .u8 (c.toNat : Int)), (9, .int .i64 (s_.length : Int)), (10, .int .i64 (t : Int)), (16, .int .u8 (c.toNat : Int))] (by kernel_rfl) ?_
        refine st (callR (some 17) 60 #[.int .u8 (c.toNat : Int)] Tryd.call60 (manifest_plain_c H.has c) (by kernel_rfl) ?_)
        rintro _ w88 ⟨rfl, hx88⟩
        replace H := H.ex hx88
        refine seg 1 [.co [1, 1, 1, 0, 1, 0, 0, 1, 1, 0, 0, 1, 1, 1], .bl 1, .co [1, 1, 1, 0, 1, 0, 0, 1, 1, 1], .le 1, .bl 0, .le 0, .co [1, 1, 1, 1]] [(0, .string ⟨s_.toArray⟩), (3, .slice A_1_86 b.length c_2_86), (5, .int .u8 (c.toNat : Int)), (9, .int .i64 (s_.length : Int)), (10, .int .i64 (t : Int)), (17, .bool (manifest_plain c))] (by kernel_rfl) ?_
        rcases condT hb_85 with ⟨hb89, hb_85⟩ | ⟨hb89, hb_85⟩
        · rw [hb89]
          refine seg 4 [.op [1, 1, 1, 0, 1, 0, 0, 1, 1, 0, 0, 1, 1, 1, 0] 2, .bl 1, .co [1, 1, 1, 0, 1, 0, 0, 1, 1, 1], .le 1, .bl 0, .le 0, .co [1, 1, 1, 1]] [(0, .string ⟨s_.toArray⟩), (9, .int .i64 (s_.length : Int)), (10, .int .i64 (t : Int)), (18, .slice A_1_86 b.length c_2_86), (19, .int .u8 (c.toNat : Int))] (by kernel_rfl) ?_
          refine st (newS (some 20) (fun g => .slice (some ⟨g, 0, none⟩) 1 1) [.int .u8 (c.toNat : Int)] 5 H (by kernel_rfl) ?_)
          intro g90 w90 H
          obtain ⟨b1, h_b1, hb_85⟩ := bindE hb_85
          refine st (appS (r := rU8) (some 21) 23 5 1 (.int .u8 0) 23 1 A_1_86 (some ⟨g90, 0, none⟩) c_2_86 1 1 b [c] b1 _ H rfl ⟨Tryd.underlying23, by kernel_rfl⟩ rfl (by decide) (by kernel_rfl) (Cs.of_blk (H.blk 0 rfl)) (Rows.u8.2 rfl) rfl h_b1 (by decide) (by decide) ?_)
          intro A91 c91 w91 H
          replace H := H.drop 0 rfl
          refine seg 7 [.le 1, .bl 0, .le 0, .co [1, 1, 1, 1]] [(0, .string ⟨s_.toArray⟩), (3, .slice A91 b1.length c91), (9, .int .i64 (s_.length : Int)), (10, .int .i64 (IntKind.i64.wrap ((t : Int) + 1)))] (by kernel_rfl) ?_
          have := l0_0
          rw [show IntKind.i64.wrap ((t : Int) + 1) = ((t : Int) + 1) from w64 (by omega)]
          refine leR (nk85, b1, (t + 1), A91, c91) (Nat.lt_succ_self _) ⟨hnx85 _ (Option.some.inj hb_85).symm, H⟩ (by kernel_rfl)
        · rw [hb89]
          refine seg 1 [.co [1, 1, 1, 0, 1, 0, 0, 1, 1, 0, 0, 1, 1, 1, 1], .bl 1, .co [1, 1, 1, 0, 1, 0, 0, 1, 1, 1], .le 1, .bl 0, .le 0, .co [1, 1, 1, 1]] [(0, .string ⟨s_.toArray⟩), (3, .slice A_1_86 b.length c_2_86), (5, .int .u8 (c.toNat : Int)), (9, .int .i64 (s_.length : Int)), (10, .int .i64 (t : Int))] (by kernel_rfl) ?_
          obtain ⟨c1, h_c1, hb_85⟩ := bindE hb_85
          obtain ⟨c2, h_c2, hb_85⟩ := bindE hb_85
          obtain ⟨b2, h_b2, hb_85⟩ := bindE hb_85
          have hst : statB (bodyOf Tryd.f39) [1, 1, 1, 0, 1, 0, 0, 1, 1, 0, 0, 1, 1, 1, 1] = true := by kernel_rfl
          refine drawS (Has m) H (by kernel_rfl) (by kernel_rfl) ?_
          intro w94 H
          refine segD2 hst [0, 1, 4, 5] [0, 1, 4, 5] [(0, .string ⟨s_.toArray⟩), (9, .int .i64 (s_.length : Int)), (10, .int .i64 (t : Int)), (22, .slice A_1_86 b.length c_2_86), (23, .int .u8 (c.toNat : Int)), (27, .int .u8 (Go.bits .and .u8 (c.toNat : Int) 15))] (by kernel_rfl) ?_
          rw [q8_and c (15 : UInt8) (c.toNat : Int) 15 (by rfl) (by rfl)]
          refine takeD2 (i := 6) (d := (some 28)) (s := vS (Instr.index 9 (.string ⟨([48, 49, 50, 51, 52, 53, 54, 55, 56, 57, 97, 98, 99, 100, 101, 102] : List UInt8).toArray⟩) (.int .u8 ((c &&& (15 : UInt8)).toNat : Int)))) (v := .int .u8 (c2.toNat : Int)) hst (by kernel_rfl) (by kernel_rfl) (fun w' hw' => str_idx_run _ _ _ _ _ (by kernel_rfl) h_c2) ?_
          replace H : St w noF m m [rowI rU8 5 A_1_86 c_2_86 b] w94 := H
          refine stD2 (i := 2) (by kernel_rfl) H.has (runR (by kernel_rfl : fetch _ _ _ _ _ = some ((some 24), vS (Op.shift .shr .u8 (c.toNat : Int) .u64 4))) (shr8_run _ _ (by decide)) ?_)
          refine stD2 (i := 3) (by kernel_rfl) H.has (strS (some 25) 9 ([48, 49, 50, 51, 52, 53, 54, 55, 56, 57, 97, 98, 99, 100, 101, 102] : List UInt8) .u8 ((shr8 c 4).toNat : Int) c1 (by kernel_rfl) (by kernel_rfl) h_c1 ?_)
          refine stD2 (i := 7) (by kernel_rfl) H.has (newS (some 29) (fun g => .slice (some ⟨g, 0, none⟩) 3 3) [.int .u8 37, .int .u8 (c1.toNat : Int), .int .u8 (c2.toNat : Int)] 5 H (by kernel_rfl) ?_)
          intro g95 w95 H
          refine stD2 (i := 8) (by kernel_rfl) H.has (appS (r := rU8) (some 30) 23 5 1 (.int .u8 0) 23 1 A_1_86 (some ⟨g95, 0, none⟩) c_2_86 3 3 b [(37 : UInt8), c1, c2] b2 _ H rfl ⟨Tryd.underlying23, by kernel_rfl⟩ rfl (by decide) (by kernel_rfl) (Cs.of_blk (H.blk 0 rfl)) (Rows.u8.2 rfl) rfl h_b2 (by decide) (by decide) ?_)
          intro A96 c96 w96 H
          replace H := H.drop 0 rfl
          refine segD2 hst [9] [0, 1, 4, 5, 6, 2, 3, 7, 8, 9] [(0, .string ⟨s_.toArray⟩), (3, .slice A96 b2.length c96), (9, .int .i64 (s_.length : Int)), (10, .int .i64 (t : Int))] (by kernel_rfl) ?_
          refine endD2 (by kernel_rfl) H.has ?_
          refine seg 5 [.le 1, .bl 0, .le 0, .co [1, 1, 1, 1]] [(0, .string ⟨s_.toArray⟩), (3, .slice A96 b2.length c96), (9, .int .i64 (s_.length : Int)), (10, .int .i64 (IntKind.i64.wrap ((t : Int) + 1)))] (by kernel_rfl) ?_
          have := l0_0
          rw [show IntKind.i64.wrap ((t : Int) + 1) = ((t : Int) + 1) from w64 (by omega)]
          refine leR (nk85, b2, (t + 1), A96, c96) (Nat.lt_succ_self _) ⟨hnx85 _ (Option.some.inj hb_85).symm, H⟩ (by kernel_rfl)
      · rw [hb87]
        have p87 := of_decide_eq_false hb87
        refine seg 2 [.le 0, .co [1, 1, 1, 1]] [(3, .slice A_1_86 b.length c_2_86)] (by kernel_rfl) ?_
        refine leR_up (k' := []) (by rfl) ?_
        refine leJ (b, A_1_86, c_2_86) ⟨(hfin85 _ (Option.some.inj hb_85).symm).symm, H⟩ (by kernel_rfl)
    rintro ⟨b, A_1_68, c_2_68⟩ wj67 ⟨hy67, H⟩
    try dsimp only at hy67
    try dsimp only at H
    rw [hy67] at hf
    refine seg 3 [.op [1, 1, 1, 1, 0] 1, .co [1, 1, 1, 1, 1]] [(32, .slice A_1_68 b.length c_2_68)] (by kernel_rfl) ?_
    refine st (b2sS (some 33) 23 9 5 A_1_68 c_2_68 b Tryd.underlying23 Tryd.underlying5 Tryd.underlying9 (by kernel_rfl) (H.rowCs 0 rfl) ?_)
    have hl97 : b.length ≤ 9223372036854775807 := (Nat.le_trans (H.rowCap 0 rfl).1 (H.rowCap 0 rfl).2)
    refine seg 2 [.co [1, 1, 1, 1, 1]] [(2, .string ⟨b.toArray⟩)] (by kernel_rfl) ?_
    refine retR [2] [.string ⟨b.toArray⟩] (by kernel_rfl) (by kernel_rfl) (by kernel_rfl) ?_
    have hret := (Option.some.inj hf)
    subst hret
    exact ⟨_, rfl, rfl, H.scalar, hl97⟩
end Go.Proofs.YtgoedcjjckdlpaaDoor.F
