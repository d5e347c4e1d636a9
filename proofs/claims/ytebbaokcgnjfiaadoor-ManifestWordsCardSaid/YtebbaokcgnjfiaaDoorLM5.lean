/- The code computes them: printed by lift.py, part 5. -/
import Derived.Test.YtebbaokcgnjfiaaDoorProg
import Derived.Test.YtebbaokcgnjfiaaDoorLMP
import Derived.Test.YtebbaokcgnjfiaaDoorLM4
set_option linter.unusedVariables false
set_option linter.unusedSimpArgs false
namespace Go.Proofs.YtebbaokcgnjfiaaDoor.F
open Go Go.RowKit Go.Proofs.YtebbaokcgnjfiaaDoor Go.Proofs.YtebbaokcgnjfiaaDoor.K
set_option maxRecDepth 100000
theorem ref27_Word_c {m : Mem} {w : World} (hm : Has m w) (b : (List UInt8)) (A0_0 : Option Addr) (c0_0 : Nat) (s0_0 : SlI rU8 m A0_0 c0_0 b) (at_ : Int) {r : ((List UInt8) × Int × Int)} (hf : ref27_Word b at_ = some r) :
    Calls Tryd.prog 25 #[.slice A0_0 b.length c0_0, .int .i64 at_] w fun e w' => ∃ v, e = .returned v ∧ v = .tuple #[.string ⟨r.1.toArray⟩, .int .i64 r.2.1, .int .i64 r.2.2] ∧ Ex w w' ∧ r.1.length ≤ 9223372036854775807 := by
  unfold ref27_Word at hf
  have H := St.start0 hm
  refine callsR Tryd.func25 (by kernel_rfl) (by kernel_rfl) ?_
  refine seg 16 [.op [1, 1, 0, 0] 2, .co [1, 1, 0, 1], .co [1, 1, 1]] [(0, .slice A0_0 b.length c0_0), (1, .int .i64 at_), (7, .int .i64 at_), (13, .slice A0_0 b.length c0_0), (14, .int .i64 at_)] (by kernel_rfl) ?_
  obtain ⟨byteAt, h_byteAt, hf⟩ := bindE hf
  refine st (callR (some 15) 40 #[.slice A0_0 b.length c0_0, .int .i64 at_] Tryd.call40 (ref27_byteAt_c H.has b A0_0 c0_0 s0_0 at_ h_byteAt) (by kernel_rfl) ?_)
  rintro _ w7 ⟨rfl, hx7⟩
  replace H := H.ex hx7
  refine seg 2 [.op [1, 1, 0, 0] 5, .co [1, 1, 0, 1], .co [1, 1, 1]] [(0, .slice A0_0 b.length c0_0), (1, .int .i64 at_), (7, .int .i64 at_), (17, .bool ((byteAt.toNat : Int) == 37))] (by kernel_rfl) ?_
  rcases condT hf with ⟨hb9, hf⟩ | ⟨hb9, hf⟩
  · rw [hb9]
    refine seg 6 [.op [1, 1, 0, 0] 11, .co [1, 1, 0, 1], .co [1, 1, 1]] [(0, .slice A0_0 b.length c0_0), (1, .int .i64 at_), (7, .int .i64 at_), (17, .bool true), (23, .bool ((IntKind.i64.wrap (at_ + 1)) == (b.length : Int)))] (by kernel_rfl) ?_
    rcases condT hf with ⟨hb10, hf⟩ | ⟨hb10, hf⟩
    · rw [hb10]
      refine seg 24 [.co [1, 1, 0, 1, 0, 1], .co [1, 1, 1]] [(4, .string ⟨([] : List UInt8).toArray⟩), (5, .int .i64 (IntKind.i64.wrap (at_ + 1))), (6, .int .i64 0)] (by kernel_rfl) ?_
      refine retR [4, 5, 6] [.string ⟨([] : List UInt8).toArray⟩, .int .i64 (IntKind.i64.wrap (at_ + 1)), .int .i64 0] (by kernel_rfl) (by kernel_rfl) (by kernel_rfl) ?_
      obtain rfl : (([] : List UInt8), (IntKind.i64.wrap (at_ + 1)), 0) = r := (Option.some.inj hf)
      exact ⟨_, rfl, rfl, H.scalar, (Nat.le_of_ble_eq_true rfl)⟩
    · rw [hb10]
      refine seg 3 [.op [1, 1, 0, 0] 14, .co [1, 1, 0, 1], .co [1, 1, 1]] [(0, .slice A0_0 b.length c0_0), (1, .int .i64 at_), (7, .int .i64 at_), (17, .bool true), (23, .bool false), (24, .slice A0_0 b.length c0_0), (26, .int .i64 (IntKind.i64.wrap (at_ + 1)))] (by kernel_rfl) ?_
      replace H : St w noF m m [] w7 := H
      obtain ⟨byteAt1, h_byteAt1, hf⟩ := bindE hf
      refine st (callR (some 27) 40 #[.slice A0_0 b.length c0_0, .int .i64 (IntKind.i64.wrap (at_ + 1))] Tryd.call40 (ref27_byteAt_c H.has b A0_0 c0_0 s0_0 (IntKind.i64.wrap (at_ + 1)) h_byteAt1) (by kernel_rfl) ?_)
      rintro _ w11 ⟨rfl, hx11⟩
      replace H := H.ex hx11
      refine seg 3 [.op [1, 1, 0, 0] 18, .co [1, 1, 0, 1], .co [1, 1, 1]] [(0, .slice A0_0 b.length c0_0), (1, .int .i64 at_), (7, .int .i64 at_), (17, .bool true), (30, .bool ((byteAt1.toNat : Int) == 32))] (by kernel_rfl) ?_
      rcases condT hf with ⟨hb12, hf⟩ | ⟨hb12, hf⟩
      · rw [hb12]
        refine seg 17 [.co [1, 1, 0, 1, 0, 1], .co [1, 1, 1]] [(4, .string ⟨([] : List UInt8).toArray⟩), (5, .int .i64 (IntKind.i64.wrap (at_ + 1))), (6, .int .i64 0)] (by kernel_rfl) ?_
        refine retR [4, 5, 6] [.string ⟨([] : List UInt8).toArray⟩, .int .i64 (IntKind.i64.wrap (at_ + 1)), .int .i64 0] (by kernel_rfl) (by kernel_rfl) (by kernel_rfl) ?_
        obtain rfl : (([] : List UInt8), (IntKind.i64.wrap (at_ + 1)), 0) = r := (Option.some.inj hf)
        exact ⟨_, rfl, rfl, H.scalar, (Nat.le_of_ble_eq_true rfl)⟩
      · rw [hb12]
        refine seg 3 [.op [1, 1, 0, 0] 21, .co [1, 1, 0, 1], .co [1, 1, 1]] [(0, .slice A0_0 b.length c0_0), (1, .int .i64 at_), (7, .int .i64 at_), (17, .bool true), (30, .bool false), (31, .slice A0_0 b.length c0_0), (33, .int .i64 (IntKind.i64.wrap (at_ + 1)))] (by kernel_rfl) ?_
        obtain ⟨byteAt2, h_byteAt2, hf⟩ := bindE hf
        refine st (callR (some 34) 40 #[.slice A0_0 b.length c0_0, .int .i64 (IntKind.i64.wrap (at_ + 1))] Tryd.call40 (ref27_byteAt_c H.has b A0_0 c0_0 s0_0 (IntKind.i64.wrap (at_ + 1)) h_byteAt2) (by kernel_rfl) ?_)
        rintro _ w13 ⟨rfl, hx13⟩
        replace H := H.ex hx13
        refine seg 4 [.co [1, 1, 0, 1], .co [1, 1, 1]] [(0, .slice A0_0 b.length c0_0), (1, .int .i64 at_), (7, .int .i64 at_), (37, .bool ((byteAt2.toNat : Int) == 10))] (by kernel_rfl) ?_
        rcases condT hf with ⟨hb15, hf⟩ | ⟨hb15, hf⟩
        · rw [hb15]
          refine seg 9 [.co [1, 1, 0, 1, 0, 1], .co [1, 1, 1]] [(4, .string ⟨([] : List UInt8).toArray⟩), (5, .int .i64 (IntKind.i64.wrap (at_ + 1))), (6, .int .i64 0)] (by kernel_rfl) ?_
          refine retR [4, 5, 6] [.string ⟨([] : List UInt8).toArray⟩, .int .i64 (IntKind.i64.wrap (at_ + 1)), .int .i64 0] (by kernel_rfl) (by kernel_rfl) (by kernel_rfl) ?_
          obtain rfl : (([] : List UInt8), (IntKind.i64.wrap (at_ + 1)), 0) = r := (Option.some.inj hf)
          exact ⟨_, rfl, rfl, H.scalar, (Nat.le_of_ble_eq_true rfl)⟩
        · rw [hb15]
          refine seg 7 [.co [1, 1, 1, 1, 0], .co [1, 1, 1, 1, 1]] [(0, .slice A0_0 b.length c0_0), (1, .int .i64 at_), (7, .int .i64 at_), (8, .slice none 0 0)] (by kernel_rfl) ?_
          obtain ⟨y135, hp135, hfl135, hfr135⟩ := bndE hf
          refine joinR 0 (fun (x : Int × (List UInt8) × Option Addr × Nat) => [(1, .int .i64 x.1), (7, .int .i64 at_), (8, .slice (x.2.2.1) x.2.1.length (x.2.2.2))]) (fun (x : Int × (List UInt8) × Option Addr × Nat) (wj135 : World) => y135 = .inl (x.1, x.2.1) ∧ St w noF m m [rowI rU8 5 (x.2.2.1) (x.2.2.2) x.2.1] wj135) (by kernel_rfl) ?_ ?_
          · refine seg 1 [.co [1, 1, 1, 1, 0, 0], .bl 0, .le 0, .co [1, 1, 1, 1, 1]] [(0, .slice A0_0 b.length c0_0), (1, .int .i64 at_), (7, .int .i64 at_), (8, .slice none 0 0)] (by kernel_rfl) ?_
            have H := H.nilR rU8 5
            obtain ⟨nn167, hR167⟩ := loopO_iff.1 hp135
            refine loopR 1 (fun (x : Nat × Int × (List UInt8) × Option Addr × Nat) => [(0, .slice A0_0 b.length c0_0), (1, .int .i64 x.2.1), (7, .int .i64 at_), (8, .slice (x.2.2.2.1) x.2.2.1.length (x.2.2.2.2))]) (fun (x : Nat × Int × (List UInt8) × Option Addr × Nat) (wl167 : World) => iter (fun s => ref27_Word_l1 b s.1 s.2) x.1 (x.2.1, x.2.2.1) = some y135 ∧ St w noF m m [rowI rU8 5 (x.2.2.2.1) (x.2.2.2.2) x.2.2.1] wl167) (fun (x : Nat × Int × (List UInt8) × Option Addr × Nat) => x.1) (nn167, at_, [], none, 0) (by kernel_rfl) (by kernel_rfl) (by kernel_rfl) ?_ ?_
            · exact ⟨hR167, H⟩
            rintro ⟨n167, at_1, s_, A_1_168, c_2_168⟩ wl167 ⟨hR167, H⟩
            try dsimp only at hR167
            try dsimp only at H
            obtain ⟨nk167, q167, rfl, hb_167, hnx167, hfin167⟩ := iterE hR167
            replace hb_167 : ref27_Word_l1 b at_1 s_ = some q167 := hb_167
            unfold ref27_Word_l1 at hb_167
            refine seg 8 [.co [1, 1, 1, 1, 0, 0, 0, 0, 1], .co [1, 1, 1, 1, 0, 0, 0, 1], .le 1, .bl 0, .le 0, .co [1, 1, 1, 1, 1]] [(0, .slice A0_0 b.length c0_0), (1, .int .i64 at_1), (7, .int .i64 at_), (8, .slice A_1_168 s_.length c_2_168), (43, .bool (decide (at_1 < (b.length : Int))))] (by kernel_rfl) ?_
            rcases condT hb_167 with ⟨hb169, hb_167⟩ | ⟨hb169, hb_167⟩
            · rw [hb169]
              have p169 := of_decide_eq_true hb169
              refine seg 8 [.op [1, 1, 1, 1, 0, 0, 0, 1, 0, 0, 0] 2, .co [1, 1, 1, 1, 0, 0, 0, 1, 0, 0, 1], .co [1, 1, 1, 1, 0, 0, 0, 1, 0, 1], .bl 1, .le 1, .bl 0, .le 0, .co [1, 1, 1, 1, 1]] [(0, .slice A0_0 b.length c0_0), (1, .int .i64 at_1), (7, .int .i64 at_), (8, .slice A_1_168 s_.length c_2_168), (44, .slice A0_0 b.length c0_0), (45, .int .i64 at_1)] (by kernel_rfl) ?_
              obtain ⟨x_, h_x_, hb_167⟩ := bindE hb_167
              obtain ⟨i0170, i1170, ix170⟩ := idx_some h_x_
              obtain ⟨ad171, _, ea171, rfl, hc171⟩ := s0_0.at_ ix170 (by decide)
              refine st (idxS (some 46) 25 5 1 A0_0 ad171 b.length c0_0 .i64 at_1 ea171 (by kernel_rfl) (by kernel_rfl) i0170 i1170 ?_)
              refine st (ldR (some 47) 5 (ad171.add (at_1.toNat * 1)) (.int .u8 (x_.toNat : Int)) (by kernel_rfl) (by kernel_rfl) (H.cellI (mc0 (hc171 0 _ rfl))) ?_)
              refine st (callR (some 48) 26 #[.int .u8 (x_.toNat : Int)] Tryd.call26 (ref27_plain_c H.has x_) (by kernel_rfl) ?_)
              rintro _ w172 ⟨rfl, hx172⟩
              replace H := H.ex hx172
              refine seg 1 [.co [1, 1, 1, 1, 0, 0, 0, 1, 0, 0, 1], .co [1, 1, 1, 1, 0, 0, 0, 1, 0, 1], .bl 1, .le 1, .bl 0, .le 0, .co [1, 1, 1, 1, 1]] [(0, .slice A0_0 b.length c0_0), (1, .int .i64 at_1), (7, .int .i64 at_), (8, .slice A_1_168 s_.length c_2_168), (48, .bool (ref27_plain x_))] (by kernel_rfl) ?_
              rcases condT hb_167 with ⟨hb173, hb_167⟩ | ⟨hb173, hb_167⟩
              · rw [hb173]
                refine seg 6 [.op [1, 1, 1, 1, 0, 0, 0, 1, 0, 0, 1, 0, 0] 3, .co [1, 1, 1, 1, 0, 0, 0, 1, 0, 0, 1, 0, 1], .co [1, 1, 1, 1, 0, 0, 0, 1, 0, 1], .bl 1, .le 1, .bl 0, .le 0, .co [1, 1, 1, 1, 1]] [(0, .slice A0_0 b.length c0_0), (1, .int .i64 at_1), (7, .int .i64 at_), (49, .slice A_1_168 s_.length c_2_168), (50, .slice A0_0 b.length c0_0), (51, .int .i64 at_1)] (by kernel_rfl) ?_
                refine st (idxS (some 52) 25 5 1 A0_0 ad171 b.length c0_0 .i64 at_1 ea171 (by kernel_rfl) (by kernel_rfl) i0170 i1170 ?_)
                refine st (ldR (some 53) 5 (ad171.add (at_1.toNat * 1)) (.int .u8 (x_.toNat : Int)) (by kernel_rfl) (by kernel_rfl) (H.cellI (mc0 (hc171 0 _ rfl))) ?_)
                refine st (newS (some 54) (fun g => .slice (some ⟨g, 0, none⟩) 1 1) [.int .u8 (x_.toNat : Int)] 5 H (by kernel_rfl) ?_)
                intro g174 w174 H
                obtain ⟨b1, h_b1, hb_167⟩ := bindE hb_167
                refine st (appS (r := rU8) (some 55) 25 5 1 (.int .u8 0) 25 1 A_1_168 (some ⟨g174, 0, none⟩) c_2_168 1 1 s_ [x_] b1 _ H rfl ⟨Tryd.underlying25, by kernel_rfl⟩ rfl (by decide) (by kernel_rfl) (Cs.of_blk (H.blk 0 rfl)) (Rows.u8.2 rfl) rfl h_b1 (by decide) (by decide) ?_)
                intro A175 c175 w175 H
                replace H := H.drop 0 rfl
                refine seg 9 [.le 1, .bl 0, .le 0, .co [1, 1, 1, 1, 1]] [(0, .slice A0_0 b.length c0_0), (1, .int .i64 (IntKind.i64.wrap (at_1 + 1))), (7, .int .i64 at_), (8, .slice A175 b1.length c175)] (by kernel_rfl) ?_
                refine leR (nk167, (IntKind.i64.wrap (at_1 + 1)), b1, A175, c175) (Nat.lt_succ_self _) ⟨hnx167 _ (Option.some.inj hb_167).symm, H⟩ (by kernel_rfl)
              · rw [hb173]
                refine seg 7 [.op [1, 1, 1, 1, 0, 0, 0, 1, 0, 1, 0, 0] 2, .co [1, 1, 1, 1, 0, 0, 0, 1, 0, 1, 0, 1], .co [1, 1, 1, 1, 0, 0, 0, 1, 0, 1, 1], .bl 1, .le 1, .bl 0, .le 0, .co [1, 1, 1, 1, 1]] [(0, .slice A0_0 b.length c0_0), (1, .int .i64 at_1), (7, .int .i64 at_), (8, .slice A_1_168 s_.length c_2_168), (58, .slice A0_0 b.length c0_0), (59, .int .i64 at_1)] (by kernel_rfl) ?_
                replace H : St w noF m m [rowI rU8 5 A_1_168 c_2_168 s_] w172 := H
                refine st (idxS (some 60) 25 5 1 A0_0 ad171 b.length c0_0 .i64 at_1 ea171 (by kernel_rfl) (by kernel_rfl) i0170 i1170 ?_)
                refine st (ldR (some 61) 5 (ad171.add (at_1.toNat * 1)) (.int .u8 (x_.toNat : Int)) (by kernel_rfl) (by kernel_rfl) (H.cellI (mc0 (hc171 0 _ rfl))) ?_)
                refine seg 2 [.co [1, 1, 1, 1, 0, 0, 0, 1, 0, 1, 0, 1], .co [1, 1, 1, 1, 0, 0, 0, 1, 0, 1, 1], .bl 1, .le 1, .bl 0, .le 0, .co [1, 1, 1, 1, 1]] [(0, .slice A0_0 b.length c0_0), (1, .int .i64 at_1), (7, .int .i64 at_), (8, .slice A_1_168 s_.length c_2_168), (62, .bool ((x_.toNat : Int) != 37))] (by kernel_rfl) ?_
                rcases condT hb_167 with ⟨hb176, hb_167⟩ | ⟨hb176, hb_167⟩
                · rw [hb176]
                  refine seg 2 [.le 0, .co [1, 1, 1, 1, 1]] [(1, .int .i64 at_1), (7, .int .i64 at_), (8, .slice A_1_168 s_.length c_2_168)] (by kernel_rfl) ?_
                  refine leR_up (k' := []) (by rfl) ?_
                  refine leJ (at_1, s_, A_1_168, c_2_168) ⟨(hfin167 _ (Option.some.inj hb_167).symm).symm, H⟩ (by kernel_rfl)
                · rw [hb176]
                  refine seg 7 [.op [1, 1, 1, 1, 0, 0, 0, 1, 0, 1, 1, 0] 3, .co [1, 1, 1, 1, 0, 0, 0, 1, 0, 1, 1, 1], .bl 1, .le 1, .bl 0, .le 0, .co [1, 1, 1, 1, 1]] [(0, .slice A0_0 b.length c0_0), (1, .int .i64 at_1), (7, .int .i64 at_), (8, .slice A_1_168 s_.length c_2_168), (64, .slice A0_0 b.length c0_0), (66, .int .i64 (IntKind.i64.wrap (at_1 + 1)))] (by kernel_rfl) ?_
                  obtain ⟨pair, h_pair, hb_167⟩ := bindE hb_167
                  refine st (callR (some 67) 41 #[.slice A0_0 b.length c0_0, .int .i64 (IntKind.i64.wrap (at_1 + 1))] Tryd.call41 (ref27_pair_c H.has b A0_0 c0_0 s0_0 (IntKind.i64.wrap (at_1 + 1)) h_pair) (by kernel_rfl) ?_)
                  rintro _ w177 ⟨rfl, hx177⟩
                  replace H := H.ex hx177
                  refine seg 14 [.co [1, 1, 1, 1, 0, 0, 0, 1, 0, 1, 1, 1, 0, 1], .co [1, 1, 1, 1, 0, 0, 0, 1, 0, 1, 1, 1, 1], .bl 1, .le 1, .bl 0, .le 0, .co [1, 1, 1, 1, 1]] [(0, .slice A0_0 b.length c0_0), (1, .int .i64 at_1), (7, .int .i64 at_), (8, .slice A_1_168 s_.length c_2_168), (9, .int .u8 (pair.1.toNat : Int)), (10, .int .i64 pair.2.1), (11, .int .i64 pair.2.2), (72, .bool (pair.2.2 != 0))] (by kernel_rfl) ?_
                  rcases condT hb_167 with ⟨hb178, hb_167⟩ | ⟨hb178, hb_167⟩
                  · rw [hb178]
                    refine seg 9 [.co [1, 1, 1, 1, 0, 0, 0, 1, 0, 1, 1, 1, 0, 1, 0, 1], .co [1, 1, 1, 1, 0, 0, 0, 1, 0, 1, 1, 1, 1], .bl 1, .le 1, .bl 0, .le 0, .co [1, 1, 1, 1, 1]] [(4, .string ⟨([] : List UInt8).toArray⟩), (5, .int .i64 pair.2.1), (6, .int .i64 pair.2.2)] (by kernel_rfl) ?_
                    refine retR [4, 5, 6] [.string ⟨([] : List UInt8).toArray⟩, .int .i64 pair.2.1, .int .i64 pair.2.2] (by kernel_rfl) (by kernel_rfl) (by kernel_rfl) ?_
                    obtain rfl : (([] : List UInt8), pair.2.1, pair.2.2) = r := (hfr135 _ (hfin167 _ (Option.some.inj hb_167).symm).symm)
                    exact ⟨_, rfl, rfl, H.scalar, (Nat.le_of_ble_eq_true rfl)⟩
                  · rw [hb178]
                    refine seg 6 [.op [1, 1, 1, 1, 0, 0, 0, 1, 0, 1, 1, 1, 1, 0, 0] 1, .co [1, 1, 1, 1, 0, 0, 0, 1, 0, 1, 1, 1, 1, 0, 1], .co [1, 1, 1, 1, 0, 0, 0, 1, 0, 1, 1, 1, 1, 1], .bl 1, .le 1, .bl 0, .le 0, .co [1, 1, 1, 1, 1]] [(0, .slice A0_0 b.length c0_0), (1, .int .i64 at_1), (7, .int .i64 at_), (8, .slice A_1_168 s_.length c_2_168), (9, .int .u8 (pair.1.toNat : Int)), (10, .int .i64 pair.2.1), (75, .int .u8 (pair.1.toNat : Int))] (by kernel_rfl) ?_
                    refine st (callR (some 76) 26 #[.int .u8 (pair.1.toNat : Int)] Tryd.call26 (ref27_plain_c H.has pair.1) (by kernel_rfl) ?_)
                    rintro _ w179 ⟨rfl, hx179⟩
                    replace H := H.ex hx179
                    refine seg 1 [.co [1, 1, 1, 1, 0, 0, 0, 1, 0, 1, 1, 1, 1, 0, 1], .co [1, 1, 1, 1, 0, 0, 0, 1, 0, 1, 1, 1, 1, 1], .bl 1, .le 1, .bl 0, .le 0, .co [1, 1, 1, 1, 1]] [(0, .slice A0_0 b.length c0_0), (1, .int .i64 at_1), (7, .int .i64 at_), (8, .slice A_1_168 s_.length c_2_168), (9, .int .u8 (pair.1.toNat : Int)), (10, .int .i64 pair.2.1), (76, .bool (ref27_plain pair.1))] (by kernel_rfl) ?_
                    rcases condT hb_167 with ⟨hb180, hb_167⟩ | ⟨hb180, hb_167⟩
                    · rw [hb180]
                      refine seg 9 [.co [1, 1, 1, 1, 0, 0, 0, 1, 0, 1, 1, 1, 1, 0, 1, 0, 1], .co [1, 1, 1, 1, 0, 0, 0, 1, 0, 1, 1, 1, 1, 1], .bl 1, .le 1, .bl 0, .le 0, .co [1, 1, 1, 1, 1]] [(4, .string ⟨([] : List UInt8).toArray⟩), (5, .int .i64 (IntKind.i64.wrap (at_1 + 2))), (6, .int .i64 6)] (by kernel_rfl) ?_
                      refine retR [4, 5, 6] [.string ⟨([] : List UInt8).toArray⟩, .int .i64 (IntKind.i64.wrap (at_1 + 2)), .int .i64 6] (by kernel_rfl) (by kernel_rfl) (by kernel_rfl) ?_
                      obtain rfl : (([] : List UInt8), (IntKind.i64.wrap (at_1 + 2)), 6) = r := (hfr135 _ (hfin167 _ (Option.some.inj hb_167).symm).symm)
                      exact ⟨_, rfl, rfl, H.scalar, (Nat.le_of_ble_eq_true rfl)⟩
                    · rw [hb180]
                      refine seg 6 [.op [1, 1, 1, 1, 0, 0, 0, 1, 0, 1, 1, 1, 1, 1, 0] 2, .co [1, 1, 1, 1, 0, 0, 0, 1, 0, 1, 1, 1, 1, 1, 1], .bl 1, .le 1, .bl 0, .le 0, .co [1, 1, 1, 1, 1]] [(0, .slice A0_0 b.length c0_0), (7, .int .i64 at_), (10, .int .i64 pair.2.1), (79, .slice A_1_168 s_.length c_2_168), (80, .int .u8 (pair.1.toNat : Int))] (by kernel_rfl) ?_
                      refine st (newS (some 81) (fun g => .slice (some ⟨g, 0, none⟩) 1 1) [.int .u8 (pair.1.toNat : Int)] 5 H (by kernel_rfl) ?_)
                      intro g181 w181 H
                      obtain ⟨b2, h_b2, hb_167⟩ := bindE hb_167
                      refine st (appS (r := rU8) (some 82) 25 5 1 (.int .u8 0) 25 1 A_1_168 (some ⟨g181, 0, none⟩) c_2_168 1 1 s_ [pair.1] b2 _ H rfl ⟨Tryd.underlying25, by kernel_rfl⟩ rfl (by decide) (by kernel_rfl) (Cs.of_blk (H.blk 0 rfl)) (Rows.u8.2 rfl) rfl h_b2 (by decide) (by decide) ?_)
                      intro A182 c182 w182 H
                      replace H := H.drop 0 rfl
                      refine seg 7 [.le 1, .bl 0, .le 0, .co [1, 1, 1, 1, 1]] [(0, .slice A0_0 b.length c0_0), (1, .int .i64 pair.2.1), (7, .int .i64 at_), (8, .slice A182 b2.length c182)] (by kernel_rfl) ?_
                      refine leR (nk167, pair.2.1, b2, A182, c182) (Nat.lt_succ_self _) ⟨hnx167 _ (Option.some.inj hb_167).symm, H⟩ (by kernel_rfl)
            · rw [hb169]
              have p169 := of_decide_eq_false hb169
              refine seg 2 [.le 0, .co [1, 1, 1, 1, 1]] [(1, .int .i64 at_1), (7, .int .i64 at_), (8, .slice A_1_168 s_.length c_2_168)] (by kernel_rfl) ?_
              refine leR_up (k' := []) (by rfl) ?_
              refine leJ (at_1, s_, A_1_168, c_2_168) ⟨(hfin167 _ (Option.some.inj hb_167).symm).symm, H⟩ (by kernel_rfl)
          rintro ⟨at_1, s_, A_1_136, c_2_136⟩ wj135 ⟨hy135, H⟩
          try dsimp only at hy135
          try dsimp only at H
          have hf := hfl135 _ hy135
          try dsimp only at hf
          refine seg 7 [.co [1, 1, 1, 1, 1, 0, 1], .co [1, 1, 1, 1, 1, 1]] [(1, .int .i64 at_1), (8, .slice A_1_136 s_.length c_2_136), (86, .bool (at_1 == at_))] (by kernel_rfl) ?_
          rcases condT hf with ⟨hb184, hf⟩ | ⟨hb184, hf⟩
          · rw [hb184]
            refine seg 8 [.co [1, 1, 1, 1, 1, 0, 1, 0, 1], .co [1, 1, 1, 1, 1, 1]] [(4, .string ⟨([] : List UInt8).toArray⟩), (5, .int .i64 at_1), (6, .int .i64 6)] (by kernel_rfl) ?_
            refine retR [4, 5, 6] [.string ⟨([] : List UInt8).toArray⟩, .int .i64 at_1, .int .i64 6] (by kernel_rfl) (by kernel_rfl) (by kernel_rfl) ?_
            obtain rfl : (([] : List UInt8), at_1, 6) = r := (Option.some.inj hf)
            exact ⟨_, rfl, rfl, H.scalar, (Nat.le_of_ble_eq_true rfl)⟩
          · rw [hb184]
            refine seg 5 [.op [1, 1, 1, 1, 1, 1, 0] 1, .co [1, 1, 1, 1, 1, 1, 1]] [(1, .int .i64 at_1), (88, .slice A_1_136 s_.length c_2_136)] (by kernel_rfl) ?_
            replace H : St w noF m m [rowI rU8 5 A_1_136 c_2_136 s_] wj135 := H
            refine st (b2sS (some 89) 25 9 5 A_1_136 c_2_136 s_ Tryd.underlying25 Tryd.underlying5 Tryd.underlying9 (by kernel_rfl) (H.rowCs 0 rfl) ?_)
            have hl185 : s_.length ≤ 9223372036854775807 := (Nat.le_trans (H.rowCap 0 rfl).1 (H.rowCap 0 rfl).2)
            refine seg 5 [.co [1, 1, 1, 1, 1, 1, 1]] [(4, .string ⟨s_.toArray⟩), (5, .int .i64 at_1), (6, .int .i64 0)] (by kernel_rfl) ?_
            refine retR [4, 5, 6] [.string ⟨s_.toArray⟩, .int .i64 at_1, .int .i64 0] (by kernel_rfl) (by kernel_rfl) (by kernel_rfl) ?_
            obtain rfl : (s_, at_1, 0) = r := (Option.some.inj hf)
            exact ⟨_, rfl, rfl, H.scalar, hl185⟩
  · rw [hb9]
    refine seg 28 [.co [1, 1, 1, 1, 0], .co [1, 1, 1, 1, 1]] [(0, .slice A0_0 b.length c0_0), (1, .int .i64 at_), (7, .int .i64 at_), (8, .slice none 0 0)] (by kernel_rfl) ?_
    obtain ⟨y244, hp244, hfl244, hfr244⟩ := bndE hf
    refine joinR 0 (fun (x : Int × (List UInt8) × Option Addr × Nat) => [(1, .int .i64 x.1), (7, .int .i64 at_), (8, .slice (x.2.2.1) x.2.1.length (x.2.2.2))]) (fun (x : Int × (List UInt8) × Option Addr × Nat) (wj244 : World) => y244 = .inl (x.1, x.2.1) ∧ St w noF m m [rowI rU8 5 (x.2.2.1) (x.2.2.2) x.2.1] wj244) (by kernel_rfl) ?_ ?_
    · refine seg 1 [.co [1, 1, 1, 1, 0, 0], .bl 0, .le 0, .co [1, 1, 1, 1, 1]] [(0, .slice A0_0 b.length c0_0), (1, .int .i64 at_), (7, .int .i64 at_), (8, .slice none 0 0)] (by kernel_rfl) ?_
      have H := H.nilR rU8 5
      obtain ⟨nn276, hR276⟩ := loopO_iff.1 hp244
      refine loopR 1 (fun (x : Nat × Int × (List UInt8) × Option Addr × Nat) => [(0, .slice A0_0 b.length c0_0), (1, .int .i64 x.2.1), (7, .int .i64 at_), (8, .slice (x.2.2.2.1) x.2.2.1.length (x.2.2.2.2))]) (fun (x : Nat × Int × (List UInt8) × Option Addr × Nat) (wl276 : World) => iter (fun s => ref27_Word_l2 b s.1 s.2) x.1 (x.2.1, x.2.2.1) = some y244 ∧ St w noF m m [rowI rU8 5 (x.2.2.2.1) (x.2.2.2.2) x.2.2.1] wl276) (fun (x : Nat × Int × (List UInt8) × Option Addr × Nat) => x.1) (nn276, at_, [], none, 0) (by kernel_rfl) (by kernel_rfl) (by kernel_rfl) ?_ ?_
      · exact ⟨hR276, H⟩
      rintro ⟨n276, at_2, s_1, A_1_277, c_2_277⟩ wl276 ⟨hR276, H⟩
      try dsimp only at hR276
      try dsimp only at H
      obtain ⟨nk276, q276, rfl, hb_276, hnx276, hfin276⟩ := iterE hR276
      replace hb_276 : ref27_Word_l2 b at_2 s_1 = some q276 := hb_276
      unfold ref27_Word_l2 at hb_276
      refine seg 8 [.co [1, 1, 1, 1, 0, 0, 0, 0, 1], .co [1, 1, 1, 1, 0, 0, 0, 1], .le 1, .bl 0, .le 0, .co [1, 1, 1, 1, 1]] [(0, .slice A0_0 b.length c0_0), (1, .int .i64 at_2), (7, .int .i64 at_), (8, .slice A_1_277 s_1.length c_2_277), (43, .bool (decide (at_2 < (b.length : Int))))] (by kernel_rfl) ?_
      rcases condT hb_276 with ⟨hb278, hb_276⟩ | ⟨hb278, hb_276⟩
      · rw [hb278]
        have p278 := of_decide_eq_true hb278
        refine seg 8 [.op [1, 1, 1, 1, 0, 0, 0, 1, 0, 0, 0] 2, .co [1, 1, 1, 1, 0, 0, 0, 1, 0, 0, 1], .co [1, 1, 1, 1, 0, 0, 0, 1, 0, 1], .bl 1, .le 1, .bl 0, .le 0, .co [1, 1, 1, 1, 1]] [(0, .slice A0_0 b.length c0_0), (1, .int .i64 at_2), (7, .int .i64 at_), (8, .slice A_1_277 s_1.length c_2_277), (44, .slice A0_0 b.length c0_0), (45, .int .i64 at_2)] (by kernel_rfl) ?_
        obtain ⟨x_1, h_x_1, hb_276⟩ := bindE hb_276
        obtain ⟨i0279, i1279, ix279⟩ := idx_some h_x_1
        obtain ⟨ad280, _, ea280, rfl, hc280⟩ := s0_0.at_ ix279 (by decide)
        refine st (idxS (some 46) 25 5 1 A0_0 ad280 b.length c0_0 .i64 at_2 ea280 (by kernel_rfl) (by kernel_rfl) i0279 i1279 ?_)
        refine st (ldR (some 47) 5 (ad280.add (at_2.toNat * 1)) (.int .u8 (x_1.toNat : Int)) (by kernel_rfl) (by kernel_rfl) (H.cellI (mc0 (hc280 0 _ rfl))) ?_)
        refine st (callR (some 48) 26 #[.int .u8 (x_1.toNat : Int)] Tryd.call26 (ref27_plain_c H.has x_1) (by kernel_rfl) ?_)
        rintro _ w281 ⟨rfl, hx281⟩
        replace H := H.ex hx281
        refine seg 1 [.co [1, 1, 1, 1, 0, 0, 0, 1, 0, 0, 1], .co [1, 1, 1, 1, 0, 0, 0, 1, 0, 1], .bl 1, .le 1, .bl 0, .le 0, .co [1, 1, 1, 1, 1]] [(0, .slice A0_0 b.length c0_0), (1, .int .i64 at_2), (7, .int .i64 at_), (8, .slice A_1_277 s_1.length c_2_277), (48, .bool (ref27_plain x_1))] (by kernel_rfl) ?_
        rcases condT hb_276 with ⟨hb282, hb_276⟩ | ⟨hb282, hb_276⟩
        · rw [hb282]
          refine seg 6 [.op [1, 1, 1, 1, 0, 0, 0, 1, 0, 0, 1, 0, 0] 3, .co [1, 1, 1, 1, 0, 0, 0, 1, 0, 0, 1, 0, 1], .co [1, 1, 1, 1, 0, 0, 0, 1, 0, 1], .bl 1, .le 1, .bl 0, .le 0, .co [1, 1, 1, 1, 1]] [(0, .slice A0_0 b.length c0_0), (1, .int .i64 at_2), (7, .int .i64 at_), (49, .slice A_1_277 s_1.length c_2_277), (50, .slice A0_0 b.length c0_0), (51, .int .i64 at_2)] (by kernel_rfl) ?_
          replace H : St w noF m m [rowI rU8 5 A_1_277 c_2_277 s_1] w281 := H
          refine st (idxS (some 52) 25 5 1 A0_0 ad280 b.length c0_0 .i64 at_2 ea280 (by kernel_rfl) (by kernel_rfl) i0279 i1279 ?_)
          refine st (ldR (some 53) 5 (ad280.add (at_2.toNat * 1)) (.int .u8 (x_1.toNat : Int)) (by kernel_rfl) (by kernel_rfl) (H.cellI (mc0 (hc280 0 _ rfl))) ?_)
          refine st (newS (some 54) (fun g => .slice (some ⟨g, 0, none⟩) 1 1) [.int .u8 (x_1.toNat : Int)] 5 H (by kernel_rfl) ?_)
          intro g283 w283 H
          obtain ⟨b3, h_b3, hb_276⟩ := bindE hb_276
          refine st (appS (r := rU8) (some 55) 25 5 1 (.int .u8 0) 25 1 A_1_277 (some ⟨g283, 0, none⟩) c_2_277 1 1 s_1 [x_1] b3 _ H rfl ⟨Tryd.underlying25, by kernel_rfl⟩ rfl (by decide) (by kernel_rfl) (Cs.of_blk (H.blk 0 rfl)) (Rows.u8.2 rfl) rfl h_b3 (by decide) (by decide) ?_)
          intro A284 c284 w284 H
          replace H := H.drop 0 rfl
          refine seg 9 [.le 1, .bl 0, .le 0, .co [1, 1, 1, 1, 1]] [(0, .slice A0_0 b.length c0_0), (1, .int .i64 (IntKind.i64.wrap (at_2 + 1))), (7, .int .i64 at_), (8, .slice A284 b3.length c284)] (by kernel_rfl) ?_
          refine leR (nk276, (IntKind.i64.wrap (at_2 + 1)), b3, A284, c284) (Nat.lt_succ_self _) ⟨hnx276 _ (Option.some.inj hb_276).symm, H⟩ (by kernel_rfl)
        · rw [hb282]
          refine seg 7 [.op [1, 1, 1, 1, 0, 0, 0, 1, 0, 1, 0, 0] 2, .co [1, 1, 1, 1, 0, 0, 0, 1, 0, 1, 0, 1], .co [1, 1, 1, 1, 0, 0, 0, 1, 0, 1, 1], .bl 1, .le 1, .bl 0, .le 0, .co [1, 1, 1, 1, 1]] [(0, .slice A0_0 b.length c0_0), (1, .int .i64 at_2), (7, .int .i64 at_), (8, .slice A_1_277 s_1.length c_2_277), (58, .slice A0_0 b.length c0_0), (59, .int .i64 at_2)] (by kernel_rfl) ?_
          refine st (idxS (some 60) 25 5 1 A0_0 ad280 b.length c0_0 .i64 at_2 ea280 (by kernel_rfl) (by kernel_rfl) i0279 i1279 ?_)
          refine st (ldR (some 61) 5 (ad280.add (at_2.toNat * 1)) (.int .u8 (x_1.toNat : Int)) (by kernel_rfl) (by kernel_rfl) (H.cellI (mc0 (hc280 0 _ rfl))) ?_)
          refine seg 2 [.co [1, 1, 1, 1, 0, 0, 0, 1, 0, 1, 0, 1], .co [1, 1, 1, 1, 0, 0, 0, 1, 0, 1, 1], .bl 1, .le 1, .bl 0, .le 0, .co [1, 1, 1, 1, 1]] [(0, .slice A0_0 b.length c0_0), (1, .int .i64 at_2), (7, .int .i64 at_), (8, .slice A_1_277 s_1.length c_2_277), (62, .bool ((x_1.toNat : Int) != 37))] (by kernel_rfl) ?_
          rcases condT hb_276 with ⟨hb285, hb_276⟩ | ⟨hb285, hb_276⟩
          · rw [hb285]
            refine seg 2 [.le 0, .co [1, 1, 1, 1, 1]] [(1, .int .i64 at_2), (7, .int .i64 at_), (8, .slice A_1_277 s_1.length c_2_277)] (by kernel_rfl) ?_
            refine leR_up (k' := []) (by rfl) ?_
            refine leJ (at_2, s_1, A_1_277, c_2_277) ⟨(hfin276 _ (Option.some.inj hb_276).symm).symm, H⟩ (by kernel_rfl)
          · rw [hb285]
            refine seg 7 [.op [1, 1, 1, 1, 0, 0, 0, 1, 0, 1, 1, 0] 3, .co [1, 1, 1, 1, 0, 0, 0, 1, 0, 1, 1, 1], .bl 1, .le 1, .bl 0, .le 0, .co [1, 1, 1, 1, 1]] [(0, .slice A0_0 b.length c0_0), (1, .int .i64 at_2), (7, .int .i64 at_), (8, .slice A_1_277 s_1.length c_2_277), (64, .slice A0_0 b.length c0_0), (66, .int .i64 (IntKind.i64.wrap (at_2 + 1)))] (by kernel_rfl) ?_
            obtain ⟨pair1, h_pair1, hb_276⟩ := bindE hb_276
            refine st (callR (some 67) 41 #[.slice A0_0 b.length c0_0, .int .i64 (IntKind.i64.wrap (at_2 + 1))] Tryd.call41 (ref27_pair_c H.has b A0_0 c0_0 s0_0 (IntKind.i64.wrap (at_2 + 1)) h_pair1) (by kernel_rfl) ?_)
            rintro _ w286 ⟨rfl, hx286⟩
            replace H := H.ex hx286
            refine seg 14 [.co [1, 1, 1, 1, 0, 0, 0, 1, 0, 1, 1, 1, 0, 1], .co [1, 1, 1, 1, 0, 0, 0, 1, 0, 1, 1, 1, 1], .bl 1, .le 1, .bl 0, .le 0, .co [1, 1, 1, 1, 1]] [(0, .slice A0_0 b.length c0_0), (1, .int .i64 at_2), (7, .int .i64 at_), (8, .slice A_1_277 s_1.length c_2_277), (9, .int .u8 (pair1.1.toNat : Int)), (10, .int .i64 pair1.2.1), (11, .int .i64 pair1.2.2), (72, .bool (pair1.2.2 != 0))] (by kernel_rfl) ?_
            rcases condT hb_276 with ⟨hb287, hb_276⟩ | ⟨hb287, hb_276⟩
            · rw [hb287]
              refine seg 9 [.co [1, 1, 1, 1, 0, 0, 0, 1, 0, 1, 1, 1, 0, 1, 0, 1], .co [1, 1, 1, 1, 0, 0, 0, 1, 0, 1, 1, 1, 1], .bl 1, .le 1, .bl 0, .le 0, .co [1, 1, 1, 1, 1]] [(4, .string ⟨([] : List UInt8).toArray⟩), (5, .int .i64 pair1.2.1), (6, .int .i64 pair1.2.2)] (by kernel_rfl) ?_
              refine retR [4, 5, 6] [.string ⟨([] : List UInt8).toArray⟩, .int .i64 pair1.2.1, .int .i64 pair1.2.2] (by kernel_rfl) (by kernel_rfl) (by kernel_rfl) ?_
              obtain rfl : (([] : List UInt8), pair1.2.1, pair1.2.2) = r := (hfr244 _ (hfin276 _ (Option.some.inj hb_276).symm).symm)
              exact ⟨_, rfl, rfl, H.scalar, (Nat.le_of_ble_eq_true rfl)⟩
            · rw [hb287]
              refine seg 6 [.op [1, 1, 1, 1, 0, 0, 0, 1, 0, 1, 1, 1, 1, 0, 0] 1, .co [1, 1, 1, 1, 0, 0, 0, 1, 0, 1, 1, 1, 1, 0, 1], .co [1, 1, 1, 1, 0, 0, 0, 1, 0, 1, 1, 1, 1, 1], .bl 1, .le 1, .bl 0, .le 0, .co [1, 1, 1, 1, 1]] [(0, .slice A0_0 b.length c0_0), (1, .int .i64 at_2), (7, .int .i64 at_), (8, .slice A_1_277 s_1.length c_2_277), (9, .int .u8 (pair1.1.toNat : Int)), (10, .int .i64 pair1.2.1), (75, .int .u8 (pair1.1.toNat : Int))] (by kernel_rfl) ?_
              refine st (callR (some 76) 26 #[.int .u8 (pair1.1.toNat : Int)] Tryd.call26 (ref27_plain_c H.has pair1.1) (by kernel_rfl) ?_)
              rintro _ w288 ⟨rfl, hx288⟩
              replace H := H.ex hx288
              refine seg 1 [.co [1, 1, 1, 1, 0, 0, 0, 1, 0, 1, 1, 1, 1, 0, 1], .co [1, 1, 1, 1, 0, 0, 0, 1, 0, 1, 1, 1, 1, 1], .bl 1, .le 1, .bl 0, .le 0, .co [1, 1, 1, 1, 1]] [(0, .slice A0_0 b.length c0_0), (1, .int .i64 at_2), (7, .int .i64 at_), (8, .slice A_1_277 s_1.length c_2_277), (9, .int .u8 (pair1.1.toNat : Int)), (10, .int .i64 pair1.2.1), (76, .bool (ref27_plain pair1.1))] (by kernel_rfl) ?_
              rcases condT hb_276 with ⟨hb289, hb_276⟩ | ⟨hb289, hb_276⟩
              · rw [hb289]
                refine seg 9 [.co [1, 1, 1, 1, 0, 0, 0, 1, 0, 1, 1, 1, 1, 0, 1, 0, 1], .co [1, 1, 1, 1, 0, 0, 0, 1, 0, 1, 1, 1, 1, 1], .bl 1, .le 1, .bl 0, .le 0, .co [1, 1, 1, 1, 1]] [(4, .string ⟨([] : List UInt8).toArray⟩), (5, .int .i64 (IntKind.i64.wrap (at_2 + 2))), (6, .int .i64 6)] (by kernel_rfl) ?_
                refine retR [4, 5, 6] [.string ⟨([] : List UInt8).toArray⟩, .int .i64 (IntKind.i64.wrap (at_2 + 2)), .int .i64 6] (by kernel_rfl) (by kernel_rfl) (by kernel_rfl) ?_
                obtain rfl : (([] : List UInt8), (IntKind.i64.wrap (at_2 + 2)), 6) = r := (hfr244 _ (hfin276 _ (Option.some.inj hb_276).symm).symm)
                exact ⟨_, rfl, rfl, H.scalar, (Nat.le_of_ble_eq_true rfl)⟩
              · rw [hb289]
                refine seg 6 [.op [1, 1, 1, 1, 0, 0, 0, 1, 0, 1, 1, 1, 1, 1, 0] 2, .co [1, 1, 1, 1, 0, 0, 0, 1, 0, 1, 1, 1, 1, 1, 1], .bl 1, .le 1, .bl 0, .le 0, .co [1, 1, 1, 1, 1]] [(0, .slice A0_0 b.length c0_0), (7, .int .i64 at_), (10, .int .i64 pair1.2.1), (79, .slice A_1_277 s_1.length c_2_277), (80, .int .u8 (pair1.1.toNat : Int))] (by kernel_rfl) ?_
                replace H : St w noF m m [rowI rU8 5 A_1_277 c_2_277 s_1] w288 := H
                refine st (newS (some 81) (fun g => .slice (some ⟨g, 0, none⟩) 1 1) [.int .u8 (pair1.1.toNat : Int)] 5 H (by kernel_rfl) ?_)
                intro g290 w290 H
                obtain ⟨b4, h_b4, hb_276⟩ := bindE hb_276
                refine st (appS (r := rU8) (some 82) 25 5 1 (.int .u8 0) 25 1 A_1_277 (some ⟨g290, 0, none⟩) c_2_277 1 1 s_1 [pair1.1] b4 _ H rfl ⟨Tryd.underlying25, by kernel_rfl⟩ rfl (by decide) (by kernel_rfl) (Cs.of_blk (H.blk 0 rfl)) (Rows.u8.2 rfl) rfl h_b4 (by decide) (by decide) ?_)
                intro A291 c291 w291 H
                replace H := H.drop 0 rfl
                refine seg 7 [.le 1, .bl 0, .le 0, .co [1, 1, 1, 1, 1]] [(0, .slice A0_0 b.length c0_0), (1, .int .i64 pair1.2.1), (7, .int .i64 at_), (8, .slice A291 b4.length c291)] (by kernel_rfl) ?_
                refine leR (nk276, pair1.2.1, b4, A291, c291) (Nat.lt_succ_self _) ⟨hnx276 _ (Option.some.inj hb_276).symm, H⟩ (by kernel_rfl)
      · rw [hb278]
        have p278 := of_decide_eq_false hb278
        refine seg 2 [.le 0, .co [1, 1, 1, 1, 1]] [(1, .int .i64 at_2), (7, .int .i64 at_), (8, .slice A_1_277 s_1.length c_2_277)] (by kernel_rfl) ?_
        refine leR_up (k' := []) (by rfl) ?_
        refine leJ (at_2, s_1, A_1_277, c_2_277) ⟨(hfin276 _ (Option.some.inj hb_276).symm).symm, H⟩ (by kernel_rfl)
    rintro ⟨at_2, s_1, A_1_245, c_2_245⟩ wj244 ⟨hy244, H⟩
    try dsimp only at hy244
    try dsimp only at H
    have hf := hfl244 _ hy244
    try dsimp only at hf
    refine seg 7 [.co [1, 1, 1, 1, 1, 0, 1], .co [1, 1, 1, 1, 1, 1]] [(1, .int .i64 at_2), (8, .slice A_1_245 s_1.length c_2_245), (86, .bool (at_2 == at_))] (by kernel_rfl) ?_
    rcases condT hf with ⟨hb293, hf⟩ | ⟨hb293, hf⟩
    · rw [hb293]
      refine seg 8 [.co [1, 1, 1, 1, 1, 0, 1, 0, 1], .co [1, 1, 1, 1, 1, 1]] [(4, .string ⟨([] : List UInt8).toArray⟩), (5, .int .i64 at_2), (6, .int .i64 6)] (by kernel_rfl) ?_
      refine retR [4, 5, 6] [.string ⟨([] : List UInt8).toArray⟩, .int .i64 at_2, .int .i64 6] (by kernel_rfl) (by kernel_rfl) (by kernel_rfl) ?_
      obtain rfl : (([] : List UInt8), at_2, 6) = r := (Option.some.inj hf)
      exact ⟨_, rfl, rfl, H.scalar, (Nat.le_of_ble_eq_true rfl)⟩
    · rw [hb293]
      refine seg 5 [.op [1, 1, 1, 1, 1, 1, 0] 1, .co [1, 1, 1, 1, 1, 1, 1]] [(1, .int .i64 at_2), (88, .slice A_1_245 s_1.length c_2_245)] (by kernel_rfl) ?_
      refine st (b2sS (some 89) 25 9 5 A_1_245 c_2_245 s_1 Tryd.underlying25 Tryd.underlying5 Tryd.underlying9 (by kernel_rfl) (H.rowCs 0 rfl) ?_)
      have hl294 : s_1.length ≤ 9223372036854775807 := (Nat.le_trans (H.rowCap 0 rfl).1 (H.rowCap 0 rfl).2)
      refine seg 5 [.co [1, 1, 1, 1, 1, 1, 1]] [(4, .string ⟨s_1.toArray⟩), (5, .int .i64 at_2), (6, .int .i64 0)] (by kernel_rfl) ?_
      refine retR [4, 5, 6] [.string ⟨s_1.toArray⟩, .int .i64 at_2, .int .i64 0] (by kernel_rfl) (by kernel_rfl) (by kernel_rfl) ?_
      obtain rfl : (s_1, at_2, 0) = r := (Option.some.inj hf)
      exact ⟨_, rfl, rfl, H.scalar, hl294⟩
theorem ref27_Unquote_c {m : Mem} {w : World} (hm : Has m w) (s_ : (List UInt8)) (l0_0 : s_.length ≤ 9223372036854775807) {r : ((List UInt8) × Int)} (hf : ref27_Unquote s_ = some r) :
    Calls Tryd.prog 13 #[.string ⟨s_.toArray⟩] w fun e w' => ∃ v, e = .returned v ∧ v = .tuple #[.string ⟨r.1.toArray⟩, .int .i64 r.2] ∧ Ex w w' ∧ r.1.length ≤ 9223372036854775807 := by
  unfold ref27_Unquote at hf
  have H := St.start0 hm
  refine callsR Tryd.func13 (by kernel_rfl) (by kernel_rfl) ?_
  refine seg 8 [.op [1, 0] 1, .co [1, 1]] [(0, .string ⟨s_.toArray⟩), (8, .string ⟨s_.toArray⟩)] (by kernel_rfl) ?_
  refine st (s2bS (some 9) 9 25 5 s_ H Tryd.underlying9 Tryd.underlying25 Tryd.underlying5 (by kernel_rfl) ?_ l0_0)
  intro A1 c1 mc1 w1 hsub1 hs1 H
  obtain ⟨word_, h_word_, hf⟩ := bindE hf
  refine st (callR (some 10) 25 #[.slice A1 s_.length c1, .int .i64 0] Tryd.call25 (ref27_Word_c H.has s_ A1 c1 hs1 0 h_word_) (by kernel_rfl) ?_)
  rintro _ w2 ⟨rfl, hx2, hl2_0⟩
  replace H := H.ex hx2
  refine seg 14 [.op [1, 1, 0, 0] 3, .co [1, 1, 0, 1], .co [1, 1, 1]] [(0, .string ⟨s_.toArray⟩), (4, .string ⟨word_.1.toArray⟩), (5, .int .i64 word_.2.1), (16, .bool (word_.2.2 != 0))] (by kernel_rfl) ?_
  rcases condT hf with ⟨hb4, hf⟩ | ⟨hb4, hf⟩
  · rw [hb4]
    refine seg 12 [.co [1, 1, 0, 1, 0, 1], .co [1, 1, 1]] [(2, .string ⟨([] : List UInt8).toArray⟩), (3, .int .i64 6)] (by kernel_rfl) ?_
    refine retR [2, 3] [.string ⟨([] : List UInt8).toArray⟩, .int .i64 6] (by kernel_rfl) (by kernel_rfl) (by kernel_rfl) ?_
    obtain rfl : (([] : List UInt8), 6) = r := (Option.some.inj hf)
    exact ⟨_, rfl, rfl, H.scalar, (Nat.le_of_ble_eq_true rfl)⟩
  · rw [hb4]
    refine seg 6 [.co [1, 1, 0, 1], .co [1, 1, 1]] [(4, .string ⟨word_.1.toArray⟩), (21, .bool (word_.2.1 != (s_.length : Int)))] (by kernel_rfl) ?_
    rcases condT hf with ⟨hb6, hf⟩ | ⟨hb6, hf⟩
    · rw [hb6]
      refine seg 6 [.co [1, 1, 0, 1, 0, 1], .co [1, 1, 1]] [(2, .string ⟨([] : List UInt8).toArray⟩), (3, .int .i64 6)] (by kernel_rfl) ?_
      refine retR [2, 3] [.string ⟨([] : List UInt8).toArray⟩, .int .i64 6] (by kernel_rfl) (by kernel_rfl) (by kernel_rfl) ?_
      obtain rfl : (([] : List UInt8), 6) = r := (Option.some.inj hf)
      exact ⟨_, rfl, rfl, H.scalar, (Nat.le_of_ble_eq_true rfl)⟩
    · rw [hb6]
      refine seg 8 [.co [1, 1, 1, 1]] [(2, .string ⟨word_.1.toArray⟩), (3, .int .i64 0)] (by kernel_rfl) ?_
      refine retR [2, 3] [.string ⟨word_.1.toArray⟩, .int .i64 0] (by kernel_rfl) (by kernel_rfl) (by kernel_rfl) ?_
      obtain rfl : (word_.1, 0) = r := (Option.some.inj hf)
      exact ⟨_, rfl, rfl, H.scalar, hl2_0⟩
theorem law27_ManifestWords_c {m : Mem} {w : World} (hm : Has m w) (hG0 : TabM m 0 (tab0.map fU64)) (hG2 : TabM m 2 (tab2.map fU8)) (s_ : (List UInt8)) (l0_0 : s_.length ≤ 9223372036854775807) {r : Bool} (hf : law27_ManifestWords s_ = some r) :
    Calls Tryd.prog 4 #[.string ⟨s_.toArray⟩] w fun e w' => ∃ v, e = .returned v ∧ v = .bool r ∧ Ex w w' := by
  unfold law27_ManifestWords at hf
  have H := St.start0 hm
  refine callsR Tryd.func4 (by kernel_rfl) (by kernel_rfl) ?_
  refine seg 11 [.co [1, 0, 1], .co [1, 1]] [(0, .string ⟨s_.toArray⟩), (12, .bool (decide ((s_.length : Int) > 3000)))] (by kernel_rfl) ?_
  rcases condT hf with ⟨hb3, hf⟩ | ⟨hb3, hf⟩
  · rw [hb3]
    have p3 := of_decide_eq_true hb3
    refine seg 3 [.op [1, 0, 1, 0, 0] 0, .co [1, 0, 1, 0, 1], .co [1, 1]] [] (by kernel_rfl) ?_
    obtain ⟨live, h_live, hf⟩ := bindE hf
    refine st (callR (some 13) 7 #[] Tryd.call7 (law27_live_c H.has hG0 hG2 h_live) (by kernel_rfl) ?_)
    rintro _ w4 ⟨rfl, hx4⟩
    replace H := H.ex hx4
    refine seg 2 [.co [1, 0, 1, 0, 1], .co [1, 1]] [(2, .bool live)] (by kernel_rfl) ?_
    refine retR [2] [.bool live] (by kernel_rfl) (by kernel_rfl) (by kernel_rfl) ?_
    have hret := (Option.some.inj hf)
    subst hret
    exact ⟨_, rfl, rfl, H.scalar⟩
  · rw [hb3]
    have p3 := of_decide_eq_false hb3
    refine seg 5 [.op [1, 1, 0] 1, .co [1, 1, 1]] [(0, .string ⟨s_.toArray⟩), (14, .string ⟨s_.toArray⟩)] (by kernel_rfl) ?_
    obtain ⟨quote, h_quote, hf⟩ := bindE hf
    refine st (callR (some 15) 11 #[.string ⟨s_.toArray⟩] Tryd.call11 (manifest_Quote_c H.has s_ l0_0 h_quote) (by kernel_rfl) ?_)
    rintro _ w5 ⟨rfl, hx5, hl5_0⟩
    replace H := H.ex hx5
    refine seg 5 [.op [1, 1, 1, 0] 1, .co [1, 1, 1, 1]] [(0, .string ⟨s_.toArray⟩), (3, .string ⟨quote.toArray⟩), (17, .string ⟨s_.toArray⟩)] (by kernel_rfl) ?_
    obtain ⟨unquot, h_unquot, hf⟩ := bindE hf
    refine st (callR (some 18) 12 #[.string ⟨s_.toArray⟩] Tryd.call12 (manifest_Unquote_c H.has s_ l0_0 h_unquot) (by kernel_rfl) ?_)
    rintro _ w6 ⟨rfl, hx6, hl6_0⟩
    replace H := H.ex hx6
    refine seg 9 [.op [1, 1, 1, 1, 0] 1, .co [1, 1, 1, 1, 1]] [(0, .string ⟨s_.toArray⟩), (3, .string ⟨quote.toArray⟩), (4, .string ⟨unquot.1.toArray⟩), (5, .int .i64 unquot.2), (22, .string ⟨s_.toArray⟩)] (by kernel_rfl) ?_
    replace H : St w noF m m [] w6 := H
    obtain ⟨unquot1, h_unquot1, hf⟩ := bindE hf
    refine st (callR (some 23) 13 #[.string ⟨s_.toArray⟩] Tryd.call13 (ref27_Unquote_c H.has s_ l0_0 h_unquot1) (by kernel_rfl) ?_)
    rintro _ w7 ⟨rfl, hx7, hl7_0⟩
    replace H := H.ex hx7
    refine seg 9 [.op [1, 1, 1, 1, 1, 0] 1, .co [1, 1, 1, 1, 1, 1]] [(0, .string ⟨s_.toArray⟩), (3, .string ⟨quote.toArray⟩), (4, .string ⟨unquot.1.toArray⟩), (5, .int .i64 unquot.2), (6, .string ⟨unquot1.1.toArray⟩), (7, .int .i64 unquot1.2), (27, .string ⟨quote.toArray⟩)] (by kernel_rfl) ?_
    obtain ⟨unquot2, h_unquot2, hf⟩ := bindE hf
    refine st (callR (some 28) 12 #[.string ⟨quote.toArray⟩] Tryd.call12 (manifest_Unquote_c H.has quote hl5_0 h_unquot2) (by kernel_rfl) ?_)
    rintro _ w9 ⟨rfl, hx9, hl9_0⟩
    replace H := H.ex hx9
    refine seg 10 [.op [1, 1, 1, 1, 1, 1, 0] 2, .co [1, 1, 1, 1, 1, 1, 1]] [(0, .string ⟨s_.toArray⟩), (4, .string ⟨unquot.1.toArray⟩), (5, .int .i64 unquot.2), (6, .string ⟨unquot1.1.toArray⟩), (7, .int .i64 unquot1.2), (8, .string ⟨unquot2.1.toArray⟩), (9, .int .i64 unquot2.2), (31, .string ⟨quote.toArray⟩), (32, .string ⟨s_.toArray⟩)] (by kernel_rfl) ?_
    replace H : St w noF m m [] w9 := H
    obtain ⟨quote1, h_quote1, hf⟩ := bindE hf
    refine st (callR (some 33) 14 #[.string ⟨s_.toArray⟩] Tryd.call14 (ref27_Quote_c H.has s_ l0_0 h_quote1) (by kernel_rfl) ?_)
    rintro _ w24 ⟨rfl, hx24, hl24_0⟩
    replace H := H.ex hx24
    refine seg 2 [.op [1, 1, 1, 1, 1, 1, 0] 5, .co [1, 1, 1, 1, 1, 1, 1]] [(0, .string ⟨s_.toArray⟩), (4, .string ⟨unquot.1.toArray⟩), (5, .int .i64 unquot.2), (6, .string ⟨unquot1.1.toArray⟩), (7, .int .i64 unquot1.2), (8, .string ⟨unquot2.1.toArray⟩), (9, .int .i64 unquot2.2), (35, .bool ((ByteArray.toList ⟨quote.toArray⟩) == (ByteArray.toList ⟨quote1.toArray⟩)))] (by kernel_rfl) ?_
    rw [seq_raw quote quote1]
    rcases condT hf with ⟨hb25, hf⟩ | ⟨hb25, hf⟩
    · rw [hb25]
      refine seg 5 [.op [1, 1, 1, 1, 1, 1, 0] 10, .co [1, 1, 1, 1, 1, 1, 1]] [(0, .string ⟨s_.toArray⟩), (4, .string ⟨unquot.1.toArray⟩), (5, .int .i64 unquot.2), (7, .int .i64 unquot1.2), (8, .string ⟨unquot2.1.toArray⟩), (9, .int .i64 unquot2.2), (40, .bool ((ByteArray.toList ⟨unquot.1.toArray⟩) == (ByteArray.toList ⟨unquot1.1.toArray⟩)))] (by kernel_rfl) ?_
      rw [seq_raw unquot.1 unquot1.1]
      rcases condT hf with ⟨hb26, hf⟩ | ⟨hb26, hf⟩
      · rw [hb26]
        refine seg 1 [.op [1, 1, 1, 1, 1, 1, 0] 11, .co [1, 1, 1, 1, 1, 1, 1]] [(0, .string ⟨s_.toArray⟩), (4, .string ⟨unquot.1.toArray⟩), (7, .int .i64 unquot1.2), (8, .string ⟨unquot2.1.toArray⟩), (9, .int .i64 unquot2.2), (40, .bool true), (41, .int .i64 unquot.2)] (by kernel_rfl) ?_
        refine st (callR (some 42) 10 #[.int .i64 unquot.2] Tryd.call10 (law27_num_c H.has unquot.2) (by kernel_rfl) ?_)
        rintro _ w27 ⟨rfl, hx27⟩
        replace H := H.ex hx27
        refine seg 4 [.op [1, 1, 1, 1, 1, 1, 0] 16, .co [1, 1, 1, 1, 1, 1, 1]] [(0, .string ⟨s_.toArray⟩), (4, .string ⟨unquot.1.toArray⟩), (7, .int .i64 unquot1.2), (8, .string ⟨unquot2.1.toArray⟩), (9, .int .i64 unquot2.2), (46, .bool ((law27_num unquot.2) == unquot1.2))] (by kernel_rfl) ?_
        rcases condT hf with ⟨hb28, hf⟩ | ⟨hb28, hf⟩
        · rw [hb28]
          refine seg 1 [.op [1, 1, 1, 1, 1, 1, 0] 17, .co [1, 1, 1, 1, 1, 1, 1]] [(0, .string ⟨s_.toArray⟩), (4, .string ⟨unquot.1.toArray⟩), (7, .int .i64 unquot1.2), (8, .string ⟨unquot2.1.toArray⟩), (46, .bool true), (47, .int .i64 unquot2.2)] (by kernel_rfl) ?_
          refine st (callR (some 48) 10 #[.int .i64 unquot2.2] Tryd.call10 (law27_num_c H.has unquot2.2) (by kernel_rfl) ?_)
          rintro _ w29 ⟨rfl, hx29⟩
          replace H := H.ex hx29
          refine seg 3 [.op [1, 1, 1, 1, 1, 1, 0] 21, .co [1, 1, 1, 1, 1, 1, 1]] [(0, .string ⟨s_.toArray⟩), (4, .string ⟨unquot.1.toArray⟩), (7, .int .i64 unquot1.2), (8, .string ⟨unquot2.1.toArray⟩), (51, .bool ((law27_num unquot2.2) == 0))] (by kernel_rfl) ?_
          rcases condT hf with ⟨hb30, hf⟩ | ⟨hb30, hf⟩
          · rw [hb30]
            refine seg 5 [.op [1, 1, 1, 1, 1, 1, 0] 26, .co [1, 1, 1, 1, 1, 1, 1]] [(0, .string ⟨s_.toArray⟩), (4, .string ⟨unquot.1.toArray⟩), (7, .int .i64 unquot1.2), (56, .bool ((ByteArray.toList ⟨unquot2.1.toArray⟩) == (ByteArray.toList ⟨s_.toArray⟩)))] (by kernel_rfl) ?_
            rw [seq_raw unquot2.1 s_]
            rcases condT hf with ⟨hb31, hf⟩ | ⟨hb31, hf⟩
            · rw [hb31]
              refine seg 3 [.op [1, 1, 1, 1, 1, 1, 0] 29, .co [1, 1, 1, 1, 1, 1, 1]] [(0, .string ⟨s_.toArray⟩), (4, .string ⟨unquot.1.toArray⟩), (56, .bool true), (59, .bool (unquot1.2 != 0))] (by kernel_rfl) ?_
              rcases condT hf with ⟨hb33, hf⟩ | ⟨hb33, hf⟩
              · rw [hb33]
                refine seg 7 [.op [1, 1, 1, 1, 1, 1, 0] 36, .co [1, 1, 1, 1, 1, 1, 1]] [(66, .bool true)] (by kernel_rfl) ?_
                obtain ⟨live1, h_live1, hf⟩ := bindE hf
                refine st (callR (some 67) 7 #[] Tryd.call7 (law27_live_c H.has hG0 hG2 h_live1) (by kernel_rfl) ?_)
                rintro _ w34 ⟨rfl, hx34⟩
                replace H := H.ex hx34
                refine seg 3 [.co [1, 1, 1, 1, 1, 1, 1]] [(2, .bool live1)] (by kernel_rfl) ?_
                refine retR [2] [.bool live1] (by kernel_rfl) (by kernel_rfl) (by kernel_rfl) ?_
                have hret := (Option.some.inj hf)
                subst hret
                exact ⟨_, rfl, rfl, H.scalar⟩
              · rw [hb33]
                refine seg 1 [.op [1, 1, 1, 1, 1, 1, 0] 30, .co [1, 1, 1, 1, 1, 1, 1]] [(0, .string ⟨s_.toArray⟩), (56, .bool true), (59, .bool false), (60, .string ⟨unquot.1.toArray⟩)] (by kernel_rfl) ?_
                replace H : St w noF m m [] w29 := H
                obtain ⟨quote2, h_quote2, hf⟩ := bindE hf
                refine st (callR (some 61) 11 #[.string ⟨unquot.1.toArray⟩] Tryd.call11 (manifest_Quote_c H.has unquot.1 hl6_0 h_quote2) (by kernel_rfl) ?_)
                rintro _ w35 ⟨rfl, hx35, hl35_0⟩
                replace H := H.ex hx35
                refine seg 5 [.op [1, 1, 1, 1, 1, 1, 0] 36, .co [1, 1, 1, 1, 1, 1, 1]] [(66, .bool ((ByteArray.toList ⟨quote2.toArray⟩) == (ByteArray.toList ⟨s_.toArray⟩)))] (by kernel_rfl) ?_
                rw [seq_raw quote2 s_]
                rcases condT hf with ⟨hb36, hf⟩ | ⟨hb36, hf⟩
                · rw [hb36]
                  obtain ⟨live2, h_live2, hf⟩ := bindE hf
                  refine st (callR (some 67) 7 #[] Tryd.call7 (law27_live_c H.has hG0 hG2 h_live2) (by kernel_rfl) ?_)
                  rintro _ w37 ⟨rfl, hx37⟩
                  replace H := H.ex hx37
                  refine seg 3 [.co [1, 1, 1, 1, 1, 1, 1]] [(2, .bool live2)] (by kernel_rfl) ?_
                  refine retR [2] [.bool live2] (by kernel_rfl) (by kernel_rfl) (by kernel_rfl) ?_
                  have hret := (Option.some.inj hf)
                  subst hret
                  exact ⟨_, rfl, rfl, H.scalar⟩
                · rw [hb36]
                  refine seg 4 [.co [1, 1, 1, 1, 1, 1, 1]] [(2, .bool false)] (by kernel_rfl) ?_
                  refine retR [2] [.bool false] (by kernel_rfl) (by kernel_rfl) (by kernel_rfl) ?_
                  have hret := (Option.some.inj hf)
                  subst hret
                  exact ⟨_, rfl, rfl, H.scalar⟩
            · rw [hb31]
              refine seg 14 [.co [1, 1, 1, 1, 1, 1, 1]] [(2, .bool false)] (by kernel_rfl) ?_
              refine retR [2] [.bool false] (by kernel_rfl) (by kernel_rfl) (by kernel_rfl) ?_
              have hret := (Option.some.inj hf)
              subst hret
              exact ⟨_, rfl, rfl, H.scalar⟩
          · rw [hb30]
            refine seg 19 [.co [1, 1, 1, 1, 1, 1, 1]] [(2, .bool false)] (by kernel_rfl) ?_
            refine retR [2] [.bool false] (by kernel_rfl) (by kernel_rfl) (by kernel_rfl) ?_
            have hret := (Option.some.inj hf)
            subst hret
            exact ⟨_, rfl, rfl, H.scalar⟩
        · rw [hb28]
          refine seg 24 [.co [1, 1, 1, 1, 1, 1, 1]] [(2, .bool false)] (by kernel_rfl) ?_
          refine retR [2] [.bool false] (by kernel_rfl) (by kernel_rfl) (by kernel_rfl) ?_
          have hret := (Option.some.inj hf)
          subst hret
          exact ⟨_, rfl, rfl, H.scalar⟩
      · rw [hb26]
        refine seg 30 [.co [1, 1, 1, 1, 1, 1, 1]] [(2, .bool false)] (by kernel_rfl) ?_
        refine retR [2] [.bool false] (by kernel_rfl) (by kernel_rfl) (by kernel_rfl) ?_
        have hret := (Option.some.inj hf)
        subst hret
        exact ⟨_, rfl, rfl, H.scalar⟩
    · rw [hb25]
      refine seg 35 [.co [1, 1, 1, 1, 1, 1, 1]] [(2, .bool false)] (by kernel_rfl) ?_
      refine retR [2] [.bool false] (by kernel_rfl) (by kernel_rfl) (by kernel_rfl) ?_
      have hret := (Option.some.inj hf)
      subst hret
      exact ⟨_, rfl, rfl, H.scalar⟩
end Go.Proofs.YtebbaokcgnjfiaaDoor.F
