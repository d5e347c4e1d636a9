/- The code computes them: printed by lift.py, part 4. -/
import Derived.Test.YtebbaokcgnjfiaaDoorProg
import Derived.Test.YtebbaokcgnjfiaaDoorLMP
import Derived.Test.YtebbaokcgnjfiaaDoorLM3
set_option linter.unusedVariables false
set_option linter.unusedSimpArgs false
namespace Go.Proofs.YtebbaokcgnjfiaaDoor.F
open Go Go.RowKit Go.Proofs.YtebbaokcgnjfiaaDoor Go.Proofs.YtebbaokcgnjfiaaDoor.K
set_option maxRecDepth 100000
theorem ref27_Lines_c {m : Mem} {w : World} (hm : Has m w) (x_ : TApiEntry) (l0_0 : x_.Path.length ≤ 9223372036854775807) (A0_7 : Option Addr) (c0_7 : Nat) (s0_7 : SlI rU8 m A0_7 c0_7 x_.Data) (l0_8 : x_.Target.length ≤ 9223372036854775807) (A0_10 : Option Addr) (c0_10 : Nat) (s0_10 : SlI rApiAttr m A0_10 c0_10 x_.Attrs) {r : (List UInt8)} (hf : ref27_Lines x_ = some r) :
    Calls Tryd.prog 22 #[.agg #[.string ⟨x_.Path.toArray⟩, .int .i64 x_.Kind, .int .i64 x_.Mode, .int .i64 x_.Uid, .int .i64 x_.Gid, .int .i64 x_.Time, .int .i64 x_.Size, .slice A0_7 x_.Data.length c0_7, .string ⟨x_.Target.toArray⟩, .int .i64 x_.Dev, .slice A0_10 x_.Attrs.length c0_10]] w fun e w' => ∃ v, e = .returned v ∧ v = .string ⟨r.toArray⟩ ∧ Ex w w' ∧ r.length ≤ 9223372036854775807 := by
  unfold ref27_Lines at hf
  have H := St.start0 hm
  refine callsR Tryd.func22 (by kernel_rfl) (by kernel_rfl) ?_
  refine seg 2 [.op [0] 0, .co [1]] [(0, .agg #[.string ⟨x_.Path.toArray⟩, .int .i64 x_.Kind, .int .i64 x_.Mode, .int .i64 x_.Uid, .int .i64 x_.Gid, .int .i64 x_.Time, .int .i64 x_.Size, .slice A0_7 x_.Data.length c0_7, .string ⟨x_.Target.toArray⟩, .int .i64 x_.Dev, .slice A0_10 x_.Attrs.length c0_10])] (by kernel_rfl) ?_
  refine st (newS (some 1) (fun g => .pointer (some ⟨g, 0, none⟩)) [.string ⟨x_.Path.toArray⟩, .int .i64 x_.Kind, .int .i64 x_.Mode, .int .i64 x_.Uid, .int .i64 x_.Gid, .int .i64 x_.Time, .int .i64 x_.Size, .slice A0_7 x_.Data.length c0_7, .string ⟨x_.Target.toArray⟩, .int .i64 x_.Dev, .slice A0_10 x_.Attrs.length c0_10] 44 H (by kernel_rfl) ?_)
  intro g1 w1 H
  refine seg 5 [.op [1, 0] 1, .co [1, 1]] [(1, .pointer (some (⟨g1, 0, none⟩))), (7, .pointer (some (⟨g1, 1, none⟩)))] (by kernel_rfl) ?_
  refine st (ldR (some 8) 3 (⟨g1, 1, none⟩) (.int .i64 x_.Kind) (by kernel_rfl) (by kernel_rfl) (H.cellB 0 rfl rfl) ?_)
  obtain ⟨c, h_c, hf⟩ := bindE hf
  refine st (strS (some 9) 9 ([63, 102, 100, 108, 98, 99, 104] : List UInt8) .i64 x_.Kind c (by kernel_rfl) (by kernel_rfl) h_c ?_)
  refine st (newS (some 10) (fun g => .slice (some ⟨g, 0, none⟩) 1 1) [.int .u8 (c.toNat : Int)] 5 H (by kernel_rfl) ?_)
  intro g2 w2 H
  have H := H.toRow (r := rU8) (l := [c]) 0 rfl (Rows.u8.2 rfl) (Nat.le_of_ble_eq_true rfl)
  refine st (b2sS (some 11) 25 9 5 (some ⟨g2, 0, none⟩) 1 [c] Tryd.underlying25 Tryd.underlying5 Tryd.underlying9 (by kernel_rfl) (H.rowCs 0 rfl) ?_)
  have hl3 : [c].length ≤ 9223372036854775807 := (Nat.le_trans (H.rowCap 0 rfl).1 (H.rowCap 0 rfl).2)
  refine seg 6 [.op [1, 1, 0, 0] 1, .co [1, 1, 0, 1], .co [1, 1, 1]] [(1, .pointer (some (⟨g1, 0, none⟩))), (3, .string ⟨([c]).toArray⟩), (12, .pointer (some (⟨g1, 1, none⟩)))] (by kernel_rfl) ?_
  refine st (ldR (some 13) 3 (⟨g1, 1, none⟩) (.int .i64 x_.Kind) (by kernel_rfl) (by kernel_rfl) (H.cellB 1 rfl rfl) ?_)
  refine seg 2 [.co [1, 1, 0, 1], .co [1, 1, 1]] [(1, .pointer (some (⟨g1, 0, none⟩))), (3, .string ⟨([c]).toArray⟩), (14, .bool (x_.Kind != 6))] (by kernel_rfl) ?_
  obtain ⟨y1019, hp1019, hf⟩ := bindE hf
  refine joinR 0 (fun (x : (List UInt8)) => [(1, .pointer (some (⟨g1, 0, none⟩))), (3, .string ⟨x.toArray⟩)]) (fun (x : (List UInt8)) (wj1019 : World) => y1019 = x ∧ St w noF m m [blkI g1 [.string ⟨x_.Path.toArray⟩, .int .i64 x_.Kind, .int .i64 x_.Mode, .int .i64 x_.Uid, .int .i64 x_.Gid, .int .i64 x_.Time, .int .i64 x_.Size, .slice A0_7 x_.Data.length c0_7, .string ⟨x_.Target.toArray⟩, .int .i64 x_.Dev, .slice A0_10 x_.Attrs.length c0_10] 44] wj1019 ∧ x.length ≤ 9223372036854775807) (by kernel_rfl) ?_ ?_
  · rcases condT hp1019 with ⟨hb1021, hp1019⟩ | ⟨hb1021, hp1019⟩
    · rw [hb1021]
      refine seg 1 [.co [1, 1, 0, 1, 0], .le 0, .co [1, 1, 1]] [(1, .pointer (some (⟨g1, 0, none⟩))), (3, .string ⟨([c]).toArray⟩)] (by kernel_rfl) ?_
      obtain ⟨s_, h_s_, hp1019⟩ := bindE hp1019
      obtain ⟨digits, h_digits, hp1019⟩ := bindE hp1019
      obtain ⟨s_1, h_s_1, hp1019⟩ := bindE hp1019
      obtain ⟨s_2, h_s_2, hp1019⟩ := bindE hp1019
      obtain ⟨digits1, h_digits1, hp1019⟩ := bindE hp1019
      obtain ⟨s_3, h_s_3, hp1019⟩ := bindE hp1019
      obtain ⟨s_4, h_s_4, hp1019⟩ := bindE hp1019
      obtain ⟨digits2, h_digits2, hp1019⟩ := bindE hp1019
      obtain ⟨s_5, h_s_5, hp1019⟩ := bindE hp1019
      obtain ⟨s_6, h_s_6, hp1019⟩ := bindE hp1019
      obtain ⟨digits3, h_digits3, hp1019⟩ := bindE hp1019
      obtain ⟨s_7, h_s_7, hp1019⟩ := bindE hp1019
      have hst : statB (bodyOf Tryd.f22) [1, 1, 0, 1, 0] = true := by kernel_rfl
      refine drawS (fun w' => Has m w' ∧ w'.heap[g1]? = some (.cells [.string ⟨x_.Path.toArray⟩, .int .i64 x_.Kind, .int .i64 x_.Mode, .int .i64 x_.Uid, .int .i64 x_.Gid, .int .i64 x_.Time, .int .i64 x_.Size, .slice A0_7 x_.Data.length c0_7, .string ⟨x_.Target.toArray⟩, .int .i64 x_.Dev, .slice A0_10 x_.Attrs.length c0_10].toArray 44 (0, 0))) H (by kernel_rfl) (by kernel_rfl) ?_
      intro w1034 H
      refine segD2 hst [0, 2, 7, 12, 17] [0, 2, 7, 12, 17] [(1, .pointer (some (⟨g1, 0, none⟩))), (15, .string ⟨([c]).toArray⟩), (17, .pointer (some (⟨g1, 2, none⟩))), (22, .pointer (some (⟨g1, 3, none⟩))), (27, .pointer (some (⟨g1, 4, none⟩))), (32, .pointer (some (⟨g1, 5, none⟩)))] (by kernel_rfl) ?_
      refine takeD2 (i := 1) (d := (some 16)) (s := (vS (Op.stringOp .add ⟨[c].toArray⟩ ⟨([32] : List UInt8).toArray⟩))) (v := (.string ⟨s_.toArray⟩)) hst (by kernel_rfl) (by kernel_rfl) (fun w' hw' => cat_runY 9 h_s_ (w := w')) ?_
      have hl1035 : s_.length ≤ 9223372036854775807 := by obtain ⟨h1, h2⟩ := cat_some h_s_; rw [h2, List.length_append]; exact h1
      refine takeD2 (i := 3) (d := (some 18)) (s := vS (Instr.loadAt 3 (.pointer (some (⟨g1, 2, none⟩))))) (v := (.int .i64 x_.Mode)) hst (by kernel_rfl) (by kernel_rfl) (fun w' hw' => ld_run _ _ _ (by kernel_rfl) (blk_cell hw'.2 rfl)) ?_
      refine takeD2 (i := 8) (d := (some 23)) (s := vS (Instr.loadAt 3 (.pointer (some (⟨g1, 3, none⟩))))) (v := (.int .i64 x_.Uid)) hst (by kernel_rfl) (by kernel_rfl) (fun w' hw' => ld_run _ _ _ (by kernel_rfl) (blk_cell hw'.2 rfl)) ?_
      refine takeD2 (i := 13) (d := (some 28)) (s := vS (Instr.loadAt 3 (.pointer (some (⟨g1, 4, none⟩))))) (v := (.int .i64 x_.Gid)) hst (by kernel_rfl) (by kernel_rfl) (fun w' hw' => ld_run _ _ _ (by kernel_rfl) (blk_cell hw'.2 rfl)) ?_
      refine takeD2 (i := 18) (d := (some 33)) (s := vS (Instr.loadAt 3 (.pointer (some (⟨g1, 5, none⟩))))) (v := (.int .i64 x_.Time)) hst (by kernel_rfl) (by kernel_rfl) (fun w' hw' => ld_run _ _ _ (by kernel_rfl) (blk_cell hw'.2 rfl)) ?_
      replace H : St w noF m m [blkI g1 [.string ⟨x_.Path.toArray⟩, .int .i64 x_.Kind, .int .i64 x_.Mode, .int .i64 x_.Uid, .int .i64 x_.Gid, .int .i64 x_.Time, .int .i64 x_.Size, .slice A0_7 x_.Data.length c0_7, .string ⟨x_.Target.toArray⟩, .int .i64 x_.Dev, .slice A0_10 x_.Attrs.length c0_10] 44] w1034 := (H.drop 0 rfl)
      refine stD2 (i := 4) (by kernel_rfl) ⟨H.has, H.blk 0 rfl⟩ (callR (some 19) 35 #[.int .i64 x_.Mode, .int .i64 8] Tryd.call35 (ref27_Digits_c H.has x_.Mode 8 h_digits) (by kernel_rfl) ?_)
      rintro _ w1036 ⟨rfl, hx1036, hl1036_0⟩
      replace H := H.ex hx1036
      refine takeD2 (i := 5) (d := (some 20)) (s := (vS (Op.stringOp .add ⟨s_.toArray⟩ ⟨digits.toArray⟩))) (v := (.string ⟨s_1.toArray⟩)) hst (by kernel_rfl) (by kernel_rfl) (fun w' hw' => cat_runY 9 h_s_1 (w := w')) ?_
      have hl1037 : s_1.length ≤ 9223372036854775807 := by obtain ⟨h1, h2⟩ := cat_some h_s_1; rw [h2, List.length_append]; exact h1
      refine takeD2 (i := 6) (d := (some 21)) (s := (vS (Op.stringOp .add ⟨s_1.toArray⟩ ⟨([32] : List UInt8).toArray⟩))) (v := (.string ⟨s_2.toArray⟩)) hst (by kernel_rfl) (by kernel_rfl) (fun w' hw' => cat_runY 9 h_s_2 (w := w')) ?_
      have hl1038 : s_2.length ≤ 9223372036854775807 := by obtain ⟨h1, h2⟩ := cat_some h_s_2; rw [h2, List.length_append]; exact h1
      refine stD2 (i := 9) (by kernel_rfl) ⟨H.has, H.blk 0 rfl⟩ (callR (some 24) 35 #[.int .i64 x_.Uid, .int .i64 10] Tryd.call35 (ref27_Digits_c H.has x_.Uid 10 h_digits1) (by kernel_rfl) ?_)
      rintro _ w1039 ⟨rfl, hx1039, hl1039_0⟩
      replace H := H.ex hx1039
      refine takeD2 (i := 10) (d := (some 25)) (s := (vS (Op.stringOp .add ⟨s_2.toArray⟩ ⟨digits1.toArray⟩))) (v := (.string ⟨s_3.toArray⟩)) hst (by kernel_rfl) (by kernel_rfl) (fun w' hw' => cat_runY 9 h_s_3 (w := w')) ?_
      have hl1040 : s_3.length ≤ 9223372036854775807 := by obtain ⟨h1, h2⟩ := cat_some h_s_3; rw [h2, List.length_append]; exact h1
      refine takeD2 (i := 11) (d := (some 26)) (s := (vS (Op.stringOp .add ⟨s_3.toArray⟩ ⟨([32] : List UInt8).toArray⟩))) (v := (.string ⟨s_4.toArray⟩)) hst (by kernel_rfl) (by kernel_rfl) (fun w' hw' => cat_runY 9 h_s_4 (w := w')) ?_
      have hl1041 : s_4.length ≤ 9223372036854775807 := by obtain ⟨h1, h2⟩ := cat_some h_s_4; rw [h2, List.length_append]; exact h1
      refine stD2 (i := 14) (by kernel_rfl) ⟨H.has, H.blk 0 rfl⟩ (callR (some 29) 35 #[.int .i64 x_.Gid, .int .i64 10] Tryd.call35 (ref27_Digits_c H.has x_.Gid 10 h_digits2) (by kernel_rfl) ?_)
      rintro _ w1042 ⟨rfl, hx1042, hl1042_0⟩
      replace H := H.ex hx1042
      refine takeD2 (i := 15) (d := (some 30)) (s := (vS (Op.stringOp .add ⟨s_4.toArray⟩ ⟨digits2.toArray⟩))) (v := (.string ⟨s_5.toArray⟩)) hst (by kernel_rfl) (by kernel_rfl) (fun w' hw' => cat_runY 9 h_s_5 (w := w')) ?_
      have hl1043 : s_5.length ≤ 9223372036854775807 := by obtain ⟨h1, h2⟩ := cat_some h_s_5; rw [h2, List.length_append]; exact h1
      refine takeD2 (i := 16) (d := (some 31)) (s := (vS (Op.stringOp .add ⟨s_5.toArray⟩ ⟨([32] : List UInt8).toArray⟩))) (v := (.string ⟨s_6.toArray⟩)) hst (by kernel_rfl) (by kernel_rfl) (fun w' hw' => cat_runY 9 h_s_6 (w := w')) ?_
      have hl1044 : s_6.length ≤ 9223372036854775807 := by obtain ⟨h1, h2⟩ := cat_some h_s_6; rw [h2, List.length_append]; exact h1
      refine stD2 (i := 19) (by kernel_rfl) ⟨H.has, H.blk 0 rfl⟩ (callR (some 34) 35 #[.int .i64 x_.Time, .int .i64 10] Tryd.call35 (ref27_Digits_c H.has x_.Time 10 h_digits3) (by kernel_rfl) ?_)
      rintro _ w1045 ⟨rfl, hx1045, hl1045_0⟩
      replace H := H.ex hx1045
      replace H : St w noF m m [blkI g1 [.string ⟨x_.Path.toArray⟩, .int .i64 x_.Kind, .int .i64 x_.Mode, .int .i64 x_.Uid, .int .i64 x_.Gid, .int .i64 x_.Time, .int .i64 x_.Size, .slice A0_7 x_.Data.length c0_7, .string ⟨x_.Target.toArray⟩, .int .i64 x_.Dev, .slice A0_10 x_.Attrs.length c0_10] 44] w1045 := H
      refine stD2 (i := 20) (by kernel_rfl) ⟨H.has, H.blk 0 rfl⟩ (catS (some 35) 9 s_6 digits3 s_7 (by kernel_rfl) h_s_7 ?_)
      have hl1046 : s_7.length ≤ 9223372036854775807 := by obtain ⟨h1, h2⟩ := cat_some h_s_7; rw [h2, List.length_append]; exact h1
      refine segD2 hst [21] [0, 2, 7, 12, 17, 1, 3, 8, 13, 18, 4, 5, 6, 9, 10, 11, 14, 15, 16, 19, 20, 21] [(1, .pointer (some (⟨g1, 0, none⟩))), (3, .string ⟨s_7.toArray⟩)] (by kernel_rfl) ?_
      refine endD2 (by kernel_rfl) ⟨H.has, H.blk 0 rfl⟩ ?_
      refine leJ (s_7) ⟨(Option.some.inj hp1019).symm, H, hl1046⟩ (by kernel_rfl)
    · rw [hb1021]
      refine seg 2 [.le 0, .co [1, 1, 1]] [(1, .pointer (some (⟨g1, 0, none⟩))), (3, .string ⟨([c]).toArray⟩)] (by kernel_rfl) ?_
      refine leJ ([c]) ⟨(Option.some.inj hp1019).symm, (St.takeN 1 (H.pull 1 rfl)), hl3⟩ (by kernel_rfl)
  rintro s_ wj1019 ⟨hy1019, H, hl1020_0⟩
  rw [hy1019] at hf
  refine seg 4 [.op [1, 1, 1, 0, 0] 1, .co [1, 1, 1, 0, 1], .co [1, 1, 1, 1]] [(1, .pointer (some (⟨g1, 0, none⟩))), (3, .string ⟨s_.toArray⟩), (36, .pointer (some (⟨g1, 1, none⟩)))] (by kernel_rfl) ?_
  refine st (ldR (some 37) 3 (⟨g1, 1, none⟩) (.int .i64 x_.Kind) (by kernel_rfl) (by kernel_rfl) (H.cellB 0 rfl rfl) ?_)
  refine seg 2 [.co [1, 1, 1, 0, 1], .co [1, 1, 1, 1]] [(1, .pointer (some (⟨g1, 0, none⟩))), (3, .string ⟨s_.toArray⟩), (38, .bool (x_.Kind == 1))] (by kernel_rfl) ?_
  obtain ⟨y1051, hp1051, hf⟩ := bindE hf
  refine joinR 0 (fun (x : (List UInt8)) => [(1, .pointer (some (⟨g1, 0, none⟩))), (3, .string ⟨x.toArray⟩)]) (fun (x : (List UInt8)) (wj1051 : World) => y1051 = x ∧ St w noF m m [blkI g1 [.string ⟨x_.Path.toArray⟩, .int .i64 x_.Kind, .int .i64 x_.Mode, .int .i64 x_.Uid, .int .i64 x_.Gid, .int .i64 x_.Time, .int .i64 x_.Size, .slice A0_7 x_.Data.length c0_7, .string ⟨x_.Target.toArray⟩, .int .i64 x_.Dev, .slice A0_10 x_.Attrs.length c0_10] 44] wj1051 ∧ x.length ≤ 9223372036854775807) (by kernel_rfl) ?_ ?_
  · rcases condT hp1051 with ⟨hb1053, hp1051⟩ | ⟨hb1053, hp1051⟩
    · rw [hb1053]
      refine seg 3 [.op [1, 1, 1, 0, 1, 0] 1, .le 0, .co [1, 1, 1, 1]] [(1, .pointer (some (⟨g1, 0, none⟩))), (39, .string ⟨s_.toArray⟩)] (by kernel_rfl) ?_
      obtain ⟨s_8, h_s_8, hp1051⟩ := bindE hp1051
      refine st (catS (some 40) 9 s_ ([32] : List UInt8) s_8 (by kernel_rfl) h_s_8 ?_)
      have hl1054 : s_8.length ≤ 9223372036854775807 := by obtain ⟨h1, h2⟩ := cat_some h_s_8; rw [h2, List.length_append]; exact h1
      refine seg 1 [.op [1, 1, 1, 0, 1, 0] 3, .le 0, .co [1, 1, 1, 1]] [(1, .pointer (some (⟨g1, 0, none⟩))), (40, .string ⟨s_8.toArray⟩), (41, .pointer (some (⟨g1, 6, none⟩)))] (by kernel_rfl) ?_
      refine st (ldR (some 42) 3 (⟨g1, 6, none⟩) (.int .i64 x_.Size) (by kernel_rfl) (by kernel_rfl) (H.cellB 0 rfl rfl) ?_)
      obtain ⟨digits4, h_digits4, hp1051⟩ := bindE hp1051
      refine st (callR (some 43) 35 #[.int .i64 x_.Size, .int .i64 10] Tryd.call35 (ref27_Digits_c H.has x_.Size 10 h_digits4) (by kernel_rfl) ?_)
      rintro _ w1055 ⟨rfl, hx1055, hl1055_0⟩
      replace H := H.ex hx1055
      obtain ⟨s_9, h_s_9, hp1051⟩ := bindE hp1051
      refine st (catS (some 44) 9 s_8 digits4 s_9 (by kernel_rfl) h_s_9 ?_)
      have hl1056 : s_9.length ≤ 9223372036854775807 := by obtain ⟨h1, h2⟩ := cat_some h_s_9; rw [h2, List.length_append]; exact h1
      refine seg 2 [.le 0, .co [1, 1, 1, 1]] [(1, .pointer (some (⟨g1, 0, none⟩))), (3, .string ⟨s_9.toArray⟩)] (by kernel_rfl) ?_
      refine leJ (s_9) ⟨(Option.some.inj hp1051).symm, H, hl1056⟩ (by kernel_rfl)
    · rw [hb1053]
      refine seg 2 [.le 0, .co [1, 1, 1, 1]] [(1, .pointer (some (⟨g1, 0, none⟩))), (3, .string ⟨s_.toArray⟩)] (by kernel_rfl) ?_
      refine leJ (s_) ⟨(Option.some.inj hp1051).symm, H, hl1020_0⟩ (by kernel_rfl)
  rintro s_8 wj1051 ⟨hy1051, H, hl1052_0⟩
  rw [hy1051] at hf
  refine seg 2 [.co [1, 1, 1, 1, 0, 0], .co [1, 1, 1, 1, 0, 1], .co [1, 1, 1, 1, 1]] [(1, .pointer (some (⟨g1, 0, none⟩))), (3, .string ⟨s_8.toArray⟩)] (by kernel_rfl) ?_
  obtain ⟨y1058, hp1058, hf⟩ := ltE hf
  refine joinR 0 (fun (x : Bool) => [(1, .pointer (some (⟨g1, 0, none⟩))), (3, .string ⟨s_8.toArray⟩), (52, .bool x)]) (fun (x : Bool) (wj1058 : World) => y1058 = x ∧ St w noF m m [blkI g1 [.string ⟨x_.Path.toArray⟩, .int .i64 x_.Kind, .int .i64 x_.Mode, .int .i64 x_.Uid, .int .i64 x_.Gid, .int .i64 x_.Time, .int .i64 x_.Size, .slice A0_7 x_.Data.length c0_7, .string ⟨x_.Target.toArray⟩, .int .i64 x_.Dev, .slice A0_10 x_.Attrs.length c0_10] 44] wj1058) (by kernel_rfl) ?_ ?_
  · refine seg 2 [.op [1, 1, 1, 1, 0, 0] 1, .le 0, .co [1, 1, 1, 1, 0, 1], .co [1, 1, 1, 1, 1]] [(1, .pointer (some (⟨g1, 0, none⟩))), (3, .string ⟨s_8.toArray⟩), (45, .pointer (some (⟨g1, 1, none⟩)))] (by kernel_rfl) ?_
    refine st (ldR (some 46) 3 (⟨g1, 1, none⟩) (.int .i64 x_.Kind) (by kernel_rfl) (by kernel_rfl) (H.cellB 0 rfl rfl) ?_)
    refine seg 2 [.op [1, 1, 1, 1, 0, 0] 4, .le 0, .co [1, 1, 1, 1, 0, 1], .co [1, 1, 1, 1, 1]] [(1, .pointer (some (⟨g1, 0, none⟩))), (3, .string ⟨s_8.toArray⟩), (48, .bool (x_.Kind == 4))] (by kernel_rfl) ?_
    rcases condT hp1058 with ⟨hb1060, hp1058⟩ | ⟨hb1060, hp1058⟩
    · rw [hb1060]
      refine seg 5 [.le 0, .co [1, 1, 1, 1, 0, 1], .co [1, 1, 1, 1, 1]] [(1, .pointer (some (⟨g1, 0, none⟩))), (3, .string ⟨s_8.toArray⟩), (52, .bool true)] (by kernel_rfl) ?_
      refine leJ (true) ⟨hp1058.symm, H⟩ (by kernel_rfl)
    · rw [hb1060]
      refine seg 1 [.op [1, 1, 1, 1, 0, 0] 5, .le 0, .co [1, 1, 1, 1, 0, 1], .co [1, 1, 1, 1, 1]] [(1, .pointer (some (⟨g1, 0, none⟩))), (3, .string ⟨s_8.toArray⟩), (48, .bool false), (49, .pointer (some (⟨g1, 1, none⟩)))] (by kernel_rfl) ?_
      refine st (ldR (some 50) 3 (⟨g1, 1, none⟩) (.int .i64 x_.Kind) (by kernel_rfl) (by kernel_rfl) (H.cellB 0 rfl rfl) ?_)
      refine seg 3 [.le 0, .co [1, 1, 1, 1, 0, 1], .co [1, 1, 1, 1, 1]] [(1, .pointer (some (⟨g1, 0, none⟩))), (3, .string ⟨s_8.toArray⟩), (52, .bool (x_.Kind == 5))] (by kernel_rfl) ?_
      refine leJ ((x_.Kind == 5)) ⟨hp1058.symm, H⟩ (by kernel_rfl)
  rintro t wj1058 ⟨hy1058, H⟩
  rw [hy1058] at hf
  obtain ⟨y1065, hp1065, hf⟩ := bindE hf
  refine joinR 0 (fun (x : (List UInt8)) => [(1, .pointer (some (⟨g1, 0, none⟩))), (3, .string ⟨x.toArray⟩)]) (fun (x : (List UInt8)) (wj1065 : World) => y1065 = x ∧ St w noF m m [blkI g1 [.string ⟨x_.Path.toArray⟩, .int .i64 x_.Kind, .int .i64 x_.Mode, .int .i64 x_.Uid, .int .i64 x_.Gid, .int .i64 x_.Time, .int .i64 x_.Size, .slice A0_7 x_.Data.length c0_7, .string ⟨x_.Target.toArray⟩, .int .i64 x_.Dev, .slice A0_10 x_.Attrs.length c0_10] 44] wj1065 ∧ x.length ≤ 9223372036854775807) (by kernel_rfl) ?_ ?_
  · rcases condT hp1065 with ⟨hb1067, hp1065⟩ | ⟨hb1067, hp1065⟩
    · rw [hb1067]
      refine seg 3 [.op [1, 1, 1, 1, 0, 1, 0] 1, .le 0, .co [1, 1, 1, 1, 1]] [(1, .pointer (some (⟨g1, 0, none⟩))), (53, .string ⟨s_8.toArray⟩)] (by kernel_rfl) ?_
      obtain ⟨s_10, h_s_10, hp1065⟩ := bindE hp1065
      refine st (catS (some 54) 9 s_8 ([32] : List UInt8) s_10 (by kernel_rfl) h_s_10 ?_)
      have hl1068 : s_10.length ≤ 9223372036854775807 := by obtain ⟨h1, h2⟩ := cat_some h_s_10; rw [h2, List.length_append]; exact h1
      refine seg 1 [.op [1, 1, 1, 1, 0, 1, 0] 3, .le 0, .co [1, 1, 1, 1, 1]] [(1, .pointer (some (⟨g1, 0, none⟩))), (54, .string ⟨s_10.toArray⟩), (55, .pointer (some (⟨g1, 9, none⟩)))] (by kernel_rfl) ?_
      refine st (ldR (some 56) 3 (⟨g1, 9, none⟩) (.int .i64 x_.Dev) (by kernel_rfl) (by kernel_rfl) (H.cellB 0 rfl rfl) ?_)
      obtain ⟨digits5, h_digits5, hp1065⟩ := bindE hp1065
      refine st (callR (some 57) 35 #[.int .i64 x_.Dev, .int .i64 10] Tryd.call35 (ref27_Digits_c H.has x_.Dev 10 h_digits5) (by kernel_rfl) ?_)
      rintro _ w1069 ⟨rfl, hx1069, hl1069_0⟩
      replace H := H.ex hx1069
      replace H : St w noF m m [blkI g1 [.string ⟨x_.Path.toArray⟩, .int .i64 x_.Kind, .int .i64 x_.Mode, .int .i64 x_.Uid, .int .i64 x_.Gid, .int .i64 x_.Time, .int .i64 x_.Size, .slice A0_7 x_.Data.length c0_7, .string ⟨x_.Target.toArray⟩, .int .i64 x_.Dev, .slice A0_10 x_.Attrs.length c0_10] 44] w1069 := H
      obtain ⟨s_11, h_s_11, hp1065⟩ := bindE hp1065
      refine st (catS (some 58) 9 s_10 digits5 s_11 (by kernel_rfl) h_s_11 ?_)
      have hl1070 : s_11.length ≤ 9223372036854775807 := by obtain ⟨h1, h2⟩ := cat_some h_s_11; rw [h2, List.length_append]; exact h1
      refine seg 2 [.le 0, .co [1, 1, 1, 1, 1]] [(1, .pointer (some (⟨g1, 0, none⟩))), (3, .string ⟨s_11.toArray⟩)] (by kernel_rfl) ?_
      refine leJ (s_11) ⟨(Option.some.inj hp1065).symm, H, hl1070⟩ (by kernel_rfl)
    · rw [hb1067]
      refine seg 2 [.le 0, .co [1, 1, 1, 1, 1]] [(1, .pointer (some (⟨g1, 0, none⟩))), (3, .string ⟨s_8.toArray⟩)] (by kernel_rfl) ?_
      refine leJ (s_8) ⟨(Option.some.inj hp1065).symm, H, hl1052_0⟩ (by kernel_rfl)
  rintro s_10 wj1065 ⟨hy1065, H, hl1066_0⟩
  rw [hy1065] at hf
  refine seg 3 [.op [1, 1, 1, 1, 1, 0] 1, .co [1, 1, 1, 1, 1, 1]] [(1, .pointer (some (⟨g1, 0, none⟩))), (59, .string ⟨s_10.toArray⟩)] (by kernel_rfl) ?_
  obtain ⟨s_12, h_s_12, hf⟩ := bindE hf
  refine st (catS (some 60) 9 s_10 ([32] : List UInt8) s_12 (by kernel_rfl) h_s_12 ?_)
  have hl1071 : s_12.length ≤ 9223372036854775807 := by obtain ⟨h1, h2⟩ := cat_some h_s_12; rw [h2, List.length_append]; exact h1
  refine seg 1 [.op [1, 1, 1, 1, 1, 0] 3, .co [1, 1, 1, 1, 1, 1]] [(1, .pointer (some (⟨g1, 0, none⟩))), (60, .string ⟨s_12.toArray⟩), (61, .pointer (some (⟨g1, 0, none⟩)))] (by kernel_rfl) ?_
  refine st (ldR (some 62) 9 (⟨g1, 0, none⟩) (.string ⟨x_.Path.toArray⟩) (by kernel_rfl) (by kernel_rfl) (H.cellB 0 rfl rfl) ?_)
  obtain ⟨quote, h_quote, hf⟩ := bindE hf
  refine st (callR (some 63) 14 #[.string ⟨x_.Path.toArray⟩] Tryd.call14 (ref27_Quote_c H.has x_.Path l0_0 h_quote) (by kernel_rfl) ?_)
  rintro _ w1072 ⟨rfl, hx1072, hl1072_0⟩
  replace H := H.ex hx1072
  obtain ⟨s_13, h_s_13, hf⟩ := bindE hf
  refine st (catS (some 64) 9 s_12 quote s_13 (by kernel_rfl) h_s_13 ?_)
  have hl1073 : s_13.length ≤ 9223372036854775807 := by obtain ⟨h1, h2⟩ := cat_some h_s_13; rw [h2, List.length_append]; exact h1
  refine seg 4 [.co [1, 1, 1, 1, 1, 1, 0, 0], .co [1, 1, 1, 1, 1, 1, 0, 1], .co [1, 1, 1, 1, 1, 1, 1]] [(1, .pointer (some (⟨g1, 0, none⟩))), (3, .string ⟨s_13.toArray⟩)] (by kernel_rfl) ?_
  obtain ⟨y1075, hp1075, hf⟩ := ltE hf
  refine joinR 0 (fun (x : Bool) => [(1, .pointer (some (⟨g1, 0, none⟩))), (3, .string ⟨s_13.toArray⟩), (72, .bool x)]) (fun (x : Bool) (wj1075 : World) => y1075 = x ∧ St w noF m m [blkI g1 [.string ⟨x_.Path.toArray⟩, .int .i64 x_.Kind, .int .i64 x_.Mode, .int .i64 x_.Uid, .int .i64 x_.Gid, .int .i64 x_.Time, .int .i64 x_.Size, .slice A0_7 x_.Data.length c0_7, .string ⟨x_.Target.toArray⟩, .int .i64 x_.Dev, .slice A0_10 x_.Attrs.length c0_10] 44] wj1075) (by kernel_rfl) ?_ ?_
  · refine seg 2 [.op [1, 1, 1, 1, 1, 1, 0, 0] 1, .le 0, .co [1, 1, 1, 1, 1, 1, 0, 1], .co [1, 1, 1, 1, 1, 1, 1]] [(1, .pointer (some (⟨g1, 0, none⟩))), (3, .string ⟨s_13.toArray⟩), (65, .pointer (some (⟨g1, 1, none⟩)))] (by kernel_rfl) ?_
    refine st (ldR (some 66) 3 (⟨g1, 1, none⟩) (.int .i64 x_.Kind) (by kernel_rfl) (by kernel_rfl) (H.cellB 0 rfl rfl) ?_)
    refine seg 2 [.op [1, 1, 1, 1, 1, 1, 0, 0] 4, .le 0, .co [1, 1, 1, 1, 1, 1, 0, 1], .co [1, 1, 1, 1, 1, 1, 1]] [(1, .pointer (some (⟨g1, 0, none⟩))), (3, .string ⟨s_13.toArray⟩), (68, .bool (x_.Kind == 3))] (by kernel_rfl) ?_
    rcases condT hp1075 with ⟨hb1077, hp1075⟩ | ⟨hb1077, hp1075⟩
    · rw [hb1077]
      refine seg 5 [.le 0, .co [1, 1, 1, 1, 1, 1, 0, 1], .co [1, 1, 1, 1, 1, 1, 1]] [(1, .pointer (some (⟨g1, 0, none⟩))), (3, .string ⟨s_13.toArray⟩), (72, .bool true)] (by kernel_rfl) ?_
      refine leJ (true) ⟨hp1075.symm, H⟩ (by kernel_rfl)
    · rw [hb1077]
      refine seg 1 [.op [1, 1, 1, 1, 1, 1, 0, 0] 5, .le 0, .co [1, 1, 1, 1, 1, 1, 0, 1], .co [1, 1, 1, 1, 1, 1, 1]] [(1, .pointer (some (⟨g1, 0, none⟩))), (3, .string ⟨s_13.toArray⟩), (68, .bool false), (69, .pointer (some (⟨g1, 1, none⟩)))] (by kernel_rfl) ?_
      refine st (ldR (some 70) 3 (⟨g1, 1, none⟩) (.int .i64 x_.Kind) (by kernel_rfl) (by kernel_rfl) (H.cellB 0 rfl rfl) ?_)
      refine seg 3 [.le 0, .co [1, 1, 1, 1, 1, 1, 0, 1], .co [1, 1, 1, 1, 1, 1, 1]] [(1, .pointer (some (⟨g1, 0, none⟩))), (3, .string ⟨s_13.toArray⟩), (72, .bool (x_.Kind == 6))] (by kernel_rfl) ?_
      refine leJ ((x_.Kind == 6)) ⟨hp1075.symm, H⟩ (by kernel_rfl)
  rintro t1 wj1075 ⟨hy1075, H⟩
  rw [hy1075] at hf
  obtain ⟨y1082, hp1082, hf⟩ := bindE hf
  refine joinR 0 (fun (x : (List UInt8)) => [(1, .pointer (some (⟨g1, 0, none⟩))), (3, .string ⟨x.toArray⟩)]) (fun (x : (List UInt8)) (wj1082 : World) => y1082 = x ∧ St w noF m m [blkI g1 [.string ⟨x_.Path.toArray⟩, .int .i64 x_.Kind, .int .i64 x_.Mode, .int .i64 x_.Uid, .int .i64 x_.Gid, .int .i64 x_.Time, .int .i64 x_.Size, .slice A0_7 x_.Data.length c0_7, .string ⟨x_.Target.toArray⟩, .int .i64 x_.Dev, .slice A0_10 x_.Attrs.length c0_10] 44] wj1082 ∧ x.length ≤ 9223372036854775807) (by kernel_rfl) ?_ ?_
  · rcases condT hp1082 with ⟨hb1084, hp1082⟩ | ⟨hb1084, hp1082⟩
    · rw [hb1084]
      refine seg 3 [.op [1, 1, 1, 1, 1, 1, 0, 1, 0] 1, .le 0, .co [1, 1, 1, 1, 1, 1, 1]] [(1, .pointer (some (⟨g1, 0, none⟩))), (73, .string ⟨s_13.toArray⟩)] (by kernel_rfl) ?_
      obtain ⟨s_14, h_s_14, hp1082⟩ := bindE hp1082
      refine st (catS (some 74) 9 s_13 ([32] : List UInt8) s_14 (by kernel_rfl) h_s_14 ?_)
      have hl1085 : s_14.length ≤ 9223372036854775807 := by obtain ⟨h1, h2⟩ := cat_some h_s_14; rw [h2, List.length_append]; exact h1
      refine seg 1 [.op [1, 1, 1, 1, 1, 1, 0, 1, 0] 3, .le 0, .co [1, 1, 1, 1, 1, 1, 1]] [(1, .pointer (some (⟨g1, 0, none⟩))), (74, .string ⟨s_14.toArray⟩), (75, .pointer (some (⟨g1, 8, none⟩)))] (by kernel_rfl) ?_
      refine st (ldR (some 76) 9 (⟨g1, 8, none⟩) (.string ⟨x_.Target.toArray⟩) (by kernel_rfl) (by kernel_rfl) (H.cellB 0 rfl rfl) ?_)
      obtain ⟨quote1, h_quote1, hp1082⟩ := bindE hp1082
      refine st (callR (some 77) 14 #[.string ⟨x_.Target.toArray⟩] Tryd.call14 (ref27_Quote_c H.has x_.Target l0_8 h_quote1) (by kernel_rfl) ?_)
      rintro _ w1086 ⟨rfl, hx1086, hl1086_0⟩
      replace H := H.ex hx1086
      obtain ⟨s_15, h_s_15, hp1082⟩ := bindE hp1082
      refine st (catS (some 78) 9 s_14 quote1 s_15 (by kernel_rfl) h_s_15 ?_)
      have hl1087 : s_15.length ≤ 9223372036854775807 := by obtain ⟨h1, h2⟩ := cat_some h_s_15; rw [h2, List.length_append]; exact h1
      refine seg 2 [.le 0, .co [1, 1, 1, 1, 1, 1, 1]] [(1, .pointer (some (⟨g1, 0, none⟩))), (3, .string ⟨s_15.toArray⟩)] (by kernel_rfl) ?_
      refine leJ (s_15) ⟨(Option.some.inj hp1082).symm, H, hl1087⟩ (by kernel_rfl)
    · rw [hb1084]
      refine seg 2 [.le 0, .co [1, 1, 1, 1, 1, 1, 1]] [(1, .pointer (some (⟨g1, 0, none⟩))), (3, .string ⟨s_13.toArray⟩)] (by kernel_rfl) ?_
      refine leJ (s_13) ⟨(Option.some.inj hp1082).symm, H, hl1073⟩ (by kernel_rfl)
  rintro s_14 wj1082 ⟨hy1082, H, hl1083_0⟩
  rw [hy1082] at hf
  refine seg 3 [.op [1, 1, 1, 1, 1, 1, 1, 0] 1, .co [1, 1, 1, 1, 1, 1, 1, 1]] [(1, .pointer (some (⟨g1, 0, none⟩))), (79, .string ⟨s_14.toArray⟩)] (by kernel_rfl) ?_
  obtain ⟨s_16, h_s_16, hf⟩ := bindE hf
  refine st (catS (some 80) 9 s_14 ([10] : List UInt8) s_16 (by kernel_rfl) h_s_16 ?_)
  have hl1088 : s_16.length ≤ 9223372036854775807 := by obtain ⟨h1, h2⟩ := cat_some h_s_16; rw [h2, List.length_append]; exact h1
  refine seg 7 [.co [1, 1, 1, 1, 1, 1, 1, 1, 0, 1], .co [1, 1, 1, 1, 1, 1, 1, 1, 1]] [(1, .pointer (some (⟨g1, 0, none⟩))), (3, .string ⟨s_16.toArray⟩), (4, .int .i64 0)] (by kernel_rfl) ?_
  obtain ⟨y1150, hp1150, hf⟩ := bindE hf
  refine joinR 0 (fun (x : (List UInt8)) => [(1, .pointer (some (⟨g1, 0, none⟩))), (3, .string ⟨x.toArray⟩)]) (fun (x : (List UInt8)) (wj1150 : World) => y1150 = x ∧ St w noF m m [blkI g1 [.string ⟨x_.Path.toArray⟩, .int .i64 x_.Kind, .int .i64 x_.Mode, .int .i64 x_.Uid, .int .i64 x_.Gid, .int .i64 x_.Time, .int .i64 x_.Size, .slice A0_7 x_.Data.length c0_7, .string ⟨x_.Target.toArray⟩, .int .i64 x_.Dev, .slice A0_10 x_.Attrs.length c0_10] 44] wj1150 ∧ x.length ≤ 9223372036854775807) (by kernel_rfl) ?_ ?_
  · refine seg 1 [.co [1, 1, 1, 1, 1, 1, 1, 1, 0, 1, 0], .bl 0, .le 0, .co [1, 1, 1, 1, 1, 1, 1, 1, 1]] [(1, .pointer (some (⟨g1, 0, none⟩))), (3, .string ⟨s_16.toArray⟩), (4, .int .i64 0)] (by kernel_rfl) ?_
    obtain ⟨nn1197, hR1197⟩ := loopO_iff.1 hp1150
    refine loopR 1 (fun (x : Nat × (List UInt8) × Int) => [(1, .pointer (some (⟨g1, 0, none⟩))), (3, .string ⟨x.2.1.toArray⟩), (4, .int .i64 x.2.2)]) (fun (x : Nat × (List UInt8) × Int) (wl1197 : World) => iter (fun s => ref27_Lines_l1 x_ s.1 s.2) x.1 (x.2.1, x.2.2) = some y1150 ∧ St w noF m m [blkI g1 [.string ⟨x_.Path.toArray⟩, .int .i64 x_.Kind, .int .i64 x_.Mode, .int .i64 x_.Uid, .int .i64 x_.Gid, .int .i64 x_.Time, .int .i64 x_.Size, .slice A0_7 x_.Data.length c0_7, .string ⟨x_.Target.toArray⟩, .int .i64 x_.Dev, .slice A0_10 x_.Attrs.length c0_10] 44] wl1197 ∧ x.2.1.length ≤ 9223372036854775807) (fun (x : Nat × (List UInt8) × Int) => x.1) (nn1197, s_16, 0) (by kernel_rfl) (by kernel_rfl) (by kernel_rfl) ?_ ?_
    · exact ⟨hR1197, H, hl1088⟩
    rintro ⟨n1197, s_17, i⟩ wl1197 ⟨hR1197, H, hl1198_0⟩
    try dsimp only at hR1197
    try dsimp only at H
    try dsimp only at hl1198_0
    obtain ⟨nk1197, q1197, rfl, hb_1197, hnx1197, hfin1197⟩ := iterE hR1197
    replace hb_1197 : ref27_Lines_l1 x_ s_17 i = some q1197 := hb_1197
    unfold ref27_Lines_l1 at hb_1197
    refine seg 2 [.co [1, 1, 1, 1, 1, 1, 1, 1, 0, 1, 0, 0, 0, 0], .co [1, 1, 1, 1, 1, 1, 1, 1, 0, 1, 0, 0, 0, 1], .co [1, 1, 1, 1, 1, 1, 1, 1, 0, 1, 0, 0, 1], .le 1, .bl 0, .le 0, .co [1, 1, 1, 1, 1, 1, 1, 1, 1]] [(1, .pointer (some (⟨g1, 0, none⟩))), (3, .string ⟨s_17.toArray⟩), (4, .int .i64 i)] (by kernel_rfl) ?_
    obtain ⟨y1200, hp1200, hb_1197⟩ := ltE hb_1197
    refine joinR 2 (fun (x : Bool) => [(1, .pointer (some (⟨g1, 0, none⟩))), (3, .string ⟨s_17.toArray⟩), (4, .int .i64 i), (90, .bool x)]) (fun (x : Bool) (wj1200 : World) => y1200 = x ∧ St w noF m m [blkI g1 [.string ⟨x_.Path.toArray⟩, .int .i64 x_.Kind, .int .i64 x_.Mode, .int .i64 x_.Uid, .int .i64 x_.Gid, .int .i64 x_.Time, .int .i64 x_.Size, .slice A0_7 x_.Data.length c0_7, .string ⟨x_.Target.toArray⟩, .int .i64 x_.Dev, .slice A0_10 x_.Attrs.length c0_10] 44] wj1200) (by kernel_rfl) ?_ ?_
    · refine seg 3 [.op [1, 1, 1, 1, 1, 1, 1, 1, 0, 1, 0, 0, 0, 0] 2, .le 2, .co [1, 1, 1, 1, 1, 1, 1, 1, 0, 1, 0, 0, 0, 1], .co [1, 1, 1, 1, 1, 1, 1, 1, 0, 1, 0, 0, 1], .le 1, .bl 0, .le 0, .co [1, 1, 1, 1, 1, 1, 1, 1, 1]] [(1, .pointer (some (⟨g1, 0, none⟩))), (3, .string ⟨s_17.toArray⟩), (4, .int .i64 i), (81, .int .i64 i), (82, .pointer (some (⟨g1, 7, none⟩)))] (by kernel_rfl) ?_
      refine st (ldR (some 83) 25 (⟨g1, 7, none⟩) (.slice A0_7 x_.Data.length c0_7) (by kernel_rfl) (by kernel_rfl) (H.cellB 0 rfl rfl) ?_)
      refine seg 3 [.op [1, 1, 1, 1, 1, 1, 1, 1, 0, 1, 0, 0, 0, 0] 6, .le 2, .co [1, 1, 1, 1, 1, 1, 1, 1, 0, 1, 0, 0, 0, 1], .co [1, 1, 1, 1, 1, 1, 1, 1, 0, 1, 0, 0, 1], .le 1, .bl 0, .le 0, .co [1, 1, 1, 1, 1, 1, 1, 1, 1]] [(1, .pointer (some (⟨g1, 0, none⟩))), (3, .string ⟨s_17.toArray⟩), (4, .int .i64 i), (86, .bool (decide (i < (x_.Data.length : Int))))] (by kernel_rfl) ?_
      rcases condT hp1200 with ⟨hb1202, hp1200⟩ | ⟨hb1202, hp1200⟩
      · rw [hb1202]
        have p1202 := of_decide_eq_true hb1202
        refine seg 1 [.op [1, 1, 1, 1, 1, 1, 1, 1, 0, 1, 0, 0, 0, 0] 7, .le 2, .co [1, 1, 1, 1, 1, 1, 1, 1, 0, 1, 0, 0, 0, 1], .co [1, 1, 1, 1, 1, 1, 1, 1, 0, 1, 0, 0, 1], .le 1, .bl 0, .le 0, .co [1, 1, 1, 1, 1, 1, 1, 1, 1]] [(1, .pointer (some (⟨g1, 0, none⟩))), (3, .string ⟨s_17.toArray⟩), (4, .int .i64 i), (86, .bool true), (87, .pointer (some (⟨g1, 1, none⟩)))] (by kernel_rfl) ?_
        refine st (ldR (some 88) 3 (⟨g1, 1, none⟩) (.int .i64 x_.Kind) (by kernel_rfl) (by kernel_rfl) (H.cellB 0 rfl rfl) ?_)
        refine seg 3 [.le 2, .co [1, 1, 1, 1, 1, 1, 1, 1, 0, 1, 0, 0, 0, 1], .co [1, 1, 1, 1, 1, 1, 1, 1, 0, 1, 0, 0, 1], .le 1, .bl 0, .le 0, .co [1, 1, 1, 1, 1, 1, 1, 1, 1]] [(1, .pointer (some (⟨g1, 0, none⟩))), (3, .string ⟨s_17.toArray⟩), (4, .int .i64 i), (90, .bool (x_.Kind == 1))] (by kernel_rfl) ?_
        refine leJ ((x_.Kind == 1)) ⟨hp1200.symm, H⟩ (by kernel_rfl)
      · rw [hb1202]
        have p1202 := of_decide_eq_false hb1202
        refine seg 5 [.le 2, .co [1, 1, 1, 1, 1, 1, 1, 1, 0, 1, 0, 0, 0, 1], .co [1, 1, 1, 1, 1, 1, 1, 1, 0, 1, 0, 0, 1], .le 1, .bl 0, .le 0, .co [1, 1, 1, 1, 1, 1, 1, 1, 1]] [(1, .pointer (some (⟨g1, 0, none⟩))), (3, .string ⟨s_17.toArray⟩), (4, .int .i64 i), (90, .bool false)] (by kernel_rfl) ?_
        refine leJ (false) ⟨hp1200.symm, H⟩ (by kernel_rfl)
    rintro t2 wj1200 ⟨hy1200, H⟩
    rw [hy1200] at hb_1197
    rcases condT hb_1197 with ⟨hb1203, hb_1197⟩ | ⟨hb1203, hb_1197⟩
    · rw [hb1203]
      refine seg 15 [.op [1, 1, 1, 1, 1, 1, 1, 1, 0, 1, 0, 0, 1, 0, 0, 1, 0, 0] 2, .co [1, 1, 1, 1, 1, 1, 1, 1, 0, 1, 0, 0, 1, 0, 0, 1, 0, 1], .co [1, 1, 1, 1, 1, 1, 1, 1, 0, 1, 0, 0, 1, 0, 0, 1, 1], .bl 1, .co [1, 1, 1, 1, 1, 1, 1, 1, 0, 1, 0, 0, 1, 1], .le 1, .bl 0, .le 0, .co [1, 1, 1, 1, 1, 1, 1, 1, 1]] [(1, .pointer (some (⟨g1, 0, none⟩))), (3, .string ⟨s_17.toArray⟩), (4, .int .i64 i), (5, .int .i64 (IntKind.i64.wrap (i + 32))), (95, .int .i64 (IntKind.i64.wrap (i + 32))), (96, .pointer (some (⟨g1, 7, none⟩)))] (by kernel_rfl) ?_
      refine st (ldR (some 97) 25 (⟨g1, 7, none⟩) (.slice A0_7 x_.Data.length c0_7) (by kernel_rfl) (by kernel_rfl) (H.cellB 0 rfl rfl) ?_)
      refine seg 3 [.co [1, 1, 1, 1, 1, 1, 1, 1, 0, 1, 0, 0, 1, 0, 0, 1, 0, 1], .co [1, 1, 1, 1, 1, 1, 1, 1, 0, 1, 0, 0, 1, 0, 0, 1, 1], .bl 1, .co [1, 1, 1, 1, 1, 1, 1, 1, 0, 1, 0, 0, 1, 1], .le 1, .bl 0, .le 0, .co [1, 1, 1, 1, 1, 1, 1, 1, 1]] [(1, .pointer (some (⟨g1, 0, none⟩))), (3, .string ⟨s_17.toArray⟩), (4, .int .i64 i), (5, .int .i64 (IntKind.i64.wrap (i + 32))), (99, .bool (decide ((IntKind.i64.wrap (i + 32)) > (x_.Data.length : Int))))] (by kernel_rfl) ?_
      rcases condT hb_1197 with ⟨hb1204, hb_1197⟩ | ⟨hb1204, hb_1197⟩
      · rw [hb1204]
        have p1204 := of_decide_eq_true hb1204
        refine seg 3 [.op [1, 1, 1, 1, 1, 1, 1, 1, 0, 1, 0, 0, 1, 0, 0, 1, 0, 1, 0] 1, .co [1, 1, 1, 1, 1, 1, 1, 1, 0, 1, 0, 0, 1, 0, 0, 1, 1], .bl 1, .co [1, 1, 1, 1, 1, 1, 1, 1, 0, 1, 0, 0, 1, 1], .le 1, .bl 0, .le 0, .co [1, 1, 1, 1, 1, 1, 1, 1, 1]] [(1, .pointer (some (⟨g1, 0, none⟩))), (3, .string ⟨s_17.toArray⟩), (4, .int .i64 i), (100, .pointer (some (⟨g1, 7, none⟩)))] (by kernel_rfl) ?_
        refine st (ldR (some 101) 25 (⟨g1, 7, none⟩) (.slice A0_7 x_.Data.length c0_7) (by kernel_rfl) (by kernel_rfl) (H.cellB 0 rfl rfl) ?_)
        refine seg 5 [.op [1, 1, 1, 1, 1, 1, 1, 1, 0, 1, 0, 0, 1, 0, 0, 1, 1] 1, .bl 1, .co [1, 1, 1, 1, 1, 1, 1, 1, 0, 1, 0, 0, 1, 1], .le 1, .bl 0, .le 0, .co [1, 1, 1, 1, 1, 1, 1, 1, 1]] [(1, .pointer (some (⟨g1, 0, none⟩))), (4, .int .i64 i), (5, .int .i64 (x_.Data.length : Int)), (103, .string ⟨s_17.toArray⟩)] (by kernel_rfl) ?_
        obtain ⟨s_18, h_s_18, hb_1197⟩ := bindE hb_1197
        refine st (catS (some 104) 9 s_17 ([61, 32] : List UInt8) s_18 (by kernel_rfl) h_s_18 ?_)
        have hl1205 : s_18.length ≤ 9223372036854775807 := by obtain ⟨h1, h2⟩ := cat_some h_s_18; rw [h2, List.length_append]; exact h1
        refine seg 1 [.op [1, 1, 1, 1, 1, 1, 1, 1, 0, 1, 0, 0, 1, 0, 0, 1, 1] 3, .bl 1, .co [1, 1, 1, 1, 1, 1, 1, 1, 0, 1, 0, 0, 1, 1], .le 1, .bl 0, .le 0, .co [1, 1, 1, 1, 1, 1, 1, 1, 1]] [(1, .pointer (some (⟨g1, 0, none⟩))), (4, .int .i64 i), (5, .int .i64 (x_.Data.length : Int)), (104, .string ⟨s_18.toArray⟩), (105, .pointer (some (⟨g1, 7, none⟩)))] (by kernel_rfl) ?_
        refine st (ldR (some 106) 25 (⟨g1, 7, none⟩) (.slice A0_7 x_.Data.length c0_7) (by kernel_rfl) (by kernel_rfl) (H.cellB 0 rfl rfl) ?_)
        refine seg 2 [.op [1, 1, 1, 1, 1, 1, 1, 1, 0, 1, 0, 0, 1, 0, 0, 1, 1] 6, .bl 1, .co [1, 1, 1, 1, 1, 1, 1, 1, 0, 1, 0, 0, 1, 1], .le 1, .bl 0, .le 0, .co [1, 1, 1, 1, 1, 1, 1, 1, 1]] [(1, .pointer (some (⟨g1, 0, none⟩))), (4, .int .i64 i), (104, .string ⟨s_18.toArray⟩), (106, .slice A0_7 x_.Data.length c0_7), (107, .int .i64 i), (108, .int .i64 (x_.Data.length : Int))] (by kernel_rfl) ?_
        obtain ⟨y_, h_y_, hb_1197⟩ := bindE hb_1197
        refine st (sliS (r := rU8) (some 109) 25 5 A0_7 c0_7 x_.Data y_ (some (.int .i64 i)) (some (.int .i64 (x_.Data.length : Int))) i (x_.Data.length : Int) s0_7 (by kernel_rfl) (by kernel_rfl) (.inr ⟨_, rfl⟩) (.inr ⟨_, rfl⟩) h_y_ ?_)
        intro A1206 c1206 hs1206
        obtain ⟨hex, h_hex, hb_1197⟩ := bindE hb_1197
        refine st (callR (some 110) 36 #[.slice A1206 y_.length c1206] Tryd.call36 (ref27_hex_c H.has y_ A1206 c1206 hs1206 h_hex) (by kernel_rfl) ?_)
        rintro _ w1207 ⟨rfl, hx1207, hl1207_0⟩
        replace H := H.ex hx1207
        obtain ⟨s_19, h_s_19, hb_1197⟩ := bindE hb_1197
        refine st (catS (some 111) 9 s_18 hex s_19 (by kernel_rfl) h_s_19 ?_)
        have hl1208 : s_19.length ≤ 9223372036854775807 := by obtain ⟨h1, h2⟩ := cat_some h_s_19; rw [h2, List.length_append]; exact h1
        obtain ⟨s_20, h_s_20, hb_1197⟩ := bindE hb_1197
        refine st (catS (some 112) 9 s_19 ([10] : List UInt8) s_20 (by kernel_rfl) h_s_20 ?_)
        have hl1209 : s_20.length ≤ 9223372036854775807 := by obtain ⟨h1, h2⟩ := cat_some h_s_20; rw [h2, List.length_append]; exact h1
        refine seg 8 [.le 1, .bl 0, .le 0, .co [1, 1, 1, 1, 1, 1, 1, 1, 1]] [(1, .pointer (some (⟨g1, 0, none⟩))), (3, .string ⟨s_20.toArray⟩), (4, .int .i64 (IntKind.i64.wrap (i + 32)))] (by kernel_rfl) ?_
        refine leR (nk1197, s_20, (IntKind.i64.wrap (i + 32))) (Nat.lt_succ_self _) ⟨hnx1197 _ (Option.some.inj hb_1197).symm, H, hl1209⟩ (by kernel_rfl)
      · rw [hb1204]
        have p1204 := of_decide_eq_false hb1204
        refine seg 4 [.op [1, 1, 1, 1, 1, 1, 1, 1, 0, 1, 0, 0, 1, 0, 0, 1, 1] 1, .bl 1, .co [1, 1, 1, 1, 1, 1, 1, 1, 0, 1, 0, 0, 1, 1], .le 1, .bl 0, .le 0, .co [1, 1, 1, 1, 1, 1, 1, 1, 1]] [(1, .pointer (some (⟨g1, 0, none⟩))), (4, .int .i64 i), (5, .int .i64 (IntKind.i64.wrap (i + 32))), (103, .string ⟨s_17.toArray⟩)] (by kernel_rfl) ?_
        obtain ⟨s_21, h_s_21, hb_1197⟩ := bindE hb_1197
        refine st (catS (some 104) 9 s_17 ([61, 32] : List UInt8) s_21 (by kernel_rfl) h_s_21 ?_)
        have hl1210 : s_21.length ≤ 9223372036854775807 := by obtain ⟨h1, h2⟩ := cat_some h_s_21; rw [h2, List.length_append]; exact h1
        refine seg 1 [.op [1, 1, 1, 1, 1, 1, 1, 1, 0, 1, 0, 0, 1, 0, 0, 1, 1] 3, .bl 1, .co [1, 1, 1, 1, 1, 1, 1, 1, 0, 1, 0, 0, 1, 1], .le 1, .bl 0, .le 0, .co [1, 1, 1, 1, 1, 1, 1, 1, 1]] [(1, .pointer (some (⟨g1, 0, none⟩))), (4, .int .i64 i), (5, .int .i64 (IntKind.i64.wrap (i + 32))), (104, .string ⟨s_21.toArray⟩), (105, .pointer (some (⟨g1, 7, none⟩)))] (by kernel_rfl) ?_
        refine st (ldR (some 106) 25 (⟨g1, 7, none⟩) (.slice A0_7 x_.Data.length c0_7) (by kernel_rfl) (by kernel_rfl) (H.cellB 0 rfl rfl) ?_)
        refine seg 2 [.op [1, 1, 1, 1, 1, 1, 1, 1, 0, 1, 0, 0, 1, 0, 0, 1, 1] 6, .bl 1, .co [1, 1, 1, 1, 1, 1, 1, 1, 0, 1, 0, 0, 1, 1], .le 1, .bl 0, .le 0, .co [1, 1, 1, 1, 1, 1, 1, 1, 1]] [(1, .pointer (some (⟨g1, 0, none⟩))), (4, .int .i64 i), (104, .string ⟨s_21.toArray⟩), (106, .slice A0_7 x_.Data.length c0_7), (107, .int .i64 i), (108, .int .i64 (IntKind.i64.wrap (i + 32)))] (by kernel_rfl) ?_
        obtain ⟨y_1, h_y_1, hb_1197⟩ := bindE hb_1197
        refine st (sliS (r := rU8) (some 109) 25 5 A0_7 c0_7 x_.Data y_1 (some (.int .i64 i)) (some (.int .i64 (IntKind.i64.wrap (i + 32)))) i (IntKind.i64.wrap (i + 32)) s0_7 (by kernel_rfl) (by kernel_rfl) (.inr ⟨_, rfl⟩) (.inr ⟨_, rfl⟩) h_y_1 ?_)
        intro A1211 c1211 hs1211
        obtain ⟨hex1, h_hex1, hb_1197⟩ := bindE hb_1197
        refine st (callR (some 110) 36 #[.slice A1211 y_1.length c1211] Tryd.call36 (ref27_hex_c H.has y_1 A1211 c1211 hs1211 h_hex1) (by kernel_rfl) ?_)
        rintro _ w1212 ⟨rfl, hx1212, hl1212_0⟩
        replace H := H.ex hx1212
        obtain ⟨s_22, h_s_22, hb_1197⟩ := bindE hb_1197
        refine st (catS (some 111) 9 s_21 hex1 s_22 (by kernel_rfl) h_s_22 ?_)
        have hl1213 : s_22.length ≤ 9223372036854775807 := by obtain ⟨h1, h2⟩ := cat_some h_s_22; rw [h2, List.length_append]; exact h1
        obtain ⟨s_23, h_s_23, hb_1197⟩ := bindE hb_1197
        refine st (catS (some 112) 9 s_22 ([10] : List UInt8) s_23 (by kernel_rfl) h_s_23 ?_)
        have hl1214 : s_23.length ≤ 9223372036854775807 := by obtain ⟨h1, h2⟩ := cat_some h_s_23; rw [h2, List.length_append]; exact h1
        refine seg 8 [.le 1, .bl 0, .le 0, .co [1, 1, 1, 1, 1, 1, 1, 1, 1]] [(1, .pointer (some (⟨g1, 0, none⟩))), (3, .string ⟨s_23.toArray⟩), (4, .int .i64 (IntKind.i64.wrap (i + 32)))] (by kernel_rfl) ?_
        refine leR (nk1197, s_23, (IntKind.i64.wrap (i + 32))) (Nat.lt_succ_self _) ⟨hnx1197 _ (Option.some.inj hb_1197).symm, H, hl1214⟩ (by kernel_rfl)
    · rw [hb1203]
      refine seg 2 [.le 0, .co [1, 1, 1, 1, 1, 1, 1, 1, 1]] [(1, .pointer (some (⟨g1, 0, none⟩))), (3, .string ⟨s_17.toArray⟩)] (by kernel_rfl) ?_
      refine leR_up (k' := []) (by rfl) ?_
      refine leJ (s_17) ⟨(hfin1197 _ (Option.some.inj hb_1197).symm).symm, H, hl1198_0⟩ (by kernel_rfl)
  rintro s_17 wj1150 ⟨hy1150, H, hl1151_0⟩
  rw [hy1150] at hf
  refine seg 5 [.co [1, 1, 1, 1, 1, 1, 1, 1, 1, 0, 1], .co [1, 1, 1, 1, 1, 1, 1, 1, 1, 1]] [(1, .pointer (some (⟨g1, 0, none⟩))), (3, .string ⟨s_17.toArray⟩), (6, .int .i64 0)] (by kernel_rfl) ?_
  obtain ⟨y1276, hp1276, hf⟩ := bindE hf
  refine joinR 0 (fun (x : (List UInt8)) => [(3, .string ⟨x.toArray⟩)]) (fun (x : (List UInt8)) (wj1276 : World) => y1276 = x ∧ St w noF m m [] wj1276 ∧ x.length ≤ 9223372036854775807) (by kernel_rfl) ?_ ?_
  · refine seg 1 [.co [1, 1, 1, 1, 1, 1, 1, 1, 1, 0, 1, 0], .bl 2, .le 0, .co [1, 1, 1, 1, 1, 1, 1, 1, 1, 1]] [(1, .pointer (some (⟨g1, 0, none⟩))), (3, .string ⟨s_17.toArray⟩), (6, .int .i64 0)] (by kernel_rfl) ?_
    obtain ⟨nn1323, hR1323⟩ := loopO_iff.1 hp1276
    refine loopR 1 (fun (x : Nat × (List UInt8) × Int) => [(1, .pointer (some (⟨g1, 0, none⟩))), (3, .string ⟨x.2.1.toArray⟩), (6, .int .i64 x.2.2)]) (fun (x : Nat × (List UInt8) × Int) (wl1323 : World) => iter (fun s => ref27_Lines_l2 x_ s.1 s.2) x.1 (x.2.1, x.2.2) = some y1276 ∧ St w noF m m [blkI g1 [.string ⟨x_.Path.toArray⟩, .int .i64 x_.Kind, .int .i64 x_.Mode, .int .i64 x_.Uid, .int .i64 x_.Gid, .int .i64 x_.Time, .int .i64 x_.Size, .slice A0_7 x_.Data.length c0_7, .string ⟨x_.Target.toArray⟩, .int .i64 x_.Dev, .slice A0_10 x_.Attrs.length c0_10] 44] wl1323 ∧ x.2.1.length ≤ 9223372036854775807) (fun (x : Nat × (List UInt8) × Int) => x.1) (nn1323, s_17, 0) (by kernel_rfl) (by kernel_rfl) (by kernel_rfl) ?_ ?_
    · exact ⟨hR1323, H, hl1151_0⟩
    rintro ⟨n1323, s_24, i1⟩ wl1323 ⟨hR1323, H, hl1324_0⟩
    try dsimp only at hR1323
    try dsimp only at H
    try dsimp only at hl1324_0
    obtain ⟨nk1323, q1323, rfl, hb_1323, hnx1323, hfin1323⟩ := iterE hR1323
    replace hb_1323 : ref27_Lines_l2 x_ s_24 i1 = some q1323 := hb_1323
    unfold ref27_Lines_l2 at hb_1323
    refine seg 2 [.co [1, 1, 1, 1, 1, 1, 1, 1, 1, 0, 1, 0, 0, 0, 0], .co [1, 1, 1, 1, 1, 1, 1, 1, 1, 0, 1, 0, 0, 0, 1], .co [1, 1, 1, 1, 1, 1, 1, 1, 1, 0, 1, 0, 0, 1], .le 1, .bl 2, .le 0, .co [1, 1, 1, 1, 1, 1, 1, 1, 1, 1]] [(1, .pointer (some (⟨g1, 0, none⟩))), (3, .string ⟨s_24.toArray⟩), (6, .int .i64 i1)] (by kernel_rfl) ?_
    obtain ⟨y1326, hp1326, hb_1323⟩ := ltE hb_1323
    refine joinR 2 (fun (x : Bool) => [(1, .pointer (some (⟨g1, 0, none⟩))), (3, .string ⟨s_24.toArray⟩), (6, .int .i64 i1), (122, .bool x)]) (fun (x : Bool) (wj1326 : World) => y1326 = x ∧ St w noF m m [blkI g1 [.string ⟨x_.Path.toArray⟩, .int .i64 x_.Kind, .int .i64 x_.Mode, .int .i64 x_.Uid, .int .i64 x_.Gid, .int .i64 x_.Time, .int .i64 x_.Size, .slice A0_7 x_.Data.length c0_7, .string ⟨x_.Target.toArray⟩, .int .i64 x_.Dev, .slice A0_10 x_.Attrs.length c0_10] 44] wj1326) (by kernel_rfl) ?_ ?_
    · refine seg 3 [.op [1, 1, 1, 1, 1, 1, 1, 1, 1, 0, 1, 0, 0, 0, 0] 2, .le 2, .co [1, 1, 1, 1, 1, 1, 1, 1, 1, 0, 1, 0, 0, 0, 1], .co [1, 1, 1, 1, 1, 1, 1, 1, 1, 0, 1, 0, 0, 1], .le 1, .bl 2, .le 0, .co [1, 1, 1, 1, 1, 1, 1, 1, 1, 1]] [(1, .pointer (some (⟨g1, 0, none⟩))), (3, .string ⟨s_24.toArray⟩), (6, .int .i64 i1), (113, .int .i64 i1), (114, .pointer (some (⟨g1, 10, none⟩)))] (by kernel_rfl) ?_
      refine st (ldR (some 115) 42 (⟨g1, 10, none⟩) (.slice A0_10 x_.Attrs.length c0_10) (by kernel_rfl) (by kernel_rfl) (H.cellB 0 rfl rfl) ?_)
      refine seg 3 [.op [1, 1, 1, 1, 1, 1, 1, 1, 1, 0, 1, 0, 0, 0, 0] 6, .le 2, .co [1, 1, 1, 1, 1, 1, 1, 1, 1, 0, 1, 0, 0, 0, 1], .co [1, 1, 1, 1, 1, 1, 1, 1, 1, 0, 1, 0, 0, 1], .le 1, .bl 2, .le 0, .co [1, 1, 1, 1, 1, 1, 1, 1, 1, 1]] [(1, .pointer (some (⟨g1, 0, none⟩))), (3, .string ⟨s_24.toArray⟩), (6, .int .i64 i1), (118, .bool (decide (i1 < (x_.Attrs.length : Int))))] (by kernel_rfl) ?_
      rcases condT hp1326 with ⟨hb1328, hp1326⟩ | ⟨hb1328, hp1326⟩
      · rw [hb1328]
        have p1328 := of_decide_eq_true hb1328
        refine seg 1 [.op [1, 1, 1, 1, 1, 1, 1, 1, 1, 0, 1, 0, 0, 0, 0] 7, .le 2, .co [1, 1, 1, 1, 1, 1, 1, 1, 1, 0, 1, 0, 0, 0, 1], .co [1, 1, 1, 1, 1, 1, 1, 1, 1, 0, 1, 0, 0, 1], .le 1, .bl 2, .le 0, .co [1, 1, 1, 1, 1, 1, 1, 1, 1, 1]] [(1, .pointer (some (⟨g1, 0, none⟩))), (3, .string ⟨s_24.toArray⟩), (6, .int .i64 i1), (118, .bool true), (119, .pointer (some (⟨g1, 1, none⟩)))] (by kernel_rfl) ?_
        refine st (ldR (some 120) 3 (⟨g1, 1, none⟩) (.int .i64 x_.Kind) (by kernel_rfl) (by kernel_rfl) (H.cellB 0 rfl rfl) ?_)
        refine seg 3 [.le 2, .co [1, 1, 1, 1, 1, 1, 1, 1, 1, 0, 1, 0, 0, 0, 1], .co [1, 1, 1, 1, 1, 1, 1, 1, 1, 0, 1, 0, 0, 1], .le 1, .bl 2, .le 0, .co [1, 1, 1, 1, 1, 1, 1, 1, 1, 1]] [(1, .pointer (some (⟨g1, 0, none⟩))), (3, .string ⟨s_24.toArray⟩), (6, .int .i64 i1), (122, .bool (x_.Kind != 6))] (by kernel_rfl) ?_
        refine leJ ((x_.Kind != 6)) ⟨hp1326.symm, H⟩ (by kernel_rfl)
      · rw [hb1328]
        have p1328 := of_decide_eq_false hb1328
        refine seg 5 [.le 2, .co [1, 1, 1, 1, 1, 1, 1, 1, 1, 0, 1, 0, 0, 0, 1], .co [1, 1, 1, 1, 1, 1, 1, 1, 1, 0, 1, 0, 0, 1], .le 1, .bl 2, .le 0, .co [1, 1, 1, 1, 1, 1, 1, 1, 1, 1]] [(1, .pointer (some (⟨g1, 0, none⟩))), (3, .string ⟨s_24.toArray⟩), (6, .int .i64 i1), (122, .bool false)] (by kernel_rfl) ?_
        refine leJ (false) ⟨hp1326.symm, H⟩ (by kernel_rfl)
    rintro t3 wj1326 ⟨hy1326, H⟩
    rw [hy1326] at hb_1323
    rcases condT hb_1323 with ⟨hb1329, hb_1323⟩ | ⟨hb1329, hb_1323⟩
    · rw [hb1329]
      refine seg 7 [.op [1, 1, 1, 1, 1, 1, 1, 1, 1, 0, 1, 0, 0, 1, 0, 0, 0] 1, .co [1, 1, 1, 1, 1, 1, 1, 1, 1, 0, 1, 0, 0, 1, 0, 0, 1], .bl 3, .co [1, 1, 1, 1, 1, 1, 1, 1, 1, 0, 1, 0, 0, 1, 1], .le 1, .bl 2, .le 0, .co [1, 1, 1, 1, 1, 1, 1, 1, 1, 1]] [(1, .pointer (some (⟨g1, 0, none⟩))), (6, .int .i64 i1), (125, .string ⟨s_24.toArray⟩)] (by kernel_rfl) ?_
      obtain ⟨s_25, h_s_25, hb_1323⟩ := bindE hb_1323
      refine st (catS (some 126) 9 s_24 ([64, 32] : List UInt8) s_25 (by kernel_rfl) h_s_25 ?_)
      have hl1330 : s_25.length ≤ 9223372036854775807 := by obtain ⟨h1, h2⟩ := cat_some h_s_25; rw [h2, List.length_append]; exact h1
      refine seg 1 [.op [1, 1, 1, 1, 1, 1, 1, 1, 1, 0, 1, 0, 0, 1, 0, 0, 0] 3, .co [1, 1, 1, 1, 1, 1, 1, 1, 1, 0, 1, 0, 0, 1, 0, 0, 1], .bl 3, .co [1, 1, 1, 1, 1, 1, 1, 1, 1, 0, 1, 0, 0, 1, 1], .le 1, .bl 2, .le 0, .co [1, 1, 1, 1, 1, 1, 1, 1, 1, 1]] [(1, .pointer (some (⟨g1, 0, none⟩))), (6, .int .i64 i1), (126, .string ⟨s_25.toArray⟩), (127, .pointer (some (⟨g1, 10, none⟩)))] (by kernel_rfl) ?_
      refine st (ldR (some 128) 42 (⟨g1, 10, none⟩) (.slice A0_10 x_.Attrs.length c0_10) (by kernel_rfl) (by kernel_rfl) (H.cellB 0 rfl rfl) ?_)
      refine seg 1 [.op [1, 1, 1, 1, 1, 1, 1, 1, 1, 0, 1, 0, 0, 1, 0, 0, 0] 5, .co [1, 1, 1, 1, 1, 1, 1, 1, 1, 0, 1, 0, 0, 1, 0, 0, 1], .bl 3, .co [1, 1, 1, 1, 1, 1, 1, 1, 1, 0, 1, 0, 0, 1, 1], .le 1, .bl 2, .le 0, .co [1, 1, 1, 1, 1, 1, 1, 1, 1, 1]] [(1, .pointer (some (⟨g1, 0, none⟩))), (6, .int .i64 i1), (126, .string ⟨s_25.toArray⟩), (128, .slice A0_10 x_.Attrs.length c0_10), (129, .int .i64 i1)] (by kernel_rfl) ?_
      obtain ⟨x_1, h_x_1, hb_1323⟩ := bindE hb_1323
      obtain ⟨i01331, i11331, ix1331⟩ := idx_some h_x_1
      obtain ⟨ad1332, _, ea1332, ⟨A1332_1, c1332_1, rfl, hl1332_0, hs1332_1⟩, hc1332⟩ := s0_10.at_ ix1331 (by decide)
      refine st (idxS (some 130) 42 46 2 A0_10 ad1332 x_.Attrs.length c0_10 .i64 i1 ea1332 (by kernel_rfl) (by kernel_rfl) i01331 i11331 ?_)
      refine seg 1 [.op [1, 1, 1, 1, 1, 1, 1, 1, 1, 0, 1, 0, 0, 1, 0, 0, 0] 7, .co [1, 1, 1, 1, 1, 1, 1, 1, 1, 0, 1, 0, 0, 1, 0, 0, 1], .bl 3, .co [1, 1, 1, 1, 1, 1, 1, 1, 1, 0, 1, 0, 0, 1, 1], .le 1, .bl 2, .le 0, .co [1, 1, 1, 1, 1, 1, 1, 1, 1, 1]] [(1, .pointer (some (⟨g1, 0, none⟩))), (6, .int .i64 i1), (126, .string ⟨s_25.toArray⟩), (131, .pointer (some (ad1332.add (i1.toNat * 2))))] (by kernel_rfl) ?_
      refine st (ldR (some 132) 9 (ad1332.add (i1.toNat * 2)) (.string ⟨x_1.Name.toArray⟩) (by kernel_rfl) (by kernel_rfl) (H.cellI (mc0 (hc1332 0 _ rfl))) ?_)
      obtain ⟨quote2, h_quote2, hb_1323⟩ := bindE hb_1323
      refine st (callR (some 133) 14 #[.string ⟨x_1.Name.toArray⟩] Tryd.call14 (ref27_Quote_c H.has x_1.Name hl1332_0 h_quote2) (by kernel_rfl) ?_)
      rintro _ w1333 ⟨rfl, hx1333, hl1333_0⟩
      replace H := H.ex hx1333
      obtain ⟨s_26, h_s_26, hb_1323⟩ := bindE hb_1323
      refine st (catS (some 134) 9 s_25 quote2 s_26 (by kernel_rfl) h_s_26 ?_)
      have hl1334 : s_26.length ≤ 9223372036854775807 := by obtain ⟨h1, h2⟩ := cat_some h_s_26; rw [h2, List.length_append]; exact h1
      refine seg 6 [.op [1, 1, 1, 1, 1, 1, 1, 1, 1, 0, 1, 0, 0, 1, 0, 0, 1, 0, 0] 1, .co [1, 1, 1, 1, 1, 1, 1, 1, 1, 0, 1, 0, 0, 1, 0, 0, 1, 0, 1], .co [1, 1, 1, 1, 1, 1, 1, 1, 1, 0, 1, 0, 0, 1, 0, 0, 1, 1], .bl 3, .co [1, 1, 1, 1, 1, 1, 1, 1, 1, 0, 1, 0, 0, 1, 1], .le 1, .bl 2, .le 0, .co [1, 1, 1, 1, 1, 1, 1, 1, 1, 1]] [(1, .pointer (some (⟨g1, 0, none⟩))), (3, .string ⟨s_26.toArray⟩), (6, .int .i64 i1), (135, .pointer (some (⟨g1, 10, none⟩)))] (by kernel_rfl) ?_
      refine st (ldR (some 136) 42 (⟨g1, 10, none⟩) (.slice A0_10 x_.Attrs.length c0_10) (by kernel_rfl) (by kernel_rfl) (H.cellB 0 rfl rfl) ?_)
      refine seg 1 [.op [1, 1, 1, 1, 1, 1, 1, 1, 1, 0, 1, 0, 0, 1, 0, 0, 1, 0, 0] 3, .co [1, 1, 1, 1, 1, 1, 1, 1, 1, 0, 1, 0, 0, 1, 0, 0, 1, 0, 1], .co [1, 1, 1, 1, 1, 1, 1, 1, 1, 0, 1, 0, 0, 1, 0, 0, 1, 1], .bl 3, .co [1, 1, 1, 1, 1, 1, 1, 1, 1, 0, 1, 0, 0, 1, 1], .le 1, .bl 2, .le 0, .co [1, 1, 1, 1, 1, 1, 1, 1, 1, 1]] [(1, .pointer (some (⟨g1, 0, none⟩))), (3, .string ⟨s_26.toArray⟩), (6, .int .i64 i1), (136, .slice A0_10 x_.Attrs.length c0_10), (137, .int .i64 i1)] (by kernel_rfl) ?_
      refine st (idxS (some 138) 42 46 2 A0_10 ad1332 x_.Attrs.length c0_10 .i64 i1 ea1332 (by kernel_rfl) (by kernel_rfl) i01331 i11331 ?_)
      refine seg 1 [.op [1, 1, 1, 1, 1, 1, 1, 1, 1, 0, 1, 0, 0, 1, 0, 0, 1, 0, 0] 5, .co [1, 1, 1, 1, 1, 1, 1, 1, 1, 0, 1, 0, 0, 1, 0, 0, 1, 0, 1], .co [1, 1, 1, 1, 1, 1, 1, 1, 1, 0, 1, 0, 0, 1, 0, 0, 1, 1], .bl 3, .co [1, 1, 1, 1, 1, 1, 1, 1, 1, 0, 1, 0, 0, 1, 1], .le 1, .bl 2, .le 0, .co [1, 1, 1, 1, 1, 1, 1, 1, 1, 1]] [(1, .pointer (some (⟨g1, 0, none⟩))), (3, .string ⟨s_26.toArray⟩), (6, .int .i64 i1), (139, .pointer (some ((ad1332.add (i1.toNat * 2)).add 1)))] (by kernel_rfl) ?_
      refine st (ldR (some 140) 25 ((ad1332.add (i1.toNat * 2)).add 1) (.slice A1332_1 x_1.Value.length c1332_1) (by kernel_rfl) (by kernel_rfl) (H.cellI (hc1332 1 _ rfl)) ?_)
      refine seg 3 [.co [1, 1, 1, 1, 1, 1, 1, 1, 1, 0, 1, 0, 0, 1, 0, 0, 1, 0, 1], .co [1, 1, 1, 1, 1, 1, 1, 1, 1, 0, 1, 0, 0, 1, 0, 0, 1, 1], .bl 3, .co [1, 1, 1, 1, 1, 1, 1, 1, 1, 0, 1, 0, 0, 1, 1], .le 1, .bl 2, .le 0, .co [1, 1, 1, 1, 1, 1, 1, 1, 1, 1]] [(1, .pointer (some (⟨g1, 0, none⟩))), (3, .string ⟨s_26.toArray⟩), (6, .int .i64 i1), (142, .bool (decide ((x_1.Value.length : Int) > 0)))] (by kernel_rfl) ?_
      rcases condT hb_1323 with ⟨hb1335, hb_1323⟩ | ⟨hb1335, hb_1323⟩
      · rw [hb1335]
        have p1335 := of_decide_eq_true hb1335
        refine seg 3 [.op [1, 1, 1, 1, 1, 1, 1, 1, 1, 0, 1, 0, 0, 1, 0, 0, 1, 0, 1, 0] 1, .co [1, 1, 1, 1, 1, 1, 1, 1, 1, 0, 1, 0, 0, 1, 0, 0, 1, 1], .bl 3, .co [1, 1, 1, 1, 1, 1, 1, 1, 1, 0, 1, 0, 0, 1, 1], .le 1, .bl 2, .le 0, .co [1, 1, 1, 1, 1, 1, 1, 1, 1, 1]] [(1, .pointer (some (⟨g1, 0, none⟩))), (6, .int .i64 i1), (143, .string ⟨s_26.toArray⟩)] (by kernel_rfl) ?_
        obtain ⟨s_27, h_s_27, hb_1323⟩ := bindE hb_1323
        refine st (catS (some 144) 9 s_26 ([32] : List UInt8) s_27 (by kernel_rfl) h_s_27 ?_)
        have hl1336 : s_27.length ≤ 9223372036854775807 := by obtain ⟨h1, h2⟩ := cat_some h_s_27; rw [h2, List.length_append]; exact h1
        refine seg 1 [.op [1, 1, 1, 1, 1, 1, 1, 1, 1, 0, 1, 0, 0, 1, 0, 0, 1, 0, 1, 0] 3, .co [1, 1, 1, 1, 1, 1, 1, 1, 1, 0, 1, 0, 0, 1, 0, 0, 1, 1], .bl 3, .co [1, 1, 1, 1, 1, 1, 1, 1, 1, 0, 1, 0, 0, 1, 1], .le 1, .bl 2, .le 0, .co [1, 1, 1, 1, 1, 1, 1, 1, 1, 1]] [(1, .pointer (some (⟨g1, 0, none⟩))), (6, .int .i64 i1), (144, .string ⟨s_27.toArray⟩), (145, .pointer (some (⟨g1, 10, none⟩)))] (by kernel_rfl) ?_
        refine st (ldR (some 146) 42 (⟨g1, 10, none⟩) (.slice A0_10 x_.Attrs.length c0_10) (by kernel_rfl) (by kernel_rfl) (H.cellB 0 rfl rfl) ?_)
        refine seg 1 [.op [1, 1, 1, 1, 1, 1, 1, 1, 1, 0, 1, 0, 0, 1, 0, 0, 1, 0, 1, 0] 5, .co [1, 1, 1, 1, 1, 1, 1, 1, 1, 0, 1, 0, 0, 1, 0, 0, 1, 1], .bl 3, .co [1, 1, 1, 1, 1, 1, 1, 1, 1, 0, 1, 0, 0, 1, 1], .le 1, .bl 2, .le 0, .co [1, 1, 1, 1, 1, 1, 1, 1, 1, 1]] [(1, .pointer (some (⟨g1, 0, none⟩))), (6, .int .i64 i1), (144, .string ⟨s_27.toArray⟩), (146, .slice A0_10 x_.Attrs.length c0_10), (147, .int .i64 i1)] (by kernel_rfl) ?_
        refine st (idxS (some 148) 42 46 2 A0_10 ad1332 x_.Attrs.length c0_10 .i64 i1 ea1332 (by kernel_rfl) (by kernel_rfl) i01331 i11331 ?_)
        refine seg 1 [.op [1, 1, 1, 1, 1, 1, 1, 1, 1, 0, 1, 0, 0, 1, 0, 0, 1, 0, 1, 0] 7, .co [1, 1, 1, 1, 1, 1, 1, 1, 1, 0, 1, 0, 0, 1, 0, 0, 1, 1], .bl 3, .co [1, 1, 1, 1, 1, 1, 1, 1, 1, 0, 1, 0, 0, 1, 1], .le 1, .bl 2, .le 0, .co [1, 1, 1, 1, 1, 1, 1, 1, 1, 1]] [(1, .pointer (some (⟨g1, 0, none⟩))), (6, .int .i64 i1), (144, .string ⟨s_27.toArray⟩), (149, .pointer (some ((ad1332.add (i1.toNat * 2)).add 1)))] (by kernel_rfl) ?_
        refine st (ldR (some 150) 25 ((ad1332.add (i1.toNat * 2)).add 1) (.slice A1332_1 x_1.Value.length c1332_1) (by kernel_rfl) (by kernel_rfl) (H.cellI (hc1332 1 _ rfl)) ?_)
        obtain ⟨hex2, h_hex2, hb_1323⟩ := bindE hb_1323
        refine st (callR (some 151) 36 #[.slice A1332_1 x_1.Value.length c1332_1] Tryd.call36 (ref27_hex_c H.has x_1.Value A1332_1 c1332_1 hs1332_1 h_hex2) (by kernel_rfl) ?_)
        rintro _ w1337 ⟨rfl, hx1337, hl1337_0⟩
        replace H := H.ex hx1337
        obtain ⟨s_28, h_s_28, hb_1323⟩ := bindE hb_1323
        refine st (catS (some 152) 9 s_27 hex2 s_28 (by kernel_rfl) h_s_28 ?_)
        have hl1338 : s_28.length ≤ 9223372036854775807 := by obtain ⟨h1, h2⟩ := cat_some h_s_28; rw [h2, List.length_append]; exact h1
        refine seg 4 [.op [1, 1, 1, 1, 1, 1, 1, 1, 1, 0, 1, 0, 0, 1, 0, 0, 1, 1] 1, .bl 3, .co [1, 1, 1, 1, 1, 1, 1, 1, 1, 0, 1, 0, 0, 1, 1], .le 1, .bl 2, .le 0, .co [1, 1, 1, 1, 1, 1, 1, 1, 1, 1]] [(1, .pointer (some (⟨g1, 0, none⟩))), (6, .int .i64 i1), (153, .string ⟨s_28.toArray⟩)] (by kernel_rfl) ?_
        obtain ⟨s_29, h_s_29, hb_1323⟩ := bindE hb_1323
        refine st (catS (some 154) 9 s_28 ([10] : List UInt8) s_29 (by kernel_rfl) h_s_29 ?_)
        have hl1339 : s_29.length ≤ 9223372036854775807 := by obtain ⟨h1, h2⟩ := cat_some h_s_29; rw [h2, List.length_append]; exact h1
        refine seg 8 [.le 1, .bl 2, .le 0, .co [1, 1, 1, 1, 1, 1, 1, 1, 1, 1]] [(1, .pointer (some (⟨g1, 0, none⟩))), (3, .string ⟨s_29.toArray⟩), (6, .int .i64 (IntKind.i64.wrap (i1 + 1)))] (by kernel_rfl) ?_
        refine leR (nk1323, s_29, (IntKind.i64.wrap (i1 + 1))) (Nat.lt_succ_self _) ⟨hnx1323 _ (Option.some.inj hb_1323).symm, H, hl1339⟩ (by kernel_rfl)
      · rw [hb1335]
        have p1335 := of_decide_eq_false hb1335
        refine seg 4 [.op [1, 1, 1, 1, 1, 1, 1, 1, 1, 0, 1, 0, 0, 1, 0, 0, 1, 1] 1, .bl 3, .co [1, 1, 1, 1, 1, 1, 1, 1, 1, 0, 1, 0, 0, 1, 1], .le 1, .bl 2, .le 0, .co [1, 1, 1, 1, 1, 1, 1, 1, 1, 1]] [(1, .pointer (some (⟨g1, 0, none⟩))), (6, .int .i64 i1), (153, .string ⟨s_26.toArray⟩)] (by kernel_rfl) ?_
        obtain ⟨s_30, h_s_30, hb_1323⟩ := bindE hb_1323
        refine st (catS (some 154) 9 s_26 ([10] : List UInt8) s_30 (by kernel_rfl) h_s_30 ?_)
        have hl1340 : s_30.length ≤ 9223372036854775807 := by obtain ⟨h1, h2⟩ := cat_some h_s_30; rw [h2, List.length_append]; exact h1
        refine seg 8 [.le 1, .bl 2, .le 0, .co [1, 1, 1, 1, 1, 1, 1, 1, 1, 1]] [(1, .pointer (some (⟨g1, 0, none⟩))), (3, .string ⟨s_30.toArray⟩), (6, .int .i64 (IntKind.i64.wrap (i1 + 1)))] (by kernel_rfl) ?_
        refine leR (nk1323, s_30, (IntKind.i64.wrap (i1 + 1))) (Nat.lt_succ_self _) ⟨hnx1323 _ (Option.some.inj hb_1323).symm, H, hl1340⟩ (by kernel_rfl)
    · rw [hb1329]
      refine seg 2 [.le 0, .co [1, 1, 1, 1, 1, 1, 1, 1, 1, 1]] [(3, .string ⟨s_24.toArray⟩)] (by kernel_rfl) ?_
      refine leR_up (k' := []) (by rfl) ?_
      refine leJ (s_24) ⟨(hfin1323 _ (Option.some.inj hb_1323).symm).symm, (St.takeN 0 H), hl1324_0⟩ (by kernel_rfl)
  rintro s_24 wj1276 ⟨hy1276, H, hl1277_0⟩
  rw [hy1276] at hf
  refine seg 5 [.co [1, 1, 1, 1, 1, 1, 1, 1, 1, 1, 1]] [(2, .string ⟨s_24.toArray⟩)] (by kernel_rfl) ?_
  refine retR [2] [.string ⟨s_24.toArray⟩] (by kernel_rfl) (by kernel_rfl) (by kernel_rfl) ?_
  have hret := (Option.some.inj hf)
  subst hret
  exact ⟨_, rfl, rfl, H.scalar, hl1277_0⟩
theorem ref27_Print_c {m : Mem} {w : World} (hm : Has m w) (l_ : (List TApiEntry)) (A0_0 : Option Addr) (c0_0 : Nat) (s0_0 : SlI rApiEntry m A0_0 c0_0 l_) {r : ((List UInt8) × Int)} (hf : ref27_Print l_ = some r) :
    Calls Tryd.prog 9 #[.slice A0_0 l_.length c0_0] w fun e w' => ∃ v, e = .returned v ∧ ∃ Az_0 : Option Addr, ∃ cz_0 : Nat, ∃ m' : Mem, v = .tuple #[.slice Az_0 r.1.length cz_0, .int .i64 r.2] ∧ St w noF m m' [rowI rU8 5 Az_0 cz_0 r.1] w' := by
  unfold ref27_Print at hf
  have H := St.start0 hm
  refine callsR Tryd.func9 (by kernel_rfl) (by kernel_rfl) ?_
  refine seg 12 [.co [1, 0, 1], .co [1, 1]] [(0, .slice A0_0 l_.length c0_0), (9, .bool (decide ((l_.length : Int) > 16384)))] (by kernel_rfl) ?_
  rcases condT hf with ⟨hb2, hf⟩ | ⟨hb2, hf⟩
  · rw [hb2]
    have p2 := of_decide_eq_true hb2
    refine seg 6 [.co [1, 0, 1, 0, 1], .co [1, 1]] [(2, .slice none 0 0), (3, .int .i64 3)] (by kernel_rfl) ?_
    have H := H.nilR rU8 5
    refine retR [2, 3] [.slice none 0 0, .int .i64 3] (by kernel_rfl) (by kernel_rfl) (by kernel_rfl) ?_
    obtain rfl : ([], 3) = r := (Option.some.inj hf)
    exact ⟨_, rfl, none, 0, m, rfl, H⟩
  · rw [hb2]
    have p2 := of_decide_eq_false hb2
    refine seg 7 [.co [1, 1, 0, 1], .co [1, 1, 1]] [(0, .slice A0_0 l_.length c0_0), (4, .int .i64 0)] (by kernel_rfl) ?_
    obtain ⟨y53, hp53, hfl53, hfr53⟩ := bndE hf
    refine joinR 0 (fun (x : Unit) => [(0, .slice A0_0 l_.length c0_0)]) (fun (x : Unit) (wj53 : World) => y53 = .inl () ∧ St w noF m m [] wj53) (by kernel_rfl) ?_ ?_
    · refine seg 1 [.co [1, 1, 0, 1, 0], .bl 0, .le 0, .co [1, 1, 1]] [(0, .slice A0_0 l_.length c0_0), (4, .int .i64 0)] (by kernel_rfl) ?_
      obtain ⟨nn68, hR68⟩ := loopO_iff.1 hp53
      refine loopR 1 (fun (x : Nat × Nat) => [(0, .slice A0_0 l_.length c0_0), (4, .int .i64 (x.2 : Int))]) (fun (x : Nat × Nat) (wl68 : World) => iter (fun s => ref27_Print_l1 l_ s) x.1 x.2 = some y53 ∧ St w noF m m [] wl68) (fun (x : Nat × Nat) => x.1) (nn68, 0) (by kernel_rfl) (by kernel_rfl) (by kernel_rfl) ?_ ?_
      · exact ⟨hR68, H⟩
      rintro ⟨n68, i⟩ wl68 ⟨hR68, H⟩
      try dsimp only at hR68
      try dsimp only at H
      obtain ⟨nk68, q68, rfl, hb_68, hnx68, hfin68⟩ := iterE hR68
      replace hb_68 : ref27_Print_l1 l_ i = some q68 := hb_68
      unfold ref27_Print_l1 at hb_68
      refine seg 8 [.co [1, 1, 0, 1, 0, 0, 0, 1], .co [1, 1, 0, 1, 0, 0, 1], .le 1, .bl 0, .le 0, .co [1, 1, 1]] [(0, .slice A0_0 l_.length c0_0), (4, .int .i64 (i : Int)), (13, .bool (decide ((i : Int) < (l_.length : Int))))] (by kernel_rfl) ?_
      rcases condT hb_68 with ⟨hb70, hb_68⟩ | ⟨hb70, hb_68⟩
      · rw [hb70]
        have p70 := of_decide_eq_true hb70
        refine seg 8 [.op [1, 1, 0, 1, 0, 0, 1, 0, 0, 0] 2, .co [1, 1, 0, 1, 0, 0, 1, 0, 0, 1], .bl 1, .co [1, 1, 0, 1, 0, 0, 1, 1], .le 1, .bl 0, .le 0, .co [1, 1, 1]] [(0, .slice A0_0 l_.length c0_0), (4, .int .i64 (i : Int)), (16, .slice A0_0 l_.length c0_0), (17, .int .i64 (i : Int))] (by kernel_rfl) ?_
        obtain ⟨x_, h_x_, hb_68⟩ := bindE hb_68
        obtain ⟨ad72, _, ea72, ⟨A72_7, c72_7, A72_10, c72_10, rfl, hl72_0, hs72_7, hl72_8, hs72_10⟩, hc72⟩ := s0_0.at_ h_x_ (by decide)
        refine st (idxS (some 18) 22 44 11 A0_0 ad72 l_.length c0_0 .i64 (i : Int) ea72 (by kernel_rfl) (by kernel_rfl) (by omega) (by have := (List.getElem?_eq_some_iff.1 h_x_).1; omega) ?_)
        refine st (ldAggR (some 19) 44 (ad72.add (i * 11)) [.string ⟨x_.Path.toArray⟩, .int .i64 x_.Kind, .int .i64 x_.Mode, .int .i64 x_.Uid, .int .i64 x_.Gid, .int .i64 x_.Time, .int .i64 x_.Size, .slice A72_7 x_.Data.length c72_7, .string ⟨x_.Target.toArray⟩, .int .i64 x_.Dev, .slice A72_10 x_.Attrs.length c72_10] (by kernel_rfl) (by kernel_rfl) (fun j v hj => H.cellI (hc72 j v hj)) ?_)
        refine st (callR (some 20) 21 #[.agg #[.string ⟨x_.Path.toArray⟩, .int .i64 x_.Kind, .int .i64 x_.Mode, .int .i64 x_.Uid, .int .i64 x_.Gid, .int .i64 x_.Time, .int .i64 x_.Size, .slice A72_7 x_.Data.length c72_7, .string ⟨x_.Target.toArray⟩, .int .i64 x_.Dev, .slice A72_10 x_.Attrs.length c72_10]] Tryd.call21 (ref27_Right_c H.has x_ hl72_0 A72_7 c72_7 hs72_7 hl72_8 A72_10 c72_10 hs72_10) (by kernel_rfl) ?_)
        rintro _ w73 ⟨rfl, hx73⟩
        replace H := H.ex hx73
        refine seg 2 [.co [1, 1, 0, 1, 0, 0, 1, 0, 0, 1], .bl 1, .co [1, 1, 0, 1, 0, 0, 1, 1], .le 1, .bl 0, .le 0, .co [1, 1, 1]] [(0, .slice A0_0 l_.length c0_0), (4, .int .i64 (i : Int)), (21, .bool (!(ref27_Right x_)))] (by kernel_rfl) ?_
        rcases condT hb_68 with ⟨hb74, hb_68⟩ | ⟨hb74, hb_68⟩
        · rw [hb74]
          refine seg 8 [.le 1, .bl 0, .le 0, .co [1, 1, 1]] [(0, .slice A0_0 l_.length c0_0), (4, .int .i64 (IntKind.i64.wrap ((i : Int) + 1)))] (by kernel_rfl) ?_
          have := s0_0.bound
          rw [show IntKind.i64.wrap ((i : Int) + 1) = ((i : Int) + 1) from w64 (by omega)]
          refine leR (nk68, (i + 1)) (Nat.lt_succ_self _) ⟨hnx68 _ (Option.some.inj hb_68).symm, H⟩ (by kernel_rfl)
        · rw [hb74]
          refine seg 6 [.co [1, 1, 0, 1, 0, 0, 1, 0, 0, 1, 0, 1], .bl 1, .co [1, 1, 0, 1, 0, 0, 1, 1], .le 1, .bl 0, .le 0, .co [1, 1, 1]] [(2, .slice none 0 0), (3, .int .i64 1)] (by kernel_rfl) ?_
          have H := H.nilR rU8 5
          refine retR [2, 3] [.slice none 0 0, .int .i64 1] (by kernel_rfl) (by kernel_rfl) (by kernel_rfl) ?_
          obtain rfl : ([], 1) = r := (hfr53 _ (hfin68 _ (Option.some.inj hb_68).symm).symm)
          exact ⟨_, rfl, none, 0, m, rfl, H⟩
      · rw [hb70]
        have p70 := of_decide_eq_false hb70
        refine seg 2 [.le 0, .co [1, 1, 1]] [(0, .slice A0_0 l_.length c0_0)] (by kernel_rfl) ?_
        refine leR_up (k' := []) (by rfl) ?_
        refine leJ () ⟨(hfin68 _ (Option.some.inj hb_68).symm).symm, H⟩ (by kernel_rfl)
    rintro _ wj53 ⟨hy53, H⟩
    have hf := hfl53 _ hy53
    try dsimp only at hf
    refine seg 9 [.co [1, 1, 1, 1, 0, 1], .co [1, 1, 1, 1, 1]] [(0, .slice A0_0 l_.length c0_0), (5, .slice none 0 0), (6, .int .i64 0)] (by kernel_rfl) ?_
    obtain ⟨y130, hp130, hfl130, hfr130⟩ := bndE hf
    refine joinR 0 (fun (x : (List UInt8) × Option Addr × Nat) => [(5, .slice (x.2.1) x.1.length (x.2.2))]) (fun (x : (List UInt8) × Option Addr × Nat) (wj130 : World) => y130 = .inl x.1 ∧ St w noF m m [rowI rU8 5 (x.2.1) (x.2.2) x.1] wj130) (by kernel_rfl) ?_ ?_
    · refine seg 1 [.co [1, 1, 1, 1, 0, 1, 0], .bl 2, .le 0, .co [1, 1, 1, 1, 1]] [(0, .slice A0_0 l_.length c0_0), (5, .slice none 0 0), (6, .int .i64 0)] (by kernel_rfl) ?_
      have H := H.nilR rU8 5
      obtain ⟨nn146, hR146⟩ := loopO_iff.1 hp130
      refine loopR 1 (fun (x : Nat × (List UInt8) × Nat × Option Addr × Nat) => [(0, .slice A0_0 l_.length c0_0), (5, .slice (x.2.2.2.1) x.2.1.length (x.2.2.2.2)), (6, .int .i64 (x.2.2.1 : Int))]) (fun (x : Nat × (List UInt8) × Nat × Option Addr × Nat) (wl146 : World) => iter (fun s => ref27_Print_l2 l_ s.1 s.2) x.1 (x.2.1, x.2.2.1) = some y130 ∧ St w noF m m [rowI rU8 5 (x.2.2.2.1) (x.2.2.2.2) x.2.1] wl146) (fun (x : Nat × (List UInt8) × Nat × Option Addr × Nat) => x.1) (nn146, [], 0, none, 0) (by kernel_rfl) (by kernel_rfl) (by kernel_rfl) ?_ ?_
      · exact ⟨hR146, H⟩
      rintro ⟨n146, b, i1, A_1_147, c_2_147⟩ wl146 ⟨hR146, H⟩
      try dsimp only at hR146
      try dsimp only at H
      obtain ⟨nk146, q146, rfl, hb_146, hnx146, hfin146⟩ := iterE hR146
      replace hb_146 : ref27_Print_l2 l_ b i1 = some q146 := hb_146
      unfold ref27_Print_l2 at hb_146
      refine seg 8 [.co [1, 1, 1, 1, 0, 1, 0, 0, 0, 1], .co [1, 1, 1, 1, 0, 1, 0, 0, 1], .le 1, .bl 2, .le 0, .co [1, 1, 1, 1, 1]] [(0, .slice A0_0 l_.length c0_0), (5, .slice A_1_147 b.length c_2_147), (6, .int .i64 (i1 : Int)), (25, .bool (decide ((i1 : Int) < (l_.length : Int))))] (by kernel_rfl) ?_
      rcases condT hb_146 with ⟨hb148, hb_146⟩ | ⟨hb148, hb_146⟩
      · rw [hb148]
        have p148 := of_decide_eq_true hb148
        refine seg 9 [.op [1, 1, 1, 1, 0, 1, 0, 0, 1, 0, 0, 0] 3, .co [1, 1, 1, 1, 0, 1, 0, 0, 1, 0, 0, 1], .bl 3, .co [1, 1, 1, 1, 0, 1, 0, 0, 1, 1], .le 1, .bl 2, .le 0, .co [1, 1, 1, 1, 1]] [(0, .slice A0_0 l_.length c0_0), (6, .int .i64 (i1 : Int)), (28, .slice A_1_147 b.length c_2_147), (29, .slice A0_0 l_.length c0_0), (30, .int .i64 (i1 : Int))] (by kernel_rfl) ?_
        obtain ⟨x_1, h_x_1, hb_146⟩ := bindE hb_146
        obtain ⟨ad150, _, ea150, ⟨A150_7, c150_7, A150_10, c150_10, rfl, hl150_0, hs150_7, hl150_8, hs150_10⟩, hc150⟩ := s0_0.at_ h_x_1 (by decide)
        refine st (idxS (some 31) 22 44 11 A0_0 ad150 l_.length c0_0 .i64 (i1 : Int) ea150 (by kernel_rfl) (by kernel_rfl) (by omega) (by have := (List.getElem?_eq_some_iff.1 h_x_1).1; omega) ?_)
        refine st (ldAggR (some 32) 44 (ad150.add (i1 * 11)) [.string ⟨x_1.Path.toArray⟩, .int .i64 x_1.Kind, .int .i64 x_1.Mode, .int .i64 x_1.Uid, .int .i64 x_1.Gid, .int .i64 x_1.Time, .int .i64 x_1.Size, .slice A150_7 x_1.Data.length c150_7, .string ⟨x_1.Target.toArray⟩, .int .i64 x_1.Dev, .slice A150_10 x_1.Attrs.length c150_10] (by kernel_rfl) (by kernel_rfl) (fun j v hj => H.cellI (hc150 j v hj)) ?_)
        obtain ⟨lines, h_lines, hb_146⟩ := bindE hb_146
        refine st (callR (some 33) 22 #[.agg #[.string ⟨x_1.Path.toArray⟩, .int .i64 x_1.Kind, .int .i64 x_1.Mode, .int .i64 x_1.Uid, .int .i64 x_1.Gid, .int .i64 x_1.Time, .int .i64 x_1.Size, .slice A150_7 x_1.Data.length c150_7, .string ⟨x_1.Target.toArray⟩, .int .i64 x_1.Dev, .slice A150_10 x_1.Attrs.length c150_10]] Tryd.call22 (ref27_Lines_c H.has x_1 hl150_0 A150_7 c150_7 hs150_7 hl150_8 A150_10 c150_10 hs150_10 h_lines) (by kernel_rfl) ?_)
        rintro _ w151 ⟨rfl, hx151, hl151_0⟩
        replace H := H.ex hx151
        replace H : St w noF m m [rowI rU8 5 A_1_147 c_2_147 b] w151 := H
        obtain ⟨b1, h_b1, hb_146⟩ := bindE hb_146
        refine st (appstrS (some 34) 25 9 5 25 0 A_1_147 c_2_147 b lines b1 H rfl ⟨Tryd.underlying25, by kernel_rfl⟩ Tryd.underlying9 (by kernel_rfl) h_b1 ?_)
        intro A152 c152 w152 H
        refine seg 8 [.co [1, 1, 1, 1, 0, 1, 0, 0, 1, 0, 0, 1, 1], .bl 3, .co [1, 1, 1, 1, 0, 1, 0, 0, 1, 1], .le 1, .bl 2, .le 0, .co [1, 1, 1, 1, 1]] [(0, .slice A0_0 l_.length c0_0), (5, .slice A152 b1.length c152), (6, .int .i64 (i1 : Int)), (37, .bool (decide ((b1.length : Int) > 1048576)))] (by kernel_rfl) ?_
        rcases condT hb_146 with ⟨hb153, hb_146⟩ | ⟨hb153, hb_146⟩
        · rw [hb153]
          have p153 := of_decide_eq_true hb153
          refine seg 6 [.co [1, 1, 1, 1, 0, 1, 0, 0, 1, 0, 0, 1, 1, 0, 1], .bl 3, .co [1, 1, 1, 1, 0, 1, 0, 0, 1, 1], .le 1, .bl 2, .le 0, .co [1, 1, 1, 1, 1]] [(2, .slice none 0 0), (3, .int .i64 2)] (by kernel_rfl) ?_
          have H := H.nilR rU8 5
          refine retR [2, 3] [.slice none 0 0, .int .i64 2] (by kernel_rfl) (by kernel_rfl) (by kernel_rfl) ?_
          obtain rfl : ([], 2) = r := (hfr130 _ (hfin146 _ (Option.some.inj hb_146).symm).symm)
          exact ⟨_, rfl, none, 0, m, rfl, (St.takeN 1 H)⟩
        · rw [hb153]
          have p153 := of_decide_eq_false hb153
          refine seg 8 [.le 1, .bl 2, .le 0, .co [1, 1, 1, 1, 1]] [(0, .slice A0_0 l_.length c0_0), (5, .slice A152 b1.length c152), (6, .int .i64 (IntKind.i64.wrap ((i1 : Int) + 1)))] (by kernel_rfl) ?_
          have := s0_0.bound
          rw [show IntKind.i64.wrap ((i1 : Int) + 1) = ((i1 : Int) + 1) from w64 (by omega)]
          refine leR (nk146, b1, (i1 + 1), A152, c152) (Nat.lt_succ_self _) ⟨hnx146 _ (Option.some.inj hb_146).symm, H⟩ (by kernel_rfl)
      · rw [hb148]
        have p148 := of_decide_eq_false hb148
        refine seg 2 [.le 0, .co [1, 1, 1, 1, 1]] [(5, .slice A_1_147 b.length c_2_147)] (by kernel_rfl) ?_
        refine leR_up (k' := []) (by rfl) ?_
        refine leJ (b, A_1_147, c_2_147) ⟨(hfin146 _ (Option.some.inj hb_146).symm).symm, H⟩ (by kernel_rfl)
    rintro ⟨b, A_1_131, c_2_131⟩ wj130 ⟨hy130, H⟩
    try dsimp only at hy130
    try dsimp only at H
    have hf := hfl130 _ hy130
    refine seg 6 [.co [1, 1, 1, 1, 1, 1]] [(2, .slice A_1_131 b.length c_2_131), (3, .int .i64 0)] (by kernel_rfl) ?_
    refine retR [2, 3] [.slice A_1_131 b.length c_2_131, .int .i64 0] (by kernel_rfl) (by kernel_rfl) (by kernel_rfl) ?_
    obtain rfl : (b, 0) = r := (Option.some.inj hf)
    exact ⟨_, rfl, A_1_131, c_2_131, m, rfl, H⟩
theorem law27_ManifestPrints_c {m : Mem} {w : World} (hm : Has m w) (hG0 : TabM m 0 (tab0.map fU64)) (hG2 : TabM m 2 (tab2.map fU8)) (l_ : (List TApiEntry)) (A0_0 : Option Addr) (c0_0 : Nat) (s0_0 : SlI rApiEntry m A0_0 c0_0 l_) {r : Bool} (hf : law27_ManifestPrints l_ = some r) :
    Calls Tryd.prog 3 #[.slice A0_0 l_.length c0_0] w fun e w' => ∃ v, e = .returned v ∧ v = .bool r ∧ Ex w w' := by
  unfold law27_ManifestPrints at hf
  have H := St.start0 hm
  refine callsR Tryd.func3 (by kernel_rfl) (by kernel_rfl) ?_
  refine seg 8 [.op [1, 0, 0] 1, .co [1, 0, 1], .co [1, 1]] [(0, .slice A0_0 l_.length c0_0), (7, .slice A0_0 l_.length c0_0)] (by kernel_rfl) ?_
  obtain ⟨much, h_much, hf⟩ := bindE hf
  refine st (callR (some 8) 6 #[.slice A0_0 l_.length c0_0] Tryd.call6 (ref11_Much_c H.has l_ A0_0 c0_0 s0_0 h_much) (by kernel_rfl) ?_)
  rintro _ w1 ⟨rfl, hx1⟩
  replace H := H.ex hx1
  refine seg 1 [.co [1, 0, 1], .co [1, 1]] [(0, .slice A0_0 l_.length c0_0), (8, .bool much)] (by kernel_rfl) ?_
  rcases condT hf with ⟨hb4, hf⟩ | ⟨hb4, hf⟩
  · rw [hb4]
    refine seg 3 [.op [1, 0, 1, 0, 0] 0, .co [1, 0, 1, 0, 1], .co [1, 1]] [] (by kernel_rfl) ?_
    obtain ⟨live, h_live, hf⟩ := bindE hf
    refine st (callR (some 9) 7 #[] Tryd.call7 (law27_live_c H.has hG0 hG2 h_live) (by kernel_rfl) ?_)
    rintro _ w5 ⟨rfl, hx5⟩
    replace H := H.ex hx5
    refine seg 2 [.co [1, 0, 1, 0, 1], .co [1, 1]] [(2, .bool live)] (by kernel_rfl) ?_
    refine retR [2] [.bool live] (by kernel_rfl) (by kernel_rfl) (by kernel_rfl) ?_
    have hret := (Option.some.inj hf)
    subst hret
    exact ⟨_, rfl, rfl, H.scalar⟩
  · rw [hb4]
    refine seg 5 [.op [1, 1, 0] 1, .co [1, 1, 1]] [(0, .slice A0_0 l_.length c0_0), (11, .slice A0_0 l_.length c0_0)] (by kernel_rfl) ?_
    obtain ⟨print, h_print, hf⟩ := bindE hf
    refine st (callR (some 12) 8 #[.slice A0_0 l_.length c0_0] Tryd.call8 (manifest_Print_c H.has hG0 hG2 l_ A0_0 c0_0 s0_0 h_print) (by kernel_rfl) ?_)
    rintro _ w6 ⟨A6_0, c6_0, mk6, rfl, hS6⟩
    have hsub6 := hS6.sub
    replace H := H.call0 hS6
    refine seg 9 [.op [1, 1, 1, 0] 1, .co [1, 1, 1, 1]] [(3, .slice A6_0 print.1.length c6_0), (4, .int .i64 print.2), (16, .slice A0_0 l_.length c0_0)] (by kernel_rfl) ?_
    replace H : St w noF m mk6 [rowI rU8 5 A6_0 c6_0 print.1] w6 := H
    obtain ⟨print1, h_print1, hf⟩ := bindE hf
    refine st (callR (some 17) 9 #[.slice A0_0 l_.length c0_0] Tryd.call9 (ref27_Print_c H.has l_ A0_0 c0_0 (s0_0.mono hsub6) h_print1) (by kernel_rfl) ?_)
    rintro _ w7 ⟨A7_0, c7_0, mk7, rfl, hS7⟩
    have hsub7 := hS7.sub
    replace H := H.call0 hS7
    refine seg 9 [.op [1, 1, 1, 1, 0] 1, .co [1, 1, 1, 1, 1]] [(4, .int .i64 print.2), (5, .slice A7_0 print1.1.length c7_0), (6, .int .i64 print1.2), (20, .slice A6_0 print.1.length c6_0)] (by kernel_rfl) ?_
    refine st (b2sS (some 21) 25 9 5 A6_0 c6_0 print.1 Tryd.underlying25 Tryd.underlying5 Tryd.underlying9 (by kernel_rfl) (H.rowCs 1 rfl) ?_)
    have hl15 : print.1.length ≤ 9223372036854775807 := (Nat.le_trans (H.rowCap 1 rfl).1 (H.rowCap 1 rfl).2)
    refine seg 1 [.op [1, 1, 1, 1, 0] 3, .co [1, 1, 1, 1, 1]] [(4, .int .i64 print.2), (6, .int .i64 print1.2), (21, .string ⟨print.1.toArray⟩), (22, .slice A7_0 print1.1.length c7_0)] (by kernel_rfl) ?_
    refine st (b2sS (some 23) 25 9 5 A7_0 c7_0 print1.1 Tryd.underlying25 Tryd.underlying5 Tryd.underlying9 (by kernel_rfl) (H.rowCs 0 rfl) ?_)
    have hl17 : print1.1.length ≤ 9223372036854775807 := (Nat.le_trans (H.rowCap 0 rfl).1 (H.rowCap 0 rfl).2)
    refine seg 2 [.op [1, 1, 1, 1, 0] 6, .co [1, 1, 1, 1, 1]] [(4, .int .i64 print.2), (6, .int .i64 print1.2), (25, .bool ((ByteArray.toList ⟨print.1.toArray⟩) == (ByteArray.toList ⟨print1.1.toArray⟩)))] (by kernel_rfl) ?_
    rw [seq_raw print.1 print1.1]
    rcases condT hf with ⟨hb18, hf⟩ | ⟨hb18, hf⟩
    · rw [hb18]
      refine seg 1 [.op [1, 1, 1, 1, 0] 7, .co [1, 1, 1, 1, 1]] [(6, .int .i64 print1.2), (25, .bool true), (26, .int .i64 print.2)] (by kernel_rfl) ?_
      refine st (callR (some 27) 10 #[.int .i64 print.2] Tryd.call10 (law27_num_c H.has print.2) (by kernel_rfl) ?_)
      rintro _ w19 ⟨rfl, hx19⟩
      replace H := H.ex hx19
      refine seg 4 [.op [1, 1, 1, 1, 0] 12, .co [1, 1, 1, 1, 1]] [(31, .bool ((law27_num print.2) == print1.2))] (by kernel_rfl) ?_
      rcases condT hf with ⟨hb20, hf⟩ | ⟨hb20, hf⟩
      · rw [hb20]
        replace H : St w noF m mk7 [] w19 := ((H.drop 1 rfl).drop 0 rfl)
        obtain ⟨live1, h_live1, hf⟩ := bindE hf
        refine st (callR (some 32) 7 #[] Tryd.call7 (law27_live_c H.has (hG0.mono (hsub6.trans hsub7)) (hG2.mono (hsub6.trans hsub7)) h_live1) (by kernel_rfl) ?_)
        rintro _ w21 ⟨rfl, hx21⟩
        replace H := H.ex hx21
        refine seg 3 [.co [1, 1, 1, 1, 1]] [(2, .bool live1)] (by kernel_rfl) ?_
        refine retR [2] [.bool live1] (by kernel_rfl) (by kernel_rfl) (by kernel_rfl) ?_
        have hret := (Option.some.inj hf)
        subst hret
        exact ⟨_, rfl, rfl, H.scalar⟩
      · rw [hb20]
        refine seg 4 [.co [1, 1, 1, 1, 1]] [(2, .bool false)] (by kernel_rfl) ?_
        refine retR [2] [.bool false] (by kernel_rfl) (by kernel_rfl) (by kernel_rfl) ?_
        have hret := (Option.some.inj hf)
        subst hret
        exact ⟨_, rfl, rfl, H.scalar⟩
    · rw [hb18]
      refine seg 10 [.co [1, 1, 1, 1, 1]] [(2, .bool false)] (by kernel_rfl) ?_
      refine retR [2] [.bool false] (by kernel_rfl) (by kernel_rfl) (by kernel_rfl) ?_
      have hret := (Option.some.inj hf)
      subst hret
      exact ⟨_, rfl, rfl, H.scalar⟩
theorem manifest_text_peek_c {m : Mem} {w : World} (hm : Has m w) (g0 : Nat) (t : TManifestReader) (A0_0 : Option Addr) (c0_0 : Nat) (s0_0 : SlI rU8 m A0_0 c0_0 t.f_text.f_b) (A0_3 : Option Addr) (c0_3 : Nat) {F : Nat → Prop} (hsep : Sep m w [blkI g0 [.slice A0_0 t.f_text.f_b.length c0_0, .int .i64 t.f_text.f_at, .int .i64 t.f_text.f_e, .slice A0_3 t.f_l.length c0_3, .bool t.f_full, .bool t.f_more] 56, rowI rApiEntry 44 A0_3 c0_3 t.f_l] F) (hF : ∀ k, F k → m k = none) {r : UInt8} (hf : manifest_text_peek t = some r) :
    Calls Tryd.prog 37 #[.pointer (some (⟨g0, 0, none⟩))] w fun e w' => ∃ v, e = .returned v ∧ ∃ m' : Mem, v = .int .u8 (r.toNat : Int) ∧ St w F m m' [blkI g0 [.slice A0_0 t.f_text.f_b.length c0_0, .int .i64 t.f_text.f_at, .int .i64 t.f_text.f_e, .slice A0_3 t.f_l.length c0_3, .bool t.f_full, .bool t.f_more] 56, rowI rApiEntry 44 A0_3 c0_3 t.f_l] w' := by
  unfold manifest_text_peek at hf
  have H := St.start hm hsep hF
  refine callsR Tryd.func37 (by kernel_rfl) (by kernel_rfl) ?_
  refine seg 6 [.co [1, 0, 0], .co [1, 0, 1], .co [1, 1]] [(0, .pointer (some (⟨g0, 0, none⟩)))] (by kernel_rfl) ?_
  rcases condT hf with ⟨hb2, hf⟩ | ⟨hb2, hf⟩
  · have hst : statB (bodyOf Tryd.f37) [1, 0, 0] = true := by kernel_rfl
    refine drawS (fun w' => Has m w' ∧ w'.heap[g0]? = some (.cells [.slice A0_0 t.f_text.f_b.length c0_0, .int .i64 t.f_text.f_at, .int .i64 t.f_text.f_e, .slice A0_3 t.f_l.length c0_3, .bool t.f_full, .bool t.f_more].toArray 56 (0, 0))) H (by kernel_rfl) (by kernel_rfl) ?_
    intro w3 H
    refine segD2 hst [0, 1, 2] [0, 1, 2] [(0, .pointer (some (⟨g0, 0, none⟩))), (5, .pointer (some (⟨g0, 2, none⟩)))] (by kernel_rfl) ?_
    refine stD2 (i := 3) (by kernel_rfl) ⟨H.has, H.blk 0 rfl⟩ (ldR (some 6) 26 (⟨g0, 2, none⟩) (.int .i64 t.f_text.f_e) (by kernel_rfl) (by kernel_rfl) (H.cellB 0 rfl rfl) ?_)
    refine segD2 hst [4] [0, 1, 2, 3, 4] [(0, .pointer (some (⟨g0, 0, none⟩))), (7, .bool (t.f_text.f_e != 0))] (by kernel_rfl) ?_
    rw [show (t.f_text.f_e != 0) = true from hb2]
    refine segD2 hst [5, 6, 7, 8, 9, 10, 11, 12, 13, 14, 15, 16] [0, 1, 2, 3, 4, 5, 6, 7, 8, 9, 10, 11, 12, 13, 14, 15, 16] [(0, .pointer (some (⟨g0, 0, none⟩))), (19, .bool true)] (by kernel_rfl) ?_
    refine endD2 (by kernel_rfl) ⟨H.has, H.blk 0 rfl⟩ ?_
    refine seg 5 [.co [1, 0, 1, 0, 1], .co [1, 1]] [(2, .int .u8 0)] (by kernel_rfl) ?_
    refine retR [2] [.int .u8 0] (by kernel_rfl) (by kernel_rfl) (by kernel_rfl) ?_
    obtain rfl : (0 : UInt8) = r := (Option.some.inj hf)
    exact ⟨_, rfl, m, rfl, H⟩
  · have hst : statB (bodyOf Tryd.f37) [1, 0, 0] = true := by kernel_rfl
    refine drawS (fun w' => Has m w' ∧ w'.heap[g0]? = some (.cells [.slice A0_0 t.f_text.f_b.length c0_0, .int .i64 t.f_text.f_at, .int .i64 t.f_text.f_e, .slice A0_3 t.f_l.length c0_3, .bool t.f_full, .bool t.f_more].toArray 56 (0, 0))) H (by kernel_rfl) (by kernel_rfl) ?_
    intro w4 H
    refine segD2 hst [0, 1, 2] [0, 1, 2] [(0, .pointer (some (⟨g0, 0, none⟩))), (5, .pointer (some (⟨g0, 2, none⟩)))] (by kernel_rfl) ?_
    refine stD2 (i := 3) (by kernel_rfl) ⟨H.has, H.blk 0 rfl⟩ (ldR (some 6) 26 (⟨g0, 2, none⟩) (.int .i64 t.f_text.f_e) (by kernel_rfl) (by kernel_rfl) (H.cellB 0 rfl rfl) ?_)
    refine segD2 hst [4] [0, 1, 2, 3, 4] [(0, .pointer (some (⟨g0, 0, none⟩))), (7, .bool (t.f_text.f_e != 0))] (by kernel_rfl) ?_
    rw [show (t.f_text.f_e != 0) = false from hb2]
    refine segD2 hst [5, 6, 7, 8, 10, 11, 12] [0, 1, 2, 3, 4, 5, 6, 7, 8, 10, 11, 12] [(0, .pointer (some (⟨g0, 0, none⟩))), (8, .bool false), (11, .pointer (some (⟨g0, 1, none⟩))), (15, .pointer (some (⟨g0, 0, none⟩)))] (by kernel_rfl) ?_
    refine takeD2 (i := 9) (d := (some 12)) (s := vS (Instr.loadAt 3 (.pointer (some (⟨g0, 1, none⟩))))) (v := (.int .i64 t.f_text.f_at)) hst (by kernel_rfl) (by kernel_rfl) (fun w' hw' => ld_run _ _ _ (by kernel_rfl) (blk_cell hw'.2 rfl)) ?_
    refine stD2 (i := 13) (by kernel_rfl) ⟨H.has, H.blk 0 rfl⟩ (ldR (some 16) 25 (⟨g0, 0, none⟩) (.slice A0_0 t.f_text.f_b.length c0_0) (by kernel_rfl) (by kernel_rfl) (H.cellB 0 rfl rfl) ?_)
    refine segD2 hst [14, 15] [0, 1, 2, 3, 4, 5, 6, 7, 8, 10, 11, 12, 9, 13, 14, 15] [(0, .pointer (some (⟨g0, 0, none⟩))), (8, .bool false), (18, .bool (t.f_text.f_at == (t.f_text.f_b.length : Int)))] (by kernel_rfl) ?_
    refine segD2 hst [16] [0, 1, 2, 3, 4, 5, 6, 7, 8, 10, 11, 12, 9, 13, 14, 15, 16] [(0, .pointer (some (⟨g0, 0, none⟩))), (19, .bool (t.f_text.f_at == (t.f_text.f_b.length : Int)))] (by kernel_rfl) ?_
    refine endD2 (by kernel_rfl) ⟨H.has, H.blk 0 rfl⟩ ?_
    rcases condT hf with ⟨hb6, hf⟩ | ⟨hb6, hf⟩
    · rw [hb6]
      refine seg 5 [.co [1, 0, 1, 0, 1], .co [1, 1]] [(2, .int .u8 0)] (by kernel_rfl) ?_
      refine retR [2] [.int .u8 0] (by kernel_rfl) (by kernel_rfl) (by kernel_rfl) ?_
      obtain rfl : (0 : UInt8) = r := (Option.some.inj hf)
      exact ⟨_, rfl, m, rfl, H⟩
    · rw [hb6]
      refine seg 3 [.co [1, 1, 0], .co [1, 1, 1]] [(0, .pointer (some (⟨g0, 0, none⟩)))] (by kernel_rfl) ?_
      obtain ⟨x_, h_x_, hf⟩ := bindE hf
      obtain ⟨i07, i17, ix7⟩ := idx_some h_x_
      have hst : statB (bodyOf Tryd.f37) [1, 1, 0] = true := by kernel_rfl
      refine drawS (fun w' => Has m w' ∧ w'.heap[g0]? = some (.cells [.slice A0_0 t.f_text.f_b.length c0_0, .int .i64 t.f_text.f_at, .int .i64 t.f_text.f_e, .slice A0_3 t.f_l.length c0_3, .bool t.f_full, .bool t.f_more].toArray 56 (0, 0))) H (by kernel_rfl) (by kernel_rfl) ?_
      intro w10 H
      refine segD2 hst [0, 1, 2, 4, 5, 6] [0, 1, 2, 4, 5, 6] [(22, .pointer (some (⟨g0, 0, none⟩))), (26, .pointer (some (⟨g0, 1, none⟩)))] (by kernel_rfl) ?_
      refine takeD2 (i := 3) (d := (some 23)) (s := vS (Instr.loadAt 25 (.pointer (some (⟨g0, 0, none⟩))))) (v := (.slice A0_0 t.f_text.f_b.length c0_0)) hst (by kernel_rfl) (by kernel_rfl) (fun w' hw' => ld_run _ _ _ (by kernel_rfl) (blk_cell hw'.2 rfl)) ?_
      refine stD2 (i := 7) (by kernel_rfl) ⟨H.has, H.blk 0 rfl⟩ (ldR (some 27) 3 (⟨g0, 1, none⟩) (.int .i64 t.f_text.f_at) (by kernel_rfl) (by kernel_rfl) (H.cellB 0 rfl rfl) ?_)
      obtain ⟨ad11, _, ea11, rfl, hc11⟩ := s0_0.at_ ix7 (by decide)
      refine stD2 (i := 8) (by kernel_rfl) ⟨H.has, H.blk 0 rfl⟩ (idxS (some 28) 25 5 1 A0_0 ad11 t.f_text.f_b.length c0_0 .i64 t.f_text.f_at ea11 (by kernel_rfl) (by kernel_rfl) i07 i17 ?_)
      refine stD2 (i := 9) (by kernel_rfl) ⟨H.has, H.blk 0 rfl⟩ (ldR (some 29) 5 (ad11.add (t.f_text.f_at.toNat * 1)) (.int .u8 (x_.toNat : Int)) (by kernel_rfl) (by kernel_rfl) (H.cellI (mc0 (hc11 0 _ rfl))) ?_)
      refine segD2 hst [10] [0, 1, 2, 4, 5, 6, 3, 7, 8, 9, 10] [(2, .int .u8 (x_.toNat : Int))] (by kernel_rfl) ?_
      refine endD2 (by kernel_rfl) ⟨H.has, H.blk 0 rfl⟩ ?_
      refine retR [2] [.int .u8 (x_.toNat : Int)] (by kernel_rfl) (by kernel_rfl) (by kernel_rfl) ?_
      have hret := (Option.some.inj hf)
      subst hret
      exact ⟨_, rfl, m, rfl, H⟩
theorem manifest_digit_c {m : Mem} {w : World} (hm : Has m w) (c : UInt8) :
    Calls Tryd.prog 47 #[.int .u8 (c.toNat : Int)] w fun e w' => ∃ v, e = .returned v ∧ v = .int .i64 (manifest_digit c) ∧ Ex w w' := by
  generalize hf : manifest_digit c = r
  unfold manifest_digit at hf
  have H := St.start0 hm
  refine callsR Tryd.func47 (by kernel_rfl) (by kernel_rfl) ?_
  refine seg 11 [.op [1, 0, 0, 0] 3, .co [1, 0, 0, 1], .bl 0, .co [1, 1]] [(0, .int .u8 (c.toNat : Int)), (6, .bool (decide ((c.toNat : Int) ≥ 48)))] (by kernel_rfl) ?_
  rcases condT hf with ⟨hb20, hf⟩ | ⟨hb20, hf⟩
  · rw [hb20]
    have p20 := of_decide_eq_true hb20
    refine seg 5 [.co [1, 0, 0, 1], .bl 0, .co [1, 1]] [(0, .int .u8 (c.toNat : Int)), (3, .bool (decide ((c.toNat : Int) ≤ 57)))] (by kernel_rfl) ?_
    rcases condT hf with ⟨hb21, hf⟩ | ⟨hb21, hf⟩
    · rw [hb21]
      have p21 := of_decide_eq_true hb21
      refine seg 8 [.co [1, 0, 0, 1, 0, 1], .bl 0, .co [1, 1]] [(2, .int .i64 (IntKind.i64.wrap (IntKind.u8.wrap ((c.toNat : Int) - 48))))] (by kernel_rfl) ?_
      rw [q8_sub c (48 : UInt8) (c.toNat : Int) 48 (by rfl) (by rfl)]
      have := (c - (48 : UInt8)).toNat_lt
      rw [show IntKind.i64.wrap ((c - (48 : UInt8)).toNat : Int) = ((c - (48 : UInt8)).toNat : Int) from w64 (by omega)]
      refine retR [2] [.int .i64 ((c - (48 : UInt8)).toNat : Int)] (by kernel_rfl) (by kernel_rfl) (by kernel_rfl) ?_
      obtain rfl : ((c - (48 : UInt8)).toNat : Int) = r := hf
      exact ⟨_, rfl, rfl, H.scalar⟩
    · rw [hb21]
      have p21 := of_decide_eq_false hb21
      refine seg 6 [.op [1, 0, 0, 1, 1, 0] 3, .co [1, 0, 0, 1, 1, 1], .bl 0, .co [1, 1]] [(0, .int .u8 (c.toNat : Int)), (16, .bool (decide ((c.toNat : Int) ≥ 97)))] (by kernel_rfl) ?_
      rcases condT hf with ⟨hb22, hf⟩ | ⟨hb22, hf⟩
      · rw [hb22]
        have p22 := of_decide_eq_true hb22
        refine seg 5 [.co [1, 0, 0, 1, 1, 1], .bl 0, .co [1, 1]] [(0, .int .u8 (c.toNat : Int)), (13, .bool (decide ((c.toNat : Int) ≤ 102)))] (by kernel_rfl) ?_
        rcases condT hf with ⟨hb23, hf⟩ | ⟨hb23, hf⟩
        · rw [hb23]
          have p23 := of_decide_eq_true hb23
          refine seg 9 [.co [1, 0, 0, 1, 1, 1, 0, 1], .bl 0, .co [1, 1]] [(2, .int .i64 (IntKind.i64.wrap ((IntKind.i64.wrap (IntKind.u8.wrap ((c.toNat : Int) - 97))) + 10)))] (by kernel_rfl) ?_
          rw [q8_sub c (97 : UInt8) (c.toNat : Int) 97 (by rfl) (by rfl)]
          have := (c - (97 : UInt8)).toNat_lt
          rw [show IntKind.i64.wrap ((c - (97 : UInt8)).toNat : Int) = ((c - (97 : UInt8)).toNat : Int) from w64 (by omega)]
          have := (c - (97 : UInt8)).toNat_lt
          rw [show IntKind.i64.wrap (((c - (97 : UInt8)).toNat : Int) + 10) = (((c - (97 : UInt8)).toNat : Int) + 10) from w64 (by omega)]
          refine retR [2] [.int .i64 (((c - (97 : UInt8)).toNat : Int) + 10)] (by kernel_rfl) (by kernel_rfl) (by kernel_rfl) ?_
          obtain rfl : (((c - (97 : UInt8)).toNat : Int) + 10) = r := hf
          exact ⟨_, rfl, rfl, H.scalar⟩
        · rw [hb23]
          have p23 := of_decide_eq_false hb23
          refine seg 7 [.co [1, 1, 1]] [(2, .int .i64 (-1))] (by kernel_rfl) ?_
          refine retR [2] [.int .i64 (-1)] (by kernel_rfl) (by kernel_rfl) (by kernel_rfl) ?_
          obtain rfl : (-1) = r := hf
          exact ⟨_, rfl, rfl, H.scalar⟩
      · rw [hb22]
        have p22 := of_decide_eq_false hb22
        refine seg 12 [.co [1, 1, 1]] [(2, .int .i64 (-1))] (by kernel_rfl) ?_
        refine retR [2] [.int .i64 (-1)] (by kernel_rfl) (by kernel_rfl) (by kernel_rfl) ?_
        obtain rfl : (-1) = r := hf
        exact ⟨_, rfl, rfl, H.scalar⟩
  · rw [hb20]
    have p20 := of_decide_eq_false hb20
    refine seg 11 [.op [1, 0, 0, 1, 1, 0] 3, .co [1, 0, 0, 1, 1, 1], .bl 0, .co [1, 1]] [(0, .int .u8 (c.toNat : Int)), (16, .bool (decide ((c.toNat : Int) ≥ 97)))] (by kernel_rfl) ?_
    rcases condT hf with ⟨hb24, hf⟩ | ⟨hb24, hf⟩
    · rw [hb24]
      have p24 := of_decide_eq_true hb24
      refine seg 5 [.co [1, 0, 0, 1, 1, 1], .bl 0, .co [1, 1]] [(0, .int .u8 (c.toNat : Int)), (13, .bool (decide ((c.toNat : Int) ≤ 102)))] (by kernel_rfl) ?_
      rcases condT hf with ⟨hb25, hf⟩ | ⟨hb25, hf⟩
      · rw [hb25]
        have p25 := of_decide_eq_true hb25
        refine seg 9 [.co [1, 0, 0, 1, 1, 1, 0, 1], .bl 0, .co [1, 1]] [(2, .int .i64 (IntKind.i64.wrap ((IntKind.i64.wrap (IntKind.u8.wrap ((c.toNat : Int) - 97))) + 10)))] (by kernel_rfl) ?_
        rw [q8_sub c (97 : UInt8) (c.toNat : Int) 97 (by rfl) (by rfl)]
        have := (c - (97 : UInt8)).toNat_lt
        rw [show IntKind.i64.wrap ((c - (97 : UInt8)).toNat : Int) = ((c - (97 : UInt8)).toNat : Int) from w64 (by omega)]
        have := (c - (97 : UInt8)).toNat_lt
        rw [show IntKind.i64.wrap (((c - (97 : UInt8)).toNat : Int) + 10) = (((c - (97 : UInt8)).toNat : Int) + 10) from w64 (by omega)]
        refine retR [2] [.int .i64 (((c - (97 : UInt8)).toNat : Int) + 10)] (by kernel_rfl) (by kernel_rfl) (by kernel_rfl) ?_
        obtain rfl : (((c - (97 : UInt8)).toNat : Int) + 10) = r := hf
        exact ⟨_, rfl, rfl, H.scalar⟩
      · rw [hb25]
        have p25 := of_decide_eq_false hb25
        refine seg 7 [.co [1, 1, 1]] [(2, .int .i64 (-1))] (by kernel_rfl) ?_
        refine retR [2] [.int .i64 (-1)] (by kernel_rfl) (by kernel_rfl) (by kernel_rfl) ?_
        obtain rfl : (-1) = r := hf
        exact ⟨_, rfl, rfl, H.scalar⟩
    · rw [hb24]
      have p24 := of_decide_eq_false hb24
      refine seg 12 [.co [1, 1, 1]] [(2, .int .i64 (-1))] (by kernel_rfl) ?_
      refine retR [2] [.int .i64 (-1)] (by kernel_rfl) (by kernel_rfl) (by kernel_rfl) ?_
      obtain rfl : (-1) = r := hf
      exact ⟨_, rfl, rfl, H.scalar⟩
theorem manifest_text_fail_c {m : Mem} {w : World} (hm : Has m w) (g0 : Nat) (t : TManifestReader) (A0_0 : Option Addr) (c0_0 : Nat) (s0_0 : SlI rU8 m A0_0 c0_0 t.f_text.f_b) (A0_3 : Option Addr) (c0_3 : Nat) (e_ : Int) (at_ : Int) {F : Nat → Prop} (hsep : Sep m w [blkI g0 [.slice A0_0 t.f_text.f_b.length c0_0, .int .i64 t.f_text.f_at, .int .i64 t.f_text.f_e, .slice A0_3 t.f_l.length c0_3, .bool t.f_full, .bool t.f_more] 56, rowI rApiEntry 44 A0_3 c0_3 t.f_l] F) (hF : ∀ k, F k → m k = none) {r : TManifestReader} (hf : manifest_text_fail t e_ at_ = some r) :
    Calls Tryd.prog 39 #[.pointer (some (⟨g0, 0, none⟩)), .int .i64 e_, .int .i64 at_] w fun e w' => ∃ v, e = .returned v ∧ ∃ Az_o0_0 : Option Addr, ∃ cz_o0_0 : Nat, ∃ Az_o0_3 : Option Addr, ∃ cz_o0_3 : Nat, ∃ m' : Mem, v = .tuple #[] ∧ St w F m m' [blkI g0 [.slice Az_o0_0 r.f_text.f_b.length cz_o0_0, .int .i64 r.f_text.f_at, .int .i64 r.f_text.f_e, .slice Az_o0_3 r.f_l.length cz_o0_3, .bool r.f_full, .bool r.f_more] 56, rowI rApiEntry 44 Az_o0_3 cz_o0_3 r.f_l] w' ∧ SlI rU8 m' Az_o0_0 cz_o0_0 r.f_text.f_b := by
  unfold manifest_text_fail at hf
  have H := St.start hm hsep hF
  refine callsR Tryd.func39 (by kernel_rfl) (by kernel_rfl) ?_
  refine seg 5 [.op [0] 3, .co [1]] [(0, .pointer (some (⟨g0, 0, none⟩))), (1, .int .i64 e_), (2, .int .i64 at_), (8, .pointer (some (⟨g0, 2, none⟩)))] (by kernel_rfl) ?_
  refine st (ldR (some 9) 26 (⟨g0, 2, none⟩) (.int .i64 t.f_text.f_e) (by kernel_rfl) (by kernel_rfl) (H.cellB 0 rfl rfl) ?_)
  refine seg 2 [.co [1]] [(0, .pointer (some (⟨g0, 0, none⟩))), (1, .int .i64 e_), (2, .int .i64 at_), (10, .bool (t.f_text.f_e == 0))] (by kernel_rfl) ?_
  rcases condT hf with ⟨hb4, hf⟩ | ⟨hb4, hf⟩
  · rw [hb4]
    refine seg 8 [.op [1, 0] 6] [(12, .pointer (some (⟨g0, 0, none⟩))), (13, .int .i64 e_), (14, .int .i64 at_), (16, .pointer (some (⟨g0, 2, none⟩)))] (by kernel_rfl) ?_
    refine st (stS none 26 0 g0 2 (.int .i64 e_) [.slice A0_0 t.f_text.f_b.length c0_0, .int .i64 t.f_text.f_at, .int .i64 t.f_text.f_e, .slice A0_3 t.f_l.length c0_3, .bool t.f_full, .bool t.f_more] 56 H rfl (by kernel_rfl) (by kernel_rfl) rfl (of_decide_eq_true rfl) ?_)
    intro w5 H
    refine seg 2 [.op [1, 0] 9] [(14, .int .i64 at_), (18, .pointer (some (⟨g0, 1, none⟩)))] (by kernel_rfl) ?_
    refine st (stS none 3 0 g0 1 (.int .i64 at_) [.slice A0_0 t.f_text.f_b.length c0_0, .int .i64 t.f_text.f_at, .int .i64 e_, .slice A0_3 t.f_l.length c0_3, .bool t.f_full, .bool t.f_more] 56 H rfl (by kernel_rfl) (by kernel_rfl) rfl (of_decide_eq_true rfl) ?_)
    intro w6 H
    refine seg 1 [] [] (by kernel_rfl) ?_
    refine endR [] [] (by kernel_rfl) (by kernel_rfl) ?_
    obtain rfl : ({ f_text := ({ f_b := t.f_text.f_b, f_at := at_, f_e := e_ } : TManifestText), f_l := t.f_l, f_full := t.f_full, f_more := t.f_more } : TManifestReader) = r := (Option.some.inj hf)
    exact ⟨_, rfl, A0_0, c0_0, A0_3, c0_3, m, rfl, H, s0_0⟩
  · rw [hb4]
    refine seg 2 [] [] (by kernel_rfl) ?_
    refine endR [] [] (by kernel_rfl) (by kernel_rfl) ?_
    have hret := (Option.some.inj hf)
    subst hret
    exact ⟨_, rfl, A0_0, c0_0, A0_3, c0_3, m, rfl, H, s0_0⟩
theorem manifest_reader_pair_c {m : Mem} {w : World} (hm : Has m w) (g0 : Nat) (r_ : TManifestReader) (A0_0 : Option Addr) (c0_0 : Nat) (s0_0 : SlI rU8 m A0_0 c0_0 r_.f_text.f_b) (A0_3 : Option Addr) (c0_3 : Nat) {F : Nat → Prop} (hsep : Sep m w [blkI g0 [.slice A0_0 r_.f_text.f_b.length c0_0, .int .i64 r_.f_text.f_at, .int .i64 r_.f_text.f_e, .slice A0_3 r_.f_l.length c0_3, .bool r_.f_full, .bool r_.f_more] 56, rowI rApiEntry 44 A0_3 c0_3 r_.f_l] F) (hF : ∀ k, F k → m k = none) {r : (UInt8 × TManifestReader)} (hf : manifest_reader_pair r_ = some r) :
    Calls Tryd.prog 38 #[.pointer (some (⟨g0, 0, none⟩))] w fun e w' => ∃ v, e = .returned v ∧ ∃ Az_o0_0 : Option Addr, ∃ cz_o0_0 : Nat, ∃ Az_o0_3 : Option Addr, ∃ cz_o0_3 : Nat, ∃ m' : Mem, v = .int .u8 (r.1.toNat : Int) ∧ St w F m m' [blkI g0 [.slice Az_o0_0 r.2.f_text.f_b.length cz_o0_0, .int .i64 r.2.f_text.f_at, .int .i64 r.2.f_text.f_e, .slice Az_o0_3 r.2.f_l.length cz_o0_3, .bool r.2.f_full, .bool r.2.f_more] 56, rowI rApiEntry 44 Az_o0_3 cz_o0_3 r.2.f_l] w' ∧ SlI rU8 m' Az_o0_0 cz_o0_0 r.2.f_text.f_b := by
  unfold manifest_reader_pair at hf
  have H := St.start hm hsep hF
  refine callsR Tryd.func38 (by kernel_rfl) (by kernel_rfl) ?_
  refine seg 6 [.op [1, 0] 0, .co [1, 1]] [(0, .pointer (some (⟨g0, 0, none⟩)))] (by kernel_rfl) ?_
  refine st (newS (some 3) (fun g => .pointer (some ⟨g, 0, none⟩)) [.int .i64 0, .int .i64 0] 78 H (by kernel_rfl) ?_)
  intro g1 w1 H
  replace H := H.toArr 0 fI64 (List.replicate 2 (0 : Int)) rfl (by kernel_rfl)
  refine seg 6 [.co [1, 1, 0, 1], .co [1, 1, 1]] [(0, .pointer (some (⟨g0, 0, none⟩))), (3, .pointer (some (⟨g1, 0, none⟩))), (5, .int .i64 0)] (by kernel_rfl) ?_
  obtain ⟨y95, hp95, hfl95, hfr95⟩ := bndE hf
  refine joinR 0 (fun (x : (List Int) × Int × Mem) => [(3, .pointer (some (⟨g1, 0, none⟩)))]) (fun (x : (List Int) × Int × Mem) (wj95 : World) => y95 = .inl (x.1, x.2.1) ∧ St w F m x.2.2 [blkI g1 (x.1.map fI64) 78, blkI g0 [.slice A0_0 r_.f_text.f_b.length c0_0, .int .i64 x.2.1, .int .i64 r_.f_text.f_e, .slice A0_3 r_.f_l.length c0_3, .bool r_.f_full, .bool r_.f_more] 56, rowI rApiEntry 44 A0_3 c0_3 r_.f_l] wj95 ∧ Sub m x.2.2) (by kernel_rfl) ?_ ?_
  · refine seg 1 [.co [1, 1, 0, 1, 0], .bl 0, .le 0, .co [1, 1, 1]] [(0, .pointer (some (⟨g0, 0, none⟩))), (3, .pointer (some (⟨g1, 0, none⟩))), (5, .int .i64 0)] (by kernel_rfl) ?_
    obtain ⟨nn118, hR118⟩ := loopO_iff.1 hp95
    refine loopR 1 (fun (x : Nat × Int × (List Int) × Nat × Mem) => [(0, .pointer (some (⟨g0, 0, none⟩))), (3, .pointer (some (⟨g1, 0, none⟩))), (5, .int .i64 (x.2.2.2.1 : Int))]) (fun (x : Nat × Int × (List Int) × Nat × Mem) (wl118 : World) => iter (fun s => manifest_reader_pair_l1 r_ s.1 s.2.1 s.2.2) x.1 (x.2.1, x.2.2.1, x.2.2.2.1) = some y95 ∧ St w F m x.2.2.2.2 [blkI g0 [.slice A0_0 r_.f_text.f_b.length c0_0, .int .i64 x.2.1, .int .i64 r_.f_text.f_e, .slice A0_3 r_.f_l.length c0_3, .bool r_.f_full, .bool r_.f_more] 56, rowI rApiEntry 44 A0_3 c0_3 r_.f_l, blkI g1 (x.2.2.1.map fI64) 78] wl118 ∧ Sub m x.2.2.2.2) (fun (x : Nat × Int × (List Int) × Nat × Mem) => x.1) (nn118, r_.f_text.f_at, (List.replicate 2 (0 : Int)), 0, m) (by kernel_rfl) (by kernel_rfl) (by kernel_rfl) ?_ ?_
    · exact ⟨hR118, ((H.pull 2 rfl).pull 2 rfl), (Sub.refl _)⟩
    rintro ⟨n118, at_, x_, t, mm119⟩ wl118 ⟨hR118, H, hsub119⟩
    try dsimp only at hR118
    try dsimp only at H
    try dsimp only at hsub119
    obtain ⟨nk118, q118, rfl, hb_118, hnx118, hfin118⟩ := iterE hR118
    replace hb_118 : manifest_reader_pair_l1 r_ at_ x_ t = some q118 := hb_118
    unfold manifest_reader_pair_l1 at hb_118
    refine seg 5 [.co [1, 1, 0, 1, 0, 0, 1, 0], .co [1, 1, 0, 1, 0, 0, 1, 1], .le 1, .bl 0, .le 0, .co [1, 1, 1]] [(0, .pointer (some (⟨g0, 0, none⟩))), (3, .pointer (some (⟨g1, 0, none⟩))), (5, .int .i64 (t : Int)), (6, .bool (decide ((t : Int) < 2)))] (by kernel_rfl) ?_
    rcases condT hb_118 with ⟨hb120, hb_118⟩ | ⟨hb120, hb_118⟩
    · rw [hb120]
      have p120 := of_decide_eq_true hb120
      refine seg 15 [.op [1, 1, 0, 1, 0, 0, 1, 1, 0, 0, 1, 0] 4, .co [1, 1, 0, 1, 0, 0, 1, 1, 0, 0, 1, 1], .bl 1, .co [1, 1, 0, 1, 0, 0, 1, 1, 1], .le 1, .bl 0, .le 0, .co [1, 1, 1]] [(0, .pointer (some (⟨g0, 0, none⟩))), (3, .pointer (some (⟨g1, 0, none⟩))), (4, .int .i64 (t : Int)), (5, .int .i64 (t : Int)), (8, .int .i64 (t : Int)), (11, .pointer (some (⟨g0, 0, none⟩)))] (by kernel_rfl) ?_
      replace H : St w F m mm119 [blkI g0 [.slice A0_0 r_.f_text.f_b.length c0_0, .int .i64 at_, .int .i64 r_.f_text.f_e, .slice A0_3 r_.f_l.length c0_3, .bool r_.f_full, .bool r_.f_more] 56, rowI rApiEntry 44 A0_3 c0_3 r_.f_l, blkI g1 (x_.map fI64) 78] wl118 := H
      obtain ⟨peek, h_peek, hb_118⟩ := bindE hb_118
      obtain ⟨F121, hse121, hFn121, hcl121⟩ := St.call [blkI g0 [.slice A0_0 r_.f_text.f_b.length c0_0, .int .i64 at_, .int .i64 r_.f_text.f_e, .slice A0_3 r_.f_l.length c0_3, .bool r_.f_full, .bool r_.f_more] 56, rowI rApiEntry 44 A0_3 c0_3 r_.f_l] ((H.pull 1 rfl).pull 1 rfl)
      refine st (callR (some 12) 37 #[.pointer (some (⟨g0, 0, none⟩))] Tryd.call37 (manifest_text_peek_c H.has g0 ({ f_text := ({ f_b := r_.f_text.f_b, f_at := at_, f_e := r_.f_text.f_e } : TManifestText), f_l := r_.f_l, f_full := r_.f_full, f_more := r_.f_more } : TManifestReader) A0_0 c0_0 (s0_0.mono hsub119) A0_3 c0_3 hse121 hFn121 h_peek) (by kernel_rfl) ?_)
      rintro _ w121 ⟨mk121, rfl, hS121⟩
      have hsub121 := hS121.sub
      replace H := hcl121 _ _ _ hS121
      refine st (callR (some 13) 47 #[.int .u8 (peek.toNat : Int)] Tryd.call47 (manifest_digit_c H.has peek) (by kernel_rfl) ?_)
      rintro _ w122 ⟨rfl, hx122⟩
      replace H := H.ex hx122
      obtain ⟨x_1, h_x_1, hb_118⟩ := bindE hb_118
      obtain ⟨hc123, hb_118⟩ := chkE hb_118
      obtain ⟨i0124, i1124, ix124⟩ := idx_some h_x_1
      refine st (idxAS (some 14) 78 2 3 g1 .i64 (t : Int) (by kernel_rfl) (by kernel_rfl) i0124 (of_decide_eq_true hc123) ?_)
      refine st (stAS fI64 none 3 2 g1 ((t : Int).toNat) (manifest_digit peek) x_ 78 H rfl (by kernel_rfl) (by kernel_rfl) rfl (List.getElem?_eq_some_iff.1 ix124).1 ?_)
      intro w125 H
      refine seg 5 [.op [1, 1, 0, 1, 0, 0, 1, 1, 0, 0, 1, 1, 0, 0] 1, .co [1, 1, 0, 1, 0, 0, 1, 1, 0, 0, 1, 1, 0, 1], .co [1, 1, 0, 1, 0, 0, 1, 1, 0, 0, 1, 1, 1], .bl 1, .co [1, 1, 0, 1, 0, 0, 1, 1, 1], .le 1, .bl 0, .le 0, .co [1, 1, 1]] [(0, .pointer (some (⟨g0, 0, none⟩))), (3, .pointer (some (⟨g1, 0, none⟩))), (5, .int .i64 (t : Int)), (15, .int .i64 (t : Int))] (by kernel_rfl) ?_
      obtain ⟨x_2, h_x_2, hb_118⟩ := bindE hb_118
      obtain ⟨hc126, hb_118⟩ := chkE hb_118
      obtain ⟨i0127, i1127, ix127⟩ := idx_some h_x_2
      refine st (idxAS (some 16) 78 2 3 g1 .i64 (t : Int) (by kernel_rfl) (by kernel_rfl) i0127 (of_decide_eq_true hc126) ?_)
      refine st (ldR (some 17) 3 (⟨g1, (t : Int).toNat, none⟩) (.int .i64 x_2) (by kernel_rfl) (by kernel_rfl) (H.cellA 2 rfl ix127) ?_)
      refine seg 2 [.co [1, 1, 0, 1, 0, 0, 1, 1, 0, 0, 1, 1, 0, 1], .co [1, 1, 0, 1, 0, 0, 1, 1, 0, 0, 1, 1, 1], .bl 1, .co [1, 1, 0, 1, 0, 0, 1, 1, 1], .le 1, .bl 0, .le 0, .co [1, 1, 1]] [(0, .pointer (some (⟨g0, 0, none⟩))), (3, .pointer (some (⟨g1, 0, none⟩))), (5, .int .i64 (t : Int)), (18, .bool (decide (x_2 < 0)))] (by kernel_rfl) ?_
      rcases condT hb_118 with ⟨hb128, hb_118⟩ | ⟨hb128, hb_118⟩
      · rw [hb128]
        have p128 := of_decide_eq_true hb128
        refine seg 2 [.co [1, 1, 0, 1, 0, 0, 1, 1, 0, 0, 1, 1, 0, 1, 0, 0], .co [1, 1, 0, 1, 0, 0, 1, 1, 0, 0, 1, 1, 0, 1, 0, 1], .co [1, 1, 0, 1, 0, 0, 1, 1, 0, 0, 1, 1, 1], .bl 1, .co [1, 1, 0, 1, 0, 0, 1, 1, 1], .le 1, .bl 0, .le 0, .co [1, 1, 1]] [(0, .pointer (some (⟨g0, 0, none⟩)))] (by kernel_rfl) ?_
        obtain ⟨fail, h_fail, hb_118⟩ := bindE hb_118
        have hst : statB (bodyOf Tryd.f38) [1, 1, 0, 1, 0, 0, 1, 1, 0, 0, 1, 1, 0, 1, 0, 0] = true := by kernel_rfl
        refine drawS (Has mk121) H (by kernel_rfl) (by kernel_rfl) ?_
        intro w130 H
        refine segD2 hst [0, 1, 2, 3, 4, 5, 6] [0, 1, 2, 3, 4, 5, 6] [(21, .pointer (some (⟨g0, 0, none⟩))), (25, .pointer (some (⟨g0, 1, none⟩)))] (by kernel_rfl) ?_
        replace H : St w F m mk121 [blkI g0 [.slice A0_0 r_.f_text.f_b.length c0_0, .int .i64 at_, .int .i64 r_.f_text.f_e, .slice A0_3 r_.f_l.length c0_3, .bool r_.f_full, .bool r_.f_more] 56, rowI rApiEntry 44 A0_3 c0_3 r_.f_l] w130 := (H.drop 2 rfl)
        refine stD2 (i := 7) (by kernel_rfl) H.has (ldR (some 26) 3 (⟨g0, 1, none⟩) (.int .i64 at_) (by kernel_rfl) (by kernel_rfl) (H.cellB 0 rfl rfl) ?_)
        replace H := ((H.pull 1 rfl).pull 1 rfl)
        obtain ⟨F131, hse131, hFn131, hcl131⟩ := St.call [blkI g0 [.slice A0_0 r_.f_text.f_b.length c0_0, .int .i64 at_, .int .i64 r_.f_text.f_e, .slice A0_3 r_.f_l.length c0_3, .bool r_.f_full, .bool r_.f_more] 56, rowI rApiEntry 44 A0_3 c0_3 r_.f_l] H
        refine stD2 (i := 8) (by kernel_rfl) H.has (callR (some 27) 39 #[.pointer (some (⟨g0, 0, none⟩)), .int .i64 6, .int .i64 at_] Tryd.call39 (manifest_text_fail_c H.has g0 ({ f_text := ({ f_b := r_.f_text.f_b, f_at := at_, f_e := r_.f_text.f_e } : TManifestText), f_l := r_.f_l, f_full := r_.f_full, f_more := r_.f_more } : TManifestReader) A0_0 c0_0 (s0_0.mono (hsub119.trans hsub121)) A0_3 c0_3 6 at_ hse131 hFn131 h_fail) (by kernel_rfl) ?_)
        rintro _ w131 ⟨A131_o0_0, c131_o0_0, A131_o0_3, c131_o0_3, mk131, rfl, hS131, hs131_0⟩
        have hsub131 := hS131.sub
        replace H := hcl131 _ _ _ hS131
        refine endD2 (by kernel_rfl) (H.has.sub hsub131) ?_
        refine seg 4 [.co [1, 1, 0, 1, 0, 0, 1, 1, 0, 0, 1, 1, 0, 1, 0, 1, 1], .co [1, 1, 0, 1, 0, 0, 1, 1, 0, 0, 1, 1, 1], .bl 1, .co [1, 1, 0, 1, 0, 0, 1, 1, 1], .le 1, .bl 0, .le 0, .co [1, 1, 1]] [(2, .int .u8 0)] (by kernel_rfl) ?_
        refine retR [2] [.int .u8 0] (by kernel_rfl) (by kernel_rfl) (by kernel_rfl) ?_
        obtain rfl : ((0 : UInt8), fail) = r := (hfr95 _ (hfin118 _ (Option.some.inj hb_118).symm).symm)
        exact ⟨_, rfl, A131_o0_0, c131_o0_0, A131_o0_3, c131_o0_3, mk131, rfl, H, hs131_0⟩
      · rw [hb128]
        have p128 := of_decide_eq_false hb128
        refine seg 7 [.op [1, 1, 0, 1, 0, 0, 1, 1, 0, 0, 1, 1, 1] 4, .bl 1, .co [1, 1, 0, 1, 0, 0, 1, 1, 1], .le 1, .bl 0, .le 0, .co [1, 1, 1]] [(0, .pointer (some (⟨g0, 0, none⟩))), (3, .pointer (some (⟨g1, 0, none⟩))), (5, .int .i64 (t : Int)), (28, .pointer (some (⟨g0, 0, none⟩))), (31, .pointer (some (⟨g0, 1, none⟩)))] (by kernel_rfl) ?_
        refine st (ldR (some 32) 3 (⟨g0, 1, none⟩) (.int .i64 at_) (by kernel_rfl) (by kernel_rfl) (H.cellB 0 rfl rfl) ?_)
        refine seg 4 [.op [1, 1, 0, 1, 0, 0, 1, 1, 0, 0, 1, 1, 1] 9, .bl 1, .co [1, 1, 0, 1, 0, 0, 1, 1, 1], .le 1, .bl 0, .le 0, .co [1, 1, 1]] [(0, .pointer (some (⟨g0, 0, none⟩))), (3, .pointer (some (⟨g1, 0, none⟩))), (5, .int .i64 (t : Int)), (33, .int .i64 (IntKind.i64.wrap (at_ + 1))), (36, .pointer (some (⟨g0, 1, none⟩)))] (by kernel_rfl) ?_
        refine st (stS none 3 0 g0 1 (.int .i64 (IntKind.i64.wrap (at_ + 1))) [.slice A0_0 r_.f_text.f_b.length c0_0, .int .i64 at_, .int .i64 r_.f_text.f_e, .slice A0_3 r_.f_l.length c0_3, .bool r_.f_full, .bool r_.f_more] 56 H rfl (by kernel_rfl) (by kernel_rfl) rfl (of_decide_eq_true rfl) ?_)
        intro w132 H
        refine seg 6 [.le 1, .bl 0, .le 0, .co [1, 1, 1]] [(0, .pointer (some (⟨g0, 0, none⟩))), (3, .pointer (some (⟨g1, 0, none⟩))), (5, .int .i64 (IntKind.i64.wrap ((t : Int) + 1)))] (by kernel_rfl) ?_
        rw [show IntKind.i64.wrap ((t : Int) + 1) = ((t : Int) + 1) from w64 (by omega)]
        refine leR (nk118, (IntKind.i64.wrap (at_ + 1)), (x_.set ((t : Int).toNat) (manifest_digit peek)), (t + 1), mk121) (Nat.lt_succ_self _) ⟨hnx118 _ (Option.some.inj hb_118).symm, H, (hsub119.trans hsub121)⟩ (by kernel_rfl)
    · rw [hb120]
      have p120 := of_decide_eq_false hb120
      refine seg 2 [.le 0, .co [1, 1, 1]] [(3, .pointer (some (⟨g1, 0, none⟩)))] (by kernel_rfl) ?_
      refine leR_up (k' := []) (by rfl) ?_
      refine leJ (x_, at_, mm119) ⟨(hfin118 _ (Option.some.inj hb_118).symm).symm, (((H.pull 1 rfl).pull 1 rfl).pull 2 rfl), hsub119⟩ (by kernel_rfl)
  rintro ⟨x_, at_, mm96⟩ wj95 ⟨hy95, H, hsub96⟩
  try dsimp only at hy95
  try dsimp only at H
  try dsimp only at hsub96
  have hf := hfl95 _ hy95
  try dsimp only at hf
  refine seg 2 [.op [1, 1, 1, 0] 0, .co [1, 1, 1, 1]] [(3, .pointer (some (⟨g1, 0, none⟩)))] (by kernel_rfl) ?_
  obtain ⟨x_3, h_x_3, hf⟩ := bindE hf
  obtain ⟨i0133, i1133, ix133⟩ := idx_some h_x_3
  refine st (idxAS (some 38) 78 2 3 g1 .i64 0 (by kernel_rfl) (by kernel_rfl) i0133 (by decide) ?_)
  refine st (ldR (some 39) 3 (⟨g1, (0 : Int).toNat, none⟩) (.int .i64 x_3) (by kernel_rfl) (by kernel_rfl) (H.cellA 0 rfl ix133) ?_)
  refine st (runR (by kernel_rfl : fetch _ _ _ _ _ = some ((some 40), vS (Op.shift .shl .i64 x_3 .u64 4))) (shlI_run _ _ (by decide)) ?_)
  obtain ⟨x_4, h_x_4, hf⟩ := bindE hf
  obtain ⟨i0134, i1134, ix134⟩ := idx_some h_x_4
  refine st (idxAS (some 41) 78 2 3 g1 .i64 1 (by kernel_rfl) (by kernel_rfl) i0134 (by decide) ?_)
  refine st (ldR (some 42) 3 (⟨g1, (1 : Int).toNat, none⟩) (.int .i64 x_4) (by kernel_rfl) (by kernel_rfl) (H.cellA 0 rfl ix134) ?_)
  refine seg 4 [.co [1, 1, 1, 1]] [(2, .int .u8 (IntKind.u8.wrap (Go.bits .or .i64 (shlI x_3 4) x_4)))] (by kernel_rfl) ?_
  rw [q8_wrap (Go.bits .or .i64 (shlI x_3 4) x_4)]
  refine retR [2] [.int .u8 ((UInt8.ofInt (Go.bits .or .i64 (shlI x_3 4) x_4)).toNat : Int)] (by kernel_rfl) (by kernel_rfl) (by kernel_rfl) ?_
  obtain rfl : ((UInt8.ofInt (Go.bits .or .i64 (shlI x_3 4) x_4)), ({ f_text := ({ f_b := r_.f_text.f_b, f_at := at_, f_e := r_.f_text.f_e } : TManifestText), f_l := r_.f_l, f_full := r_.f_full, f_more := r_.f_more } : TManifestReader)) = r := (Option.some.inj hf)
  exact ⟨_, rfl, A0_0, c0_0, A0_3, c0_3, mm96, rfl, (St.takeN 2 ((H.pull 2 rfl).pull 2 rfl)), (s0_0.mono hsub96)⟩
theorem manifest_reader_word_c {m : Mem} {w : World} (hm : Has m w) (g0 : Nat) (r_ : TManifestReader) (A0_0 : Option Addr) (c0_0 : Nat) (s0_0 : SlI rU8 m A0_0 c0_0 r_.f_text.f_b) (A0_3 : Option Addr) (c0_3 : Nat) {F : Nat → Prop} (hsep : Sep m w [blkI g0 [.slice A0_0 r_.f_text.f_b.length c0_0, .int .i64 r_.f_text.f_at, .int .i64 r_.f_text.f_e, .slice A0_3 r_.f_l.length c0_3, .bool r_.f_full, .bool r_.f_more] 56, rowI rApiEntry 44 A0_3 c0_3 r_.f_l] F) (hF : ∀ k, F k → m k = none) {r : ((List UInt8) × TManifestReader)} (hf : manifest_reader_word r_ = some r) :
    Calls Tryd.prog 24 #[.pointer (some (⟨g0, 0, none⟩))] w fun e w' => ∃ v, e = .returned v ∧ ∃ Az_o0_0 : Option Addr, ∃ cz_o0_0 : Nat, ∃ Az_o0_3 : Option Addr, ∃ cz_o0_3 : Nat, ∃ m' : Mem, v = .string ⟨r.1.toArray⟩ ∧ St w F m m' [blkI g0 [.slice Az_o0_0 r.2.f_text.f_b.length cz_o0_0, .int .i64 r.2.f_text.f_at, .int .i64 r.2.f_text.f_e, .slice Az_o0_3 r.2.f_l.length cz_o0_3, .bool r.2.f_full, .bool r.2.f_more] 56, rowI rApiEntry 44 Az_o0_3 cz_o0_3 r.2.f_l] w' ∧ SlI rU8 m' Az_o0_0 cz_o0_0 r.2.f_text.f_b ∧ r.1.length ≤ 9223372036854775807 := by
  unfold manifest_reader_word at hf
  have H := St.start hm hsep hF
  refine callsR Tryd.func24 (by kernel_rfl) (by kernel_rfl) ?_
  refine seg 15 [.op [1, 1, 0, 0] 4, .co [1, 1, 0, 1], .co [1, 1, 1]] [(0, .pointer (some (⟨g0, 0, none⟩))), (3, .slice none 0 0), (11, .pointer (some (⟨g0, 1, none⟩)))] (by kernel_rfl) ?_
  refine st (ldR (some 12) 3 (⟨g0, 1, none⟩) (.int .i64 r_.f_text.f_at) (by kernel_rfl) (by kernel_rfl) (H.cellB 0 rfl rfl) ?_)
  refine seg 2 [.co [1, 1, 0, 1], .co [1, 1, 1]] [(0, .pointer (some (⟨g0, 0, none⟩))), (3, .slice none 0 0), (4, .int .i64 r_.f_text.f_at)] (by kernel_rfl) ?_
  obtain ⟨y440, hp440, hfl440, hfr440⟩ := bndE hf
  refine joinR 0 (fun (x : (List UInt8) × Int × Int × (List TApiEntry) × Bool × Bool × Option Addr × Nat × Option Addr × Nat × Mem) => []) (fun (x : (List UInt8) × Int × Int × (List TApiEntry) × Bool × Bool × Option Addr × Nat × Option Addr × Nat × Mem) (wj440 : World) => y440 = .inl (x.1, x.2.1, x.2.2.1, x.2.2.2.1, x.2.2.2.2.1, x.2.2.2.2.2.1) ∧ St w F m x.2.2.2.2.2.2.2.2.2.2 [blkI g0 [.slice (x.2.2.2.2.2.2.1) x.1.length (x.2.2.2.2.2.2.2.1), .int .i64 x.2.1, .int .i64 x.2.2.1, .slice (x.2.2.2.2.2.2.2.2.1) x.2.2.2.1.length (x.2.2.2.2.2.2.2.2.2.1), .bool x.2.2.2.2.1, .bool x.2.2.2.2.2.1] 56, rowI rApiEntry 44 (x.2.2.2.2.2.2.2.2.1) (x.2.2.2.2.2.2.2.2.2.1) x.2.2.2.1] wj440 ∧ Sub m x.2.2.2.2.2.2.2.2.2.2 ∧ SlI rU8 x.2.2.2.2.2.2.2.2.2.2 x.2.2.2.2.2.2.1 x.2.2.2.2.2.2.2.1 x.1) (by kernel_rfl) ?_ ?_
  · refine seg 1 [.co [1, 1, 0, 1, 0], .bl 0, .le 0, .co [1, 1, 1]] [(0, .pointer (some (⟨g0, 0, none⟩))), (3, .slice none 0 0), (4, .int .i64 r_.f_text.f_at)] (by kernel_rfl) ?_
    have H := H.nilR rU8 5
    obtain ⟨nn528, hR528⟩ := loopO_iff.1 hp440
    refine loopR 1 (fun (x : Nat × (List UInt8) × Int × Int × (List TApiEntry) × Bool × Bool × (List UInt8) × Option Addr × Nat × Option Addr × Nat × Option Addr × Nat × Mem) => [(0, .pointer (some (⟨g0, 0, none⟩))), (3, .slice (x.2.2.2.2.2.2.2.2.2.2.2.2.1) x.2.2.2.2.2.2.2.1.length (x.2.2.2.2.2.2.2.2.2.2.2.2.2.1)), (4, .int .i64 r_.f_text.f_at)]) (fun (x : Nat × (List UInt8) × Int × Int × (List TApiEntry) × Bool × Bool × (List UInt8) × Option Addr × Nat × Option Addr × Nat × Option Addr × Nat × Mem) (wl528 : World) => iter (fun s => manifest_reader_word_l1 r_ s.1 s.2.1 s.2.2.1 s.2.2.2.1 s.2.2.2.2.1 s.2.2.2.2.2.1 s.2.2.2.2.2.2) x.1 (x.2.1, x.2.2.1, x.2.2.2.1, x.2.2.2.2.1, x.2.2.2.2.2.1, x.2.2.2.2.2.2.1, x.2.2.2.2.2.2.2.1) = some y440 ∧ St w F m x.2.2.2.2.2.2.2.2.2.2.2.2.2.2 [blkI g0 [.slice (x.2.2.2.2.2.2.2.2.1) x.2.1.length (x.2.2.2.2.2.2.2.2.2.1), .int .i64 x.2.2.1, .int .i64 x.2.2.2.1, .slice (x.2.2.2.2.2.2.2.2.2.2.1) x.2.2.2.2.1.length (x.2.2.2.2.2.2.2.2.2.2.2.1), .bool x.2.2.2.2.2.1, .bool x.2.2.2.2.2.2.1] 56, rowI rApiEntry 44 (x.2.2.2.2.2.2.2.2.2.2.1) (x.2.2.2.2.2.2.2.2.2.2.2.1) x.2.2.2.2.1, rowI rU8 5 (x.2.2.2.2.2.2.2.2.2.2.2.2.1) (x.2.2.2.2.2.2.2.2.2.2.2.2.2.1) x.2.2.2.2.2.2.2.1] wl528 ∧ Sub m x.2.2.2.2.2.2.2.2.2.2.2.2.2.2 ∧ SlI rU8 x.2.2.2.2.2.2.2.2.2.2.2.2.2.2 x.2.2.2.2.2.2.2.2.1 x.2.2.2.2.2.2.2.2.2.1 x.2.1) (fun (x : Nat × (List UInt8) × Int × Int × (List TApiEntry) × Bool × Bool × (List UInt8) × Option Addr × Nat × Option Addr × Nat × Option Addr × Nat × Mem) => x.1) (nn528, r_.f_text.f_b, r_.f_text.f_at, r_.f_text.f_e, r_.f_l, r_.f_full, r_.f_more, [], A0_0, c0_0, A0_3, c0_3, none, 0, m) (by kernel_rfl) (by kernel_rfl) (by kernel_rfl) ?_ ?_
    · exact ⟨hR528, ((H.pull 2 rfl).pull 2 rfl), (Sub.refl _), s0_0⟩
    rintro ⟨n528, b, at_, e_, l_, full, more, b1, A_1_529, c_2_529, A_3_529, c_4_529, A_5_529, c_6_529, mm529⟩ wl528 ⟨hR528, H, hsub529, hs529_0⟩
    try dsimp only at hR528
    try dsimp only at H
    try dsimp only at hsub529
    try dsimp only at hs529_0
    obtain ⟨nk528, q528, rfl, hb_528, hnx528, hfin528⟩ := iterE hR528
    replace hb_528 : manifest_reader_word_l1 r_ b at_ e_ l_ full more b1 = some q528 := hb_528
    unfold manifest_reader_word_l1 at hb_528
    refine seg 7 [.op [1, 1, 0, 1, 0, 0, 0, 0] 4, .co [1, 1, 0, 1, 0, 0, 0, 1], .co [1, 1, 0, 1, 0, 0, 1], .le 1, .bl 0, .le 0, .co [1, 1, 1]] [(0, .pointer (some (⟨g0, 0, none⟩))), (3, .slice A_5_529 b1.length c_6_529), (4, .int .i64 r_.f_text.f_at), (16, .pointer (some (⟨g0, 2, none⟩)))] (by kernel_rfl) ?_
    refine st (ldR (some 17) 26 (⟨g0, 2, none⟩) (.int .i64 e_) (by kernel_rfl) (by kernel_rfl) (H.cellB 0 rfl rfl) ?_)
    refine seg 2 [.co [1, 1, 0, 1, 0, 0, 0, 1], .co [1, 1, 0, 1, 0, 0, 1], .le 1, .bl 0, .le 0, .co [1, 1, 1]] [(0, .pointer (some (⟨g0, 0, none⟩))), (3, .slice A_5_529 b1.length c_6_529), (4, .int .i64 r_.f_text.f_at), (18, .bool (e_ == 0))] (by kernel_rfl) ?_
    rcases condT hb_528 with ⟨hb530, hb_528⟩ | ⟨hb530, hb_528⟩
    · rw [hb530]
      refine seg 8 [.op [1, 1, 0, 1, 0, 0, 1, 0, 0] 3, .co [1, 1, 0, 1, 0, 0, 1, 0, 1], .bl 1, .le 1, .bl 0, .le 0, .co [1, 1, 1]] [(0, .pointer (some (⟨g0, 0, none⟩))), (3, .slice A_5_529 b1.length c_6_529), (4, .int .i64 r_.f_text.f_at), (21, .pointer (some (⟨g0, 0, none⟩)))] (by kernel_rfl) ?_
      obtain ⟨peek, h_peek, hb_528⟩ := bindE hb_528
      obtain ⟨F531, hse531, hFn531, hcl531⟩ := St.call [blkI g0 [.slice A_1_529 b.length c_2_529, .int .i64 at_, .int .i64 e_, .slice A_3_529 l_.length c_4_529, .bool full, .bool more] 56, rowI rApiEntry 44 A_3_529 c_4_529 l_] ((H.pull 1 rfl).pull 1 rfl)
      refine st (callR (some 22) 37 #[.pointer (some (⟨g0, 0, none⟩))] Tryd.call37 (manifest_text_peek_c H.has g0 ({ f_text := ({ f_b := b, f_at := at_, f_e := e_ } : TManifestText), f_l := l_, f_full := full, f_more := more } : TManifestReader) A_1_529 c_2_529 hs529_0 A_3_529 c_4_529 hse531 hFn531 h_peek) (by kernel_rfl) ?_)
      rintro _ w531 ⟨mk531, rfl, hS531⟩
      have hsub531 := hS531.sub
      replace H := hcl531 _ _ _ hS531
      refine seg 6 [.op [1, 1, 0, 1, 0, 0, 1, 0, 1, 0, 0] 1, .co [1, 1, 0, 1, 0, 0, 1, 0, 1, 0, 1], .bl 2, .bl 1, .le 1, .bl 0, .le 0, .co [1, 1, 1]] [(0, .pointer (some (⟨g0, 0, none⟩))), (3, .slice A_5_529 b1.length c_6_529), (4, .int .i64 r_.f_text.f_at), (5, .int .u8 (peek.toNat : Int)), (42, .int .u8 (peek.toNat : Int))] (by kernel_rfl) ?_
      replace H : St w F m mk531 [blkI g0 [.slice A_1_529 b.length c_2_529, .int .i64 at_, .int .i64 e_, .slice A_3_529 l_.length c_4_529, .bool full, .bool more] 56, rowI rApiEntry 44 A_3_529 c_4_529 l_, rowI rU8 5 A_5_529 c_6_529 b1] w531 := H
      refine st (callR (some 43) 23 #[.int .u8 (peek.toNat : Int)] Tryd.call23 (manifest_plain_c H.has peek) (by kernel_rfl) ?_)
      rintro _ w532 ⟨rfl, hx532⟩
      replace H := H.ex hx532
      refine seg 2 [.co [1, 1, 0, 1, 0, 0, 1, 0, 1, 0, 1], .bl 2, .bl 1, .le 1, .bl 0, .le 0, .co [1, 1, 1]] [(0, .pointer (some (⟨g0, 0, none⟩))), (3, .slice A_5_529 b1.length c_6_529), (4, .int .i64 r_.f_text.f_at), (5, .int .u8 (peek.toNat : Int)), (41, .bool (manifest_plain peek))] (by kernel_rfl) ?_
      rcases condT hb_528 with ⟨hb533, hb_528⟩ | ⟨hb533, hb_528⟩
      · rw [hb533]
        refine seg 5 [.op [1, 1, 0, 1, 0, 0, 1, 0, 1, 0, 1, 0, 0] 2, .co [1, 1, 0, 1, 0, 0, 1, 0, 1, 0, 1, 0, 1], .bl 2, .bl 1, .le 1, .bl 0, .le 0, .co [1, 1, 1]] [(0, .pointer (some (⟨g0, 0, none⟩))), (4, .int .i64 r_.f_text.f_at), (44, .slice A_5_529 b1.length c_6_529), (45, .int .u8 (peek.toNat : Int))] (by kernel_rfl) ?_
        refine st (newS (some 46) (fun g => .slice (some ⟨g, 0, none⟩) 1 1) [.int .u8 (peek.toNat : Int)] 5 H (by kernel_rfl) ?_)
        intro g534 w534 H
        obtain ⟨b2, h_b2, hb_528⟩ := bindE hb_528
        refine st (appS (r := rU8) (some 47) 25 5 1 (.int .u8 0) 25 3 A_5_529 (some ⟨g534, 0, none⟩) c_6_529 1 1 b1 [peek] b2 _ H rfl ⟨Tryd.underlying25, by kernel_rfl⟩ rfl (by decide) (by kernel_rfl) (Cs.of_blk (H.blk 0 rfl)) (Rows.u8.2 rfl) rfl h_b2 (by decide) (by decide) ?_)
        intro A535 c535 w535 H
        replace H := H.drop 0 rfl
        refine seg 7 [.op [1, 1, 0, 1, 0, 0, 1, 0, 1, 0, 1, 0, 1] 4, .bl 2, .bl 1, .le 1, .bl 0, .le 0, .co [1, 1, 1]] [(0, .pointer (some (⟨g0, 0, none⟩))), (3, .slice A535 b2.length c535), (4, .int .i64 r_.f_text.f_at), (48, .pointer (some (⟨g0, 0, none⟩))), (51, .pointer (some (⟨g0, 1, none⟩)))] (by kernel_rfl) ?_
        refine st (ldR (some 52) 3 (⟨g0, 1, none⟩) (.int .i64 at_) (by kernel_rfl) (by kernel_rfl) (H.cellB 0 rfl rfl) ?_)
        refine seg 4 [.op [1, 1, 0, 1, 0, 0, 1, 0, 1, 0, 1, 0, 1] 9, .bl 2, .bl 1, .le 1, .bl 0, .le 0, .co [1, 1, 1]] [(0, .pointer (some (⟨g0, 0, none⟩))), (3, .slice A535 b2.length c535), (4, .int .i64 r_.f_text.f_at), (53, .int .i64 (IntKind.i64.wrap (at_ + 1))), (56, .pointer (some (⟨g0, 1, none⟩)))] (by kernel_rfl) ?_
        refine st (stS none 3 0 g0 1 (.int .i64 (IntKind.i64.wrap (at_ + 1))) [.slice A_1_529 b.length c_2_529, .int .i64 at_, .int .i64 e_, .slice A_3_529 l_.length c_4_529, .bool full, .bool more] 56 H rfl (by kernel_rfl) (by kernel_rfl) rfl (of_decide_eq_true rfl) ?_)
        intro w536 H
        refine seg 3 [.le 1, .bl 0, .le 0, .co [1, 1, 1]] [(0, .pointer (some (⟨g0, 0, none⟩))), (3, .slice A535 b2.length c535), (4, .int .i64 r_.f_text.f_at)] (by kernel_rfl) ?_
        refine leR (nk528, b, (IntKind.i64.wrap (at_ + 1)), e_, l_, full, more, b2, A_1_529, c_2_529, A_3_529, c_4_529, A535, c535, mk531) (Nat.lt_succ_self _) ⟨hnx528 _ (Option.some.inj hb_528).symm, H, (hsub529.trans hsub531), (hs529_0.mono hsub531)⟩ (by kernel_rfl)
      · rw [hb533]
        refine seg 7 [.co [1, 1, 0, 1, 0, 0, 1, 0, 1, 0, 1, 1, 1], .bl 2, .bl 1, .le 1, .bl 0, .le 0, .co [1, 1, 1]] [(0, .pointer (some (⟨g0, 0, none⟩))), (3, .slice A_5_529 b1.length c_6_529), (4, .int .i64 r_.f_text.f_at), (57, .bool ((peek.toNat : Int) == 37))] (by kernel_rfl) ?_
        rcases condT hb_528 with ⟨hb537, hb_528⟩ | ⟨hb537, hb_528⟩
        · rw [hb537]
          refine seg 7 [.op [1, 1, 0, 1, 0, 0, 1, 0, 1, 0, 1, 1, 1, 0, 0] 4, .co [1, 1, 0, 1, 0, 0, 1, 0, 1, 0, 1, 1, 1, 0, 1], .bl 2, .bl 1, .le 1, .bl 0, .le 0, .co [1, 1, 1]] [(0, .pointer (some (⟨g0, 0, none⟩))), (3, .slice A_5_529 b1.length c_6_529), (4, .int .i64 r_.f_text.f_at), (60, .pointer (some (⟨g0, 0, none⟩))), (63, .pointer (some (⟨g0, 1, none⟩)))] (by kernel_rfl) ?_
          replace H : St w F m mk531 [blkI g0 [.slice A_1_529 b.length c_2_529, .int .i64 at_, .int .i64 e_, .slice A_3_529 l_.length c_4_529, .bool full, .bool more] 56, rowI rApiEntry 44 A_3_529 c_4_529 l_, rowI rU8 5 A_5_529 c_6_529 b1] w532 := H
          refine st (ldR (some 64) 3 (⟨g0, 1, none⟩) (.int .i64 at_) (by kernel_rfl) (by kernel_rfl) (H.cellB 0 rfl rfl) ?_)
          refine seg 4 [.op [1, 1, 0, 1, 0, 0, 1, 0, 1, 0, 1, 1, 1, 0, 0] 9, .co [1, 1, 0, 1, 0, 0, 1, 0, 1, 0, 1, 1, 1, 0, 1], .bl 2, .bl 1, .le 1, .bl 0, .le 0, .co [1, 1, 1]] [(0, .pointer (some (⟨g0, 0, none⟩))), (3, .slice A_5_529 b1.length c_6_529), (4, .int .i64 r_.f_text.f_at), (65, .int .i64 (IntKind.i64.wrap (at_ + 1))), (68, .pointer (some (⟨g0, 1, none⟩)))] (by kernel_rfl) ?_
          refine st (stS none 3 0 g0 1 (.int .i64 (IntKind.i64.wrap (at_ + 1))) [.slice A_1_529 b.length c_2_529, .int .i64 at_, .int .i64 e_, .slice A_3_529 l_.length c_4_529, .bool full, .bool more] 56 H rfl (by kernel_rfl) (by kernel_rfl) rfl (of_decide_eq_true rfl) ?_)
          intro w538 H
          refine seg 3 [.co [1, 1, 0, 1, 0, 0, 1, 0, 1, 0, 1, 1, 1, 0, 1, 0, 0], .co [1, 1, 0, 1, 0, 0, 1, 0, 1, 0, 1, 1, 1, 0, 1, 0, 1], .co [1, 1, 0, 1, 0, 0, 1, 0, 1, 0, 1, 1, 1, 0, 1, 1], .bl 2, .bl 1, .le 1, .bl 0, .le 0, .co [1, 1, 1]] [(0, .pointer (some (⟨g0, 0, none⟩))), (3, .slice A_5_529 b1.length c_6_529), (4, .int .i64 r_.f_text.f_at)] (by kernel_rfl) ?_
          rcases condT hb_528 with ⟨hb539, hb_528⟩ | ⟨hb539, hb_528⟩
          · rcases condT hb_528 with ⟨hb540, hb_528⟩ | ⟨hb540, hb_528⟩
            · have hst : statB (bodyOf Tryd.f24) [1, 1, 0, 1, 0, 0, 1, 0, 1, 0, 1, 1, 1, 0, 1, 0, 0] = true := by kernel_rfl
              refine drawS (fun w' => Has mk531 w' ∧ w'.heap[g0]? = some (.cells [.slice A_1_529 b.length c_2_529, .int .i64 (IntKind.i64.wrap (at_ + 1)), .int .i64 e_, .slice A_3_529 l_.length c_4_529, .bool full, .bool more].toArray 56 (0, 0))) H (by kernel_rfl) (by kernel_rfl) ?_
              intro w541 H
              refine segD2 hst [0, 1, 2, 3, 5, 6] [0, 1, 2, 3, 5, 6] [(0, .pointer (some (⟨g0, 0, none⟩))), (3, .slice A_5_529 b1.length c_6_529), (4, .int .i64 r_.f_text.f_at), (72, .pointer (some (⟨g0, 1, none⟩))), (75, .int .i64 (IntKind.i64.wrap (r_.f_text.f_at + 1)))] (by kernel_rfl) ?_
              refine stD2 (i := 4) (by kernel_rfl) ⟨H.has, H.blk 0 rfl⟩ (ldR (some 73) 3 (⟨g0, 1, none⟩) (.int .i64 (IntKind.i64.wrap (at_ + 1))) (by kernel_rfl) (by kernel_rfl) (H.cellB 0 rfl rfl) ?_)
              refine segD2 hst [7] [0, 1, 2, 3, 5, 6, 4, 7] [(0, .pointer (some (⟨g0, 0, none⟩))), (3, .slice A_5_529 b1.length c_6_529), (4, .int .i64 r_.f_text.f_at), (76, .bool ((IntKind.i64.wrap (at_ + 1)) == (IntKind.i64.wrap (r_.f_text.f_at + 1))))] (by kernel_rfl) ?_
              rw [show ((IntKind.i64.wrap (at_ + 1)) == (IntKind.i64.wrap (r_.f_text.f_at + 1))) = true from hb539]
              refine segD2 hst [8, 9, 10, 11, 12, 14, 15, 16, 17] [0, 1, 2, 3, 5, 6, 4, 7, 8, 9, 10, 11, 12, 14, 15, 16, 17] [(0, .pointer (some (⟨g0, 0, none⟩))), (3, .slice A_5_529 b1.length c_6_529), (4, .int .i64 r_.f_text.f_at), (77, .bool true), (81, .pointer (some (⟨g0, 1, none⟩))), (86, .pointer (some (⟨g0, 0, none⟩)))] (by kernel_rfl) ?_
              refine takeD2 (i := 13) (d := (some 82)) (s := vS (Instr.loadAt 3 (.pointer (some (⟨g0, 1, none⟩))))) (v := (.int .i64 (IntKind.i64.wrap (at_ + 1)))) hst (by kernel_rfl) (by kernel_rfl) (fun w' hw' => ld_run _ _ _ (by kernel_rfl) (blk_cell hw'.2 rfl)) ?_
              refine stD2 (i := 18) (by kernel_rfl) ⟨H.has, H.blk 0 rfl⟩ (ldR (some 87) 25 (⟨g0, 0, none⟩) (.slice A_1_529 b.length c_2_529) (by kernel_rfl) (by kernel_rfl) (H.cellB 0 rfl rfl) ?_)
              refine segD2 hst [19, 20] [0, 1, 2, 3, 5, 6, 4, 7, 8, 9, 10, 11, 12, 14, 15, 16, 17, 13, 18, 19, 20] [(0, .pointer (some (⟨g0, 0, none⟩))), (3, .slice A_5_529 b1.length c_6_529), (4, .int .i64 r_.f_text.f_at), (77, .bool true), (89, .bool ((IntKind.i64.wrap (at_ + 1)) == (b.length : Int)))] (by kernel_rfl) ?_
              rw [show ((IntKind.i64.wrap (at_ + 1)) == (b.length : Int)) = true from hb540]
              refine segD2 hst [21, 22, 23, 24, 25, 26, 27, 28, 29, 30, 31, 32, 33, 34, 35] [0, 1, 2, 3, 5, 6, 4, 7, 8, 9, 10, 11, 12, 14, 15, 16, 17, 13, 18, 19, 20, 21, 22, 23, 24, 25, 26, 27, 28, 29, 30, 31, 32, 33, 34, 35] [(0, .pointer (some (⟨g0, 0, none⟩))), (3, .slice A_5_529 b1.length c_6_529), (4, .int .i64 r_.f_text.f_at), (104, .bool true)] (by kernel_rfl) ?_
              refine endD2 (by kernel_rfl) ⟨H.has, H.blk 0 rfl⟩ ?_
              refine seg 5 [.co [1, 1, 0, 1, 0, 0, 1, 0, 1, 0, 1, 1, 1, 0, 1, 0, 1, 0, 1], .co [1, 1, 0, 1, 0, 0, 1, 0, 1, 0, 1, 1, 1, 0, 1, 1], .bl 2, .bl 1, .le 1, .bl 0, .le 0, .co [1, 1, 1]] [(2, .string ⟨([] : List UInt8).toArray⟩)] (by kernel_rfl) ?_
              refine retR [2] [.string ⟨([] : List UInt8).toArray⟩] (by kernel_rfl) (by kernel_rfl) (by kernel_rfl) ?_
              obtain rfl : (([] : List UInt8), ({ f_text := ({ f_b := b, f_at := (IntKind.i64.wrap (at_ + 1)), f_e := e_ } : TManifestText), f_l := l_, f_full := full, f_more := more } : TManifestReader)) = r := (hfr440 _ (hfin528 _ (Option.some.inj hb_528).symm).symm)
              exact ⟨_, rfl, A_1_529, c_2_529, A_3_529, c_4_529, mk531, rfl, (St.takeN 2 ((H.pull 1 rfl).pull 1 rfl)), (hs529_0.mono hsub531), (Nat.le_of_ble_eq_true rfl)⟩
            · obtain ⟨peek1, h_peek1, hb_528⟩ := bindE hb_528
              rcases condT hb_528 with ⟨hb543, hb_528⟩ | ⟨hb543, hb_528⟩
              · have hst : statB (bodyOf Tryd.f24) [1, 1, 0, 1, 0, 0, 1, 0, 1, 0, 1, 1, 1, 0, 1, 0, 0] = true := by kernel_rfl
                refine drawS (fun w' => Has mk531 w' ∧ w'.heap[g0]? = some (.cells [.slice A_1_529 b.length c_2_529, .int .i64 (IntKind.i64.wrap (at_ + 1)), .int .i64 e_, .slice A_3_529 l_.length c_4_529, .bool full, .bool more].toArray 56 (0, 0))) H (by kernel_rfl) (by kernel_rfl) ?_
                intro w545 H
                refine segD2 hst [0, 1, 2, 3, 5, 6] [0, 1, 2, 3, 5, 6] [(0, .pointer (some (⟨g0, 0, none⟩))), (3, .slice A_5_529 b1.length c_6_529), (4, .int .i64 r_.f_text.f_at), (72, .pointer (some (⟨g0, 1, none⟩))), (75, .int .i64 (IntKind.i64.wrap (r_.f_text.f_at + 1)))] (by kernel_rfl) ?_
                refine stD2 (i := 4) (by kernel_rfl) ⟨H.has, H.blk 0 rfl⟩ (ldR (some 73) 3 (⟨g0, 1, none⟩) (.int .i64 (IntKind.i64.wrap (at_ + 1))) (by kernel_rfl) (by kernel_rfl) (H.cellB 0 rfl rfl) ?_)
                refine segD2 hst [7] [0, 1, 2, 3, 5, 6, 4, 7] [(0, .pointer (some (⟨g0, 0, none⟩))), (3, .slice A_5_529 b1.length c_6_529), (4, .int .i64 r_.f_text.f_at), (76, .bool ((IntKind.i64.wrap (at_ + 1)) == (IntKind.i64.wrap (r_.f_text.f_at + 1))))] (by kernel_rfl) ?_
                rw [show ((IntKind.i64.wrap (at_ + 1)) == (IntKind.i64.wrap (r_.f_text.f_at + 1))) = true from hb539]
                refine segD2 hst [8, 9, 10, 11, 12, 14, 15, 16, 17] [0, 1, 2, 3, 5, 6, 4, 7, 8, 9, 10, 11, 12, 14, 15, 16, 17] [(0, .pointer (some (⟨g0, 0, none⟩))), (3, .slice A_5_529 b1.length c_6_529), (4, .int .i64 r_.f_text.f_at), (77, .bool true), (81, .pointer (some (⟨g0, 1, none⟩))), (86, .pointer (some (⟨g0, 0, none⟩)))] (by kernel_rfl) ?_
                refine takeD2 (i := 13) (d := (some 82)) (s := vS (Instr.loadAt 3 (.pointer (some (⟨g0, 1, none⟩))))) (v := (.int .i64 (IntKind.i64.wrap (at_ + 1)))) hst (by kernel_rfl) (by kernel_rfl) (fun w' hw' => ld_run _ _ _ (by kernel_rfl) (blk_cell hw'.2 rfl)) ?_
                refine stD2 (i := 18) (by kernel_rfl) ⟨H.has, H.blk 0 rfl⟩ (ldR (some 87) 25 (⟨g0, 0, none⟩) (.slice A_1_529 b.length c_2_529) (by kernel_rfl) (by kernel_rfl) (H.cellB 0 rfl rfl) ?_)
                refine segD2 hst [19, 20] [0, 1, 2, 3, 5, 6, 4, 7, 8, 9, 10, 11, 12, 14, 15, 16, 17, 13, 18, 19, 20] [(0, .pointer (some (⟨g0, 0, none⟩))), (3, .slice A_5_529 b1.length c_6_529), (4, .int .i64 r_.f_text.f_at), (77, .bool true), (89, .bool ((IntKind.i64.wrap (at_ + 1)) == (b.length : Int)))] (by kernel_rfl) ?_
                rw [show ((IntKind.i64.wrap (at_ + 1)) == (b.length : Int)) = false from hb540]
                refine segD2 hst [21, 22, 23, 24] [0, 1, 2, 3, 5, 6, 4, 7, 8, 9, 10, 11, 12, 14, 15, 16, 17, 13, 18, 19, 20, 21, 22, 23, 24] [(0, .pointer (some (⟨g0, 0, none⟩))), (3, .slice A_5_529 b1.length c_6_529), (4, .int .i64 r_.f_text.f_at), (77, .bool true), (90, .bool false), (93, .pointer (some (⟨g0, 0, none⟩)))] (by kernel_rfl) ?_
                replace H := ((H.pull 1 rfl).pull 1 rfl)
                obtain ⟨F546, hse546, hFn546, hcl546⟩ := St.call [blkI g0 [.slice A_1_529 b.length c_2_529, .int .i64 (IntKind.i64.wrap (at_ + 1)), .int .i64 e_, .slice A_3_529 l_.length c_4_529, .bool full, .bool more] 56, rowI rApiEntry 44 A_3_529 c_4_529 l_] H
                refine stD2 (i := 25) (by kernel_rfl) ⟨H.has, H.blk 0 rfl⟩ (callR (some 94) 37 #[.pointer (some (⟨g0, 0, none⟩))] Tryd.call37 (manifest_text_peek_c H.has g0 ({ f_text := ({ f_b := b, f_at := (IntKind.i64.wrap (at_ + 1)), f_e := e_ } : TManifestText), f_l := l_, f_full := full, f_more := more } : TManifestReader) A_1_529 c_2_529 (hs529_0.mono hsub531) A_3_529 c_4_529 hse546 hFn546 h_peek1) (by kernel_rfl) ?_)
                rintro _ w546 ⟨mk546, rfl, hS546⟩
                have hsub546 := hS546.sub
                replace H := hcl546 _ _ _ hS546
                refine segD2 hst [26] [0, 1, 2, 3, 5, 6, 4, 7, 8, 9, 10, 11, 12, 14, 15, 16, 17, 13, 18, 19, 20, 21, 22, 23, 24, 25, 26] [(0, .pointer (some (⟨g0, 0, none⟩))), (3, .slice A_5_529 b1.length c_6_529), (4, .int .i64 r_.f_text.f_at), (77, .bool true), (90, .bool false), (95, .bool ((peek1.toNat : Int) == 32))] (by kernel_rfl) ?_
                rw [show ((peek1.toNat : Int) == 32) = true from hb543]
                refine segD2 hst [27, 28, 29, 30, 31, 32, 33, 34, 35] [0, 1, 2, 3, 5, 6, 4, 7, 8, 9, 10, 11, 12, 14, 15, 16, 17, 13, 18, 19, 20, 21, 22, 23, 24, 25, 26, 27, 28, 29, 30, 31, 32, 33, 34, 35] [(0, .pointer (some (⟨g0, 0, none⟩))), (3, .slice A_5_529 b1.length c_6_529), (4, .int .i64 r_.f_text.f_at), (104, .bool true)] (by kernel_rfl) ?_
                refine endD2 (by kernel_rfl) ⟨(H.has.sub hsub546), H.blk 0 rfl⟩ ?_
                refine seg 5 [.co [1, 1, 0, 1, 0, 0, 1, 0, 1, 0, 1, 1, 1, 0, 1, 0, 1, 0, 1], .co [1, 1, 0, 1, 0, 0, 1, 0, 1, 0, 1, 1, 1, 0, 1, 1], .bl 2, .bl 1, .le 1, .bl 0, .le 0, .co [1, 1, 1]] [(2, .string ⟨([] : List UInt8).toArray⟩)] (by kernel_rfl) ?_
                refine retR [2] [.string ⟨([] : List UInt8).toArray⟩] (by kernel_rfl) (by kernel_rfl) (by kernel_rfl) ?_
                obtain rfl : (([] : List UInt8), ({ f_text := ({ f_b := b, f_at := (IntKind.i64.wrap (at_ + 1)), f_e := e_ } : TManifestText), f_l := l_, f_full := full, f_more := more } : TManifestReader)) = r := (hfr440 _ (hfin528 _ (Option.some.inj hb_528).symm).symm)
                exact ⟨_, rfl, A_1_529, c_2_529, A_3_529, c_4_529, mk546, rfl, (St.takeN 2 ((H.pull 1 rfl).pull 1 rfl)), (hs529_0.mono (hsub531.trans hsub546)), (Nat.le_of_ble_eq_true rfl)⟩
              · obtain ⟨peek2, h_peek2, hb_528⟩ := bindE hb_528
                have hst : statB (bodyOf Tryd.f24) [1, 1, 0, 1, 0, 0, 1, 0, 1, 0, 1, 1, 1, 0, 1, 0, 0] = true := by kernel_rfl
                refine drawS (fun w' => Has mk531 w' ∧ w'.heap[g0]? = some (.cells [.slice A_1_529 b.length c_2_529, .int .i64 (IntKind.i64.wrap (at_ + 1)), .int .i64 e_, .slice A_3_529 l_.length c_4_529, .bool full, .bool more].toArray 56 (0, 0))) H (by kernel_rfl) (by kernel_rfl) ?_
                intro w549 H
                refine segD2 hst [0, 1, 2, 3, 5, 6] [0, 1, 2, 3, 5, 6] [(0, .pointer (some (⟨g0, 0, none⟩))), (3, .slice A_5_529 b1.length c_6_529), (4, .int .i64 r_.f_text.f_at), (72, .pointer (some (⟨g0, 1, none⟩))), (75, .int .i64 (IntKind.i64.wrap (r_.f_text.f_at + 1)))] (by kernel_rfl) ?_
                replace H : St w F m mk531 [blkI g0 [.slice A_1_529 b.length c_2_529, .int .i64 (IntKind.i64.wrap (at_ + 1)), .int .i64 e_, .slice A_3_529 l_.length c_4_529, .bool full, .bool more] 56, rowI rApiEntry 44 A_3_529 c_4_529 l_, rowI rU8 5 A_5_529 c_6_529 b1] w549 := H
                refine stD2 (i := 4) (by kernel_rfl) ⟨H.has, H.blk 0 rfl⟩ (ldR (some 73) 3 (⟨g0, 1, none⟩) (.int .i64 (IntKind.i64.wrap (at_ + 1))) (by kernel_rfl) (by kernel_rfl) (H.cellB 0 rfl rfl) ?_)
                refine segD2 hst [7] [0, 1, 2, 3, 5, 6, 4, 7] [(0, .pointer (some (⟨g0, 0, none⟩))), (3, .slice A_5_529 b1.length c_6_529), (4, .int .i64 r_.f_text.f_at), (76, .bool ((IntKind.i64.wrap (at_ + 1)) == (IntKind.i64.wrap (r_.f_text.f_at + 1))))] (by kernel_rfl) ?_
                rw [show ((IntKind.i64.wrap (at_ + 1)) == (IntKind.i64.wrap (r_.f_text.f_at + 1))) = true from hb539]
                refine segD2 hst [8, 9, 10, 11, 12, 14, 15, 16, 17] [0, 1, 2, 3, 5, 6, 4, 7, 8, 9, 10, 11, 12, 14, 15, 16, 17] [(0, .pointer (some (⟨g0, 0, none⟩))), (3, .slice A_5_529 b1.length c_6_529), (4, .int .i64 r_.f_text.f_at), (77, .bool true), (81, .pointer (some (⟨g0, 1, none⟩))), (86, .pointer (some (⟨g0, 0, none⟩)))] (by kernel_rfl) ?_
                refine takeD2 (i := 13) (d := (some 82)) (s := vS (Instr.loadAt 3 (.pointer (some (⟨g0, 1, none⟩))))) (v := (.int .i64 (IntKind.i64.wrap (at_ + 1)))) hst (by kernel_rfl) (by kernel_rfl) (fun w' hw' => ld_run _ _ _ (by kernel_rfl) (blk_cell hw'.2 rfl)) ?_
                refine stD2 (i := 18) (by kernel_rfl) ⟨H.has, H.blk 0 rfl⟩ (ldR (some 87) 25 (⟨g0, 0, none⟩) (.slice A_1_529 b.length c_2_529) (by kernel_rfl) (by kernel_rfl) (H.cellB 0 rfl rfl) ?_)
                refine segD2 hst [19, 20] [0, 1, 2, 3, 5, 6, 4, 7, 8, 9, 10, 11, 12, 14, 15, 16, 17, 13, 18, 19, 20] [(0, .pointer (some (⟨g0, 0, none⟩))), (3, .slice A_5_529 b1.length c_6_529), (4, .int .i64 r_.f_text.f_at), (77, .bool true), (89, .bool ((IntKind.i64.wrap (at_ + 1)) == (b.length : Int)))] (by kernel_rfl) ?_
                rw [show ((IntKind.i64.wrap (at_ + 1)) == (b.length : Int)) = false from hb540]
                refine segD2 hst [21, 22, 23, 24] [0, 1, 2, 3, 5, 6, 4, 7, 8, 9, 10, 11, 12, 14, 15, 16, 17, 13, 18, 19, 20, 21, 22, 23, 24] [(0, .pointer (some (⟨g0, 0, none⟩))), (3, .slice A_5_529 b1.length c_6_529), (4, .int .i64 r_.f_text.f_at), (77, .bool true), (90, .bool false), (93, .pointer (some (⟨g0, 0, none⟩)))] (by kernel_rfl) ?_
                replace H := ((H.pull 1 rfl).pull 1 rfl)
                obtain ⟨F550, hse550, hFn550, hcl550⟩ := St.call [blkI g0 [.slice A_1_529 b.length c_2_529, .int .i64 (IntKind.i64.wrap (at_ + 1)), .int .i64 e_, .slice A_3_529 l_.length c_4_529, .bool full, .bool more] 56, rowI rApiEntry 44 A_3_529 c_4_529 l_] H
                refine stD2 (i := 25) (by kernel_rfl) ⟨H.has, H.blk 0 rfl⟩ (callR (some 94) 37 #[.pointer (some (⟨g0, 0, none⟩))] Tryd.call37 (manifest_text_peek_c H.has g0 ({ f_text := ({ f_b := b, f_at := (IntKind.i64.wrap (at_ + 1)), f_e := e_ } : TManifestText), f_l := l_, f_full := full, f_more := more } : TManifestReader) A_1_529 c_2_529 (hs529_0.mono hsub531) A_3_529 c_4_529 hse550 hFn550 h_peek1) (by kernel_rfl) ?_)
                rintro _ w550 ⟨mk550, rfl, hS550⟩
                have hsub550 := hS550.sub
                replace H := hcl550 _ _ _ hS550
                refine segD2 hst [26] [0, 1, 2, 3, 5, 6, 4, 7, 8, 9, 10, 11, 12, 14, 15, 16, 17, 13, 18, 19, 20, 21, 22, 23, 24, 25, 26] [(0, .pointer (some (⟨g0, 0, none⟩))), (3, .slice A_5_529 b1.length c_6_529), (4, .int .i64 r_.f_text.f_at), (77, .bool true), (90, .bool false), (95, .bool ((peek1.toNat : Int) == 32))] (by kernel_rfl) ?_
                rw [show ((peek1.toNat : Int) == 32) = false from hb543]
                refine segD2 hst [27, 28, 29, 30, 31] [0, 1, 2, 3, 5, 6, 4, 7, 8, 9, 10, 11, 12, 14, 15, 16, 17, 13, 18, 19, 20, 21, 22, 23, 24, 25, 26, 27, 28, 29, 30, 31] [(0, .pointer (some (⟨g0, 0, none⟩))), (3, .slice A_5_529 b1.length c_6_529), (4, .int .i64 r_.f_text.f_at), (77, .bool true), (97, .bool false), (100, .pointer (some (⟨g0, 0, none⟩)))] (by kernel_rfl) ?_
                replace H := ((H.pull 1 rfl).pull 1 rfl)
                obtain ⟨F551, hse551, hFn551, hcl551⟩ := St.call [blkI g0 [.slice A_1_529 b.length c_2_529, .int .i64 (IntKind.i64.wrap (at_ + 1)), .int .i64 e_, .slice A_3_529 l_.length c_4_529, .bool full, .bool more] 56, rowI rApiEntry 44 A_3_529 c_4_529 l_] H
                refine stD2 (i := 32) (by kernel_rfl) ⟨(H.has.sub hsub550), H.blk 0 rfl⟩ (callR (some 101) 37 #[.pointer (some (⟨g0, 0, none⟩))] Tryd.call37 (manifest_text_peek_c H.has g0 ({ f_text := ({ f_b := b, f_at := (IntKind.i64.wrap (at_ + 1)), f_e := e_ } : TManifestText), f_l := l_, f_full := full, f_more := more } : TManifestReader) A_1_529 c_2_529 (hs529_0.mono (hsub531.trans hsub550)) A_3_529 c_4_529 hse551 hFn551 h_peek2) (by kernel_rfl) ?_)
                rintro _ w551 ⟨mk551, rfl, hS551⟩
                have hsub551 := hS551.sub
                replace H := hcl551 _ _ _ hS551
                refine segD2 hst [33] [0, 1, 2, 3, 5, 6, 4, 7, 8, 9, 10, 11, 12, 14, 15, 16, 17, 13, 18, 19, 20, 21, 22, 23, 24, 25, 26, 27, 28, 29, 30, 31, 32, 33] [(0, .pointer (some (⟨g0, 0, none⟩))), (3, .slice A_5_529 b1.length c_6_529), (4, .int .i64 r_.f_text.f_at), (77, .bool true), (97, .bool false), (102, .bool ((peek2.toNat : Int) == 10))] (by kernel_rfl) ?_
                refine segD2 hst [34] [0, 1, 2, 3, 5, 6, 4, 7, 8, 9, 10, 11, 12, 14, 15, 16, 17, 13, 18, 19, 20, 21, 22, 23, 24, 25, 26, 27, 28, 29, 30, 31, 32, 33, 34] [(0, .pointer (some (⟨g0, 0, none⟩))), (3, .slice A_5_529 b1.length c_6_529), (4, .int .i64 r_.f_text.f_at), (77, .bool true), (103, .bool ((peek2.toNat : Int) == 10))] (by kernel_rfl) ?_
                refine segD2 hst [35] [0, 1, 2, 3, 5, 6, 4, 7, 8, 9, 10, 11, 12, 14, 15, 16, 17, 13, 18, 19, 20, 21, 22, 23, 24, 25, 26, 27, 28, 29, 30, 31, 32, 33, 34, 35] [(0, .pointer (some (⟨g0, 0, none⟩))), (3, .slice A_5_529 b1.length c_6_529), (4, .int .i64 r_.f_text.f_at), (104, .bool ((peek2.toNat : Int) == 10))] (by kernel_rfl) ?_
                refine endD2 (by kernel_rfl) ⟨(H.has.sub (hsub550.trans hsub551)), H.blk 0 rfl⟩ ?_
                rcases condT hb_528 with ⟨hb552, hb_528⟩ | ⟨hb552, hb_528⟩
                · rw [hb552]
                  refine seg 5 [.co [1, 1, 0, 1, 0, 0, 1, 0, 1, 0, 1, 1, 1, 0, 1, 0, 1, 0, 1], .co [1, 1, 0, 1, 0, 0, 1, 0, 1, 0, 1, 1, 1, 0, 1, 1], .bl 2, .bl 1, .le 1, .bl 0, .le 0, .co [1, 1, 1]] [(2, .string ⟨([] : List UInt8).toArray⟩)] (by kernel_rfl) ?_
                  refine retR [2] [.string ⟨([] : List UInt8).toArray⟩] (by kernel_rfl) (by kernel_rfl) (by kernel_rfl) ?_
                  obtain rfl : (([] : List UInt8), ({ f_text := ({ f_b := b, f_at := (IntKind.i64.wrap (at_ + 1)), f_e := e_ } : TManifestText), f_l := l_, f_full := full, f_more := more } : TManifestReader)) = r := (hfr440 _ (hfin528 _ (Option.some.inj hb_528).symm).symm)
                  exact ⟨_, rfl, A_1_529, c_2_529, A_3_529, c_4_529, mk551, rfl, (St.takeN 2 ((H.pull 1 rfl).pull 1 rfl)), (hs529_0.mono ((hsub531.trans hsub550).trans hsub551)), (Nat.le_of_ble_eq_true rfl)⟩
                · rw [hb552]
                  refine seg 8 [.op [1, 1, 0, 1, 0, 0, 1, 0, 1, 0, 1, 1, 1, 0, 1, 1, 0] 4, .co [1, 1, 0, 1, 0, 0, 1, 0, 1, 0, 1, 1, 1, 0, 1, 1, 1], .bl 2, .bl 1, .le 1, .bl 0, .le 0, .co [1, 1, 1]] [(0, .pointer (some (⟨g0, 0, none⟩))), (3, .slice A_5_529 b1.length c_6_529), (4, .int .i64 r_.f_text.f_at), (108, .pointer (some (⟨g0, 1, none⟩)))] (by kernel_rfl) ?_
                  refine st (ldR (some 109) 3 (⟨g0, 1, none⟩) (.int .i64 (IntKind.i64.wrap (at_ + 1))) (by kernel_rfl) (by kernel_rfl) (H.cellB 0 rfl rfl) ?_)
                  refine seg 5 [.op [1, 1, 0, 1, 0, 0, 1, 0, 1, 0, 1, 1, 1, 0, 1, 1, 1, 0] 1, .co [1, 1, 0, 1, 0, 0, 1, 0, 1, 0, 1, 1, 1, 0, 1, 1, 1, 1], .bl 2, .bl 1, .le 1, .bl 0, .le 0, .co [1, 1, 1]] [(0, .pointer (some (⟨g0, 0, none⟩))), (3, .slice A_5_529 b1.length c_6_529), (4, .int .i64 r_.f_text.f_at), (6, .int .i64 (IntKind.i64.wrap (at_ + 1))), (110, .pointer (some (⟨g0, 0, none⟩)))] (by kernel_rfl) ?_
                  obtain ⟨pair, h_pair, hb_528⟩ := bindE hb_528
                  obtain ⟨F553, hse553, hFn553, hcl553⟩ := St.call [blkI g0 [.slice A_1_529 b.length c_2_529, .int .i64 (IntKind.i64.wrap (at_ + 1)), .int .i64 e_, .slice A_3_529 l_.length c_4_529, .bool full, .bool more] 56, rowI rApiEntry 44 A_3_529 c_4_529 l_] ((H.pull 1 rfl).pull 1 rfl)
                  refine st (callR (some 111) 38 #[.pointer (some (⟨g0, 0, none⟩))] Tryd.call38 (manifest_reader_pair_c H.has g0 ({ f_text := ({ f_b := b, f_at := (IntKind.i64.wrap (at_ + 1)), f_e := e_ } : TManifestText), f_l := l_, f_full := full, f_more := more } : TManifestReader) A_1_529 c_2_529 (hs529_0.mono ((hsub531.trans hsub550).trans hsub551)) A_3_529 c_4_529 hse553 hFn553 h_pair) (by kernel_rfl) ?_)
                  rintro _ w553 ⟨A553_o0_0, c553_o0_0, A553_o0_3, c553_o0_3, mk553, rfl, hS553, hs553_0⟩
                  have hsub553 := hS553.sub
                  replace H := hcl553 _ _ _ hS553
                  refine seg 9 [.op [1, 1, 0, 1, 0, 0, 1, 0, 1, 0, 1, 1, 1, 0, 1, 1, 1, 1, 0, 0] 4, .co [1, 1, 0, 1, 0, 0, 1, 0, 1, 0, 1, 1, 1, 0, 1, 1, 1, 1, 0, 1], .co [1, 1, 0, 1, 0, 0, 1, 0, 1, 0, 1, 1, 1, 0, 1, 1, 1, 1, 1], .bl 2, .bl 1, .le 1, .bl 0, .le 0, .co [1, 1, 1]] [(0, .pointer (some (⟨g0, 0, none⟩))), (3, .slice A_5_529 b1.length c_6_529), (4, .int .i64 r_.f_text.f_at), (6, .int .i64 (IntKind.i64.wrap (at_ + 1))), (7, .int .u8 (pair.1.toNat : Int)), (115, .pointer (some (⟨g0, 2, none⟩)))] (by kernel_rfl) ?_
                  refine st (ldR (some 116) 26 (⟨g0, 2, none⟩) (.int .i64 pair.2.f_text.f_e) (by kernel_rfl) (by kernel_rfl) (H.cellB 0 rfl rfl) ?_)
                  refine seg 2 [.op [1, 1, 0, 1, 0, 0, 1, 0, 1, 0, 1, 1, 1, 0, 1, 1, 1, 1, 0, 0] 7, .co [1, 1, 0, 1, 0, 0, 1, 0, 1, 0, 1, 1, 1, 0, 1, 1, 1, 1, 0, 1], .co [1, 1, 0, 1, 0, 0, 1, 0, 1, 0, 1, 1, 1, 0, 1, 1, 1, 1, 1], .bl 2, .bl 1, .le 1, .bl 0, .le 0, .co [1, 1, 1]] [(0, .pointer (some (⟨g0, 0, none⟩))), (3, .slice A_5_529 b1.length c_6_529), (4, .int .i64 r_.f_text.f_at), (6, .int .i64 (IntKind.i64.wrap (at_ + 1))), (7, .int .u8 (pair.1.toNat : Int)), (118, .bool (pair.2.f_text.f_e == 0))] (by kernel_rfl) ?_
                  rcases condT hb_528 with ⟨hb554, hb_528⟩ | ⟨hb554, hb_528⟩
                  · rw [hb554]
                    refine seg 1 [.op [1, 1, 0, 1, 0, 0, 1, 0, 1, 0, 1, 1, 1, 0, 1, 1, 1, 1, 0, 0] 8, .co [1, 1, 0, 1, 0, 0, 1, 0, 1, 0, 1, 1, 1, 0, 1, 1, 1, 1, 0, 1], .co [1, 1, 0, 1, 0, 0, 1, 0, 1, 0, 1, 1, 1, 0, 1, 1, 1, 1, 1], .bl 2, .bl 1, .le 1, .bl 0, .le 0, .co [1, 1, 1]] [(0, .pointer (some (⟨g0, 0, none⟩))), (3, .slice A_5_529 b1.length c_6_529), (4, .int .i64 r_.f_text.f_at), (6, .int .i64 (IntKind.i64.wrap (at_ + 1))), (7, .int .u8 (pair.1.toNat : Int)), (118, .bool true), (119, .int .u8 (pair.1.toNat : Int))] (by kernel_rfl) ?_
                    refine st (callR (some 120) 23 #[.int .u8 (pair.1.toNat : Int)] Tryd.call23 (manifest_plain_c H.has pair.1) (by kernel_rfl) ?_)
                    rintro _ w555 ⟨rfl, hx555⟩
                    replace H := H.ex hx555
                    refine seg 2 [.co [1, 1, 0, 1, 0, 0, 1, 0, 1, 0, 1, 1, 1, 0, 1, 1, 1, 1, 0, 1], .co [1, 1, 0, 1, 0, 0, 1, 0, 1, 0, 1, 1, 1, 0, 1, 1, 1, 1, 1], .bl 2, .bl 1, .le 1, .bl 0, .le 0, .co [1, 1, 1]] [(0, .pointer (some (⟨g0, 0, none⟩))), (3, .slice A_5_529 b1.length c_6_529), (4, .int .i64 r_.f_text.f_at), (6, .int .i64 (IntKind.i64.wrap (at_ + 1))), (7, .int .u8 (pair.1.toNat : Int)), (121, .bool (manifest_plain pair.1))] (by kernel_rfl) ?_
                    rcases condT hb_528 with ⟨hb556, hb_528⟩ | ⟨hb556, hb_528⟩
                    · rw [hb556]
                      refine seg 7 [.op [1, 1, 0, 1, 0, 0, 1, 0, 1, 0, 1, 1, 1, 0, 1, 1, 1, 1, 0, 1, 0] 5, .co [1, 1, 0, 1, 0, 0, 1, 0, 1, 0, 1, 1, 1, 0, 1, 1, 1, 1, 1], .bl 2, .bl 1, .le 1, .bl 0, .le 0, .co [1, 1, 1]] [(0, .pointer (some (⟨g0, 0, none⟩))), (3, .slice A_5_529 b1.length c_6_529), (4, .int .i64 r_.f_text.f_at), (7, .int .u8 (pair.1.toNat : Int)), (124, .pointer (some (⟨g0, 0, none⟩))), (126, .int .i64 (IntKind.i64.wrap ((IntKind.i64.wrap (at_ + 1)) + 1)))] (by kernel_rfl) ?_
                      replace H : St w F m mk553 [blkI g0 [.slice A553_o0_0 pair.2.f_text.f_b.length c553_o0_0, .int .i64 pair.2.f_text.f_at, .int .i64 pair.2.f_text.f_e, .slice A553_o0_3 pair.2.f_l.length c553_o0_3, .bool pair.2.f_full, .bool pair.2.f_more] 56, rowI rApiEntry 44 A553_o0_3 c553_o0_3 pair.2.f_l, rowI rU8 5 A_5_529 c_6_529 b1] w555 := H
                      obtain ⟨fail, h_fail, hb_528⟩ := bindE hb_528
                      obtain ⟨F557, hse557, hFn557, hcl557⟩ := St.call [blkI g0 [.slice A553_o0_0 pair.2.f_text.f_b.length c553_o0_0, .int .i64 pair.2.f_text.f_at, .int .i64 pair.2.f_text.f_e, .slice A553_o0_3 pair.2.f_l.length c553_o0_3, .bool pair.2.f_full, .bool pair.2.f_more] 56, rowI rApiEntry 44 A553_o0_3 c553_o0_3 pair.2.f_l] ((H.pull 1 rfl).pull 1 rfl)
                      refine st (callR (some 127) 39 #[.pointer (some (⟨g0, 0, none⟩)), .int .i64 6, .int .i64 (IntKind.i64.wrap ((IntKind.i64.wrap (at_ + 1)) + 1))] Tryd.call39 (manifest_text_fail_c H.has g0 pair.2 A553_o0_0 c553_o0_0 hs553_0 A553_o0_3 c553_o0_3 6 (IntKind.i64.wrap ((IntKind.i64.wrap (at_ + 1)) + 1)) hse557 hFn557 h_fail) (by kernel_rfl) ?_)
                      rintro _ w557 ⟨A557_o0_0, c557_o0_0, A557_o0_3, c557_o0_3, mk557, rfl, hS557, hs557_0⟩
                      have hsub557 := hS557.sub
                      replace H := hcl557 _ _ _ hS557
                      refine seg 4 [.op [1, 1, 0, 1, 0, 0, 1, 0, 1, 0, 1, 1, 1, 0, 1, 1, 1, 1, 1] 2, .bl 2, .bl 1, .le 1, .bl 0, .le 0, .co [1, 1, 1]] [(0, .pointer (some (⟨g0, 0, none⟩))), (4, .int .i64 r_.f_text.f_at), (128, .slice A_5_529 b1.length c_6_529), (129, .int .u8 (pair.1.toNat : Int))] (by kernel_rfl) ?_
                      refine st (newS (some 130) (fun g => .slice (some ⟨g, 0, none⟩) 1 1) [.int .u8 (pair.1.toNat : Int)] 5 H (by kernel_rfl) ?_)
                      intro g558 w558 H
                      obtain ⟨b3, h_b3, hb_528⟩ := bindE hb_528
                      refine st (appS (r := rU8) (some 131) 25 5 1 (.int .u8 0) 25 3 A_5_529 (some ⟨g558, 0, none⟩) c_6_529 1 1 b1 [pair.1] b3 _ H rfl ⟨Tryd.underlying25, by kernel_rfl⟩ rfl (by decide) (by kernel_rfl) (Cs.of_blk (H.blk 0 rfl)) (Rows.u8.2 rfl) rfl h_b3 (by decide) (by decide) ?_)
                      intro A559 c559 w559 H
                      replace H := H.drop 0 rfl
                      refine seg 4 [.le 1, .bl 0, .le 0, .co [1, 1, 1]] [(0, .pointer (some (⟨g0, 0, none⟩))), (3, .slice A559 b3.length c559), (4, .int .i64 r_.f_text.f_at)] (by kernel_rfl) ?_
                      refine leR (nk528, fail.f_text.f_b, fail.f_text.f_at, fail.f_text.f_e, fail.f_l, fail.f_full, fail.f_more, b3, A557_o0_0, c557_o0_0, A557_o0_3, c557_o0_3, A559, c559, mk557) (Nat.lt_succ_self _) ⟨hnx528 _ (Option.some.inj hb_528).symm, H, (((((hsub529.trans hsub531).trans hsub550).trans hsub551).trans hsub553).trans hsub557), hs557_0⟩ (by kernel_rfl)
                    · rw [hb556]
                      refine seg 5 [.op [1, 1, 0, 1, 0, 0, 1, 0, 1, 0, 1, 1, 1, 0, 1, 1, 1, 1, 1] 2, .bl 2, .bl 1, .le 1, .bl 0, .le 0, .co [1, 1, 1]] [(0, .pointer (some (⟨g0, 0, none⟩))), (4, .int .i64 r_.f_text.f_at), (128, .slice A_5_529 b1.length c_6_529), (129, .int .u8 (pair.1.toNat : Int))] (by kernel_rfl) ?_
                      refine st (newS (some 130) (fun g => .slice (some ⟨g, 0, none⟩) 1 1) [.int .u8 (pair.1.toNat : Int)] 5 H (by kernel_rfl) ?_)
                      intro g560 w560 H
                      replace H : St w F m mk553 [blkI g560 [.int .u8 (pair.1.toNat : Int)] 5, blkI g0 [.slice A553_o0_0 pair.2.f_text.f_b.length c553_o0_0, .int .i64 pair.2.f_text.f_at, .int .i64 pair.2.f_text.f_e, .slice A553_o0_3 pair.2.f_l.length c553_o0_3, .bool pair.2.f_full, .bool pair.2.f_more] 56, rowI rApiEntry 44 A553_o0_3 c553_o0_3 pair.2.f_l, rowI rU8 5 A_5_529 c_6_529 b1] w560 := H
                      obtain ⟨b4, h_b4, hb_528⟩ := bindE hb_528
                      refine st (appS (r := rU8) (some 131) 25 5 1 (.int .u8 0) 25 3 A_5_529 (some ⟨g560, 0, none⟩) c_6_529 1 1 b1 [pair.1] b4 _ H rfl ⟨Tryd.underlying25, by kernel_rfl⟩ rfl (by decide) (by kernel_rfl) (Cs.of_blk (H.blk 0 rfl)) (Rows.u8.2 rfl) rfl h_b4 (by decide) (by decide) ?_)
                      intro A561 c561 w561 H
                      replace H := H.drop 0 rfl
                      refine seg 4 [.le 1, .bl 0, .le 0, .co [1, 1, 1]] [(0, .pointer (some (⟨g0, 0, none⟩))), (3, .slice A561 b4.length c561), (4, .int .i64 r_.f_text.f_at)] (by kernel_rfl) ?_
                      refine leR (nk528, pair.2.f_text.f_b, pair.2.f_text.f_at, pair.2.f_text.f_e, pair.2.f_l, pair.2.f_full, pair.2.f_more, b4, A553_o0_0, c553_o0_0, A553_o0_3, c553_o0_3, A561, c561, mk553) (Nat.lt_succ_self _) ⟨hnx528 _ (Option.some.inj hb_528).symm, H, ((((hsub529.trans hsub531).trans hsub550).trans hsub551).trans hsub553), hs553_0⟩ (by kernel_rfl)
                  · rw [hb554]
                    refine seg 9 [.op [1, 1, 0, 1, 0, 0, 1, 0, 1, 0, 1, 1, 1, 0, 1, 1, 1, 1, 1] 2, .bl 2, .bl 1, .le 1, .bl 0, .le 0, .co [1, 1, 1]] [(0, .pointer (some (⟨g0, 0, none⟩))), (4, .int .i64 r_.f_text.f_at), (128, .slice A_5_529 b1.length c_6_529), (129, .int .u8 (pair.1.toNat : Int))] (by kernel_rfl) ?_
                    refine st (newS (some 130) (fun g => .slice (some ⟨g, 0, none⟩) 1 1) [.int .u8 (pair.1.toNat : Int)] 5 H (by kernel_rfl) ?_)
                    intro g562 w562 H
                    obtain ⟨b5, h_b5, hb_528⟩ := bindE hb_528
                    refine st (appS (r := rU8) (some 131) 25 5 1 (.int .u8 0) 25 3 A_5_529 (some ⟨g562, 0, none⟩) c_6_529 1 1 b1 [pair.1] b5 _ H rfl ⟨Tryd.underlying25, by kernel_rfl⟩ rfl (by decide) (by kernel_rfl) (Cs.of_blk (H.blk 0 rfl)) (Rows.u8.2 rfl) rfl h_b5 (by decide) (by decide) ?_)
                    intro A563 c563 w563 H
                    replace H := H.drop 0 rfl
                    refine seg 4 [.le 1, .bl 0, .le 0, .co [1, 1, 1]] [(0, .pointer (some (⟨g0, 0, none⟩))), (3, .slice A563 b5.length c563), (4, .int .i64 r_.f_text.f_at)] (by kernel_rfl) ?_
                    refine leR (nk528, pair.2.f_text.f_b, pair.2.f_text.f_at, pair.2.f_text.f_e, pair.2.f_l, pair.2.f_full, pair.2.f_more, b5, A553_o0_0, c553_o0_0, A553_o0_3, c553_o0_3, A563, c563, mk553) (Nat.lt_succ_self _) ⟨hnx528 _ (Option.some.inj hb_528).symm, H, ((((hsub529.trans hsub531).trans hsub550).trans hsub551).trans hsub553), hs553_0⟩ (by kernel_rfl)
          · have hst : statB (bodyOf Tryd.f24) [1, 1, 0, 1, 0, 0, 1, 0, 1, 0, 1, 1, 1, 0, 1, 0, 0] = true := by kernel_rfl
            refine drawS (fun w' => Has mk531 w' ∧ w'.heap[g0]? = some (.cells [.slice A_1_529 b.length c_2_529, .int .i64 (IntKind.i64.wrap (at_ + 1)), .int .i64 e_, .slice A_3_529 l_.length c_4_529, .bool full, .bool more].toArray 56 (0, 0))) H (by kernel_rfl) (by kernel_rfl) ?_
            intro w564 H
            refine segD2 hst [0, 1, 2, 3, 5, 6] [0, 1, 2, 3, 5, 6] [(0, .pointer (some (⟨g0, 0, none⟩))), (3, .slice A_5_529 b1.length c_6_529), (4, .int .i64 r_.f_text.f_at), (72, .pointer (some (⟨g0, 1, none⟩))), (75, .int .i64 (IntKind.i64.wrap (r_.f_text.f_at + 1)))] (by kernel_rfl) ?_
            refine stD2 (i := 4) (by kernel_rfl) ⟨H.has, H.blk 0 rfl⟩ (ldR (some 73) 3 (⟨g0, 1, none⟩) (.int .i64 (IntKind.i64.wrap (at_ + 1))) (by kernel_rfl) (by kernel_rfl) (H.cellB 0 rfl rfl) ?_)
            refine segD2 hst [7] [0, 1, 2, 3, 5, 6, 4, 7] [(0, .pointer (some (⟨g0, 0, none⟩))), (3, .slice A_5_529 b1.length c_6_529), (4, .int .i64 r_.f_text.f_at), (76, .bool ((IntKind.i64.wrap (at_ + 1)) == (IntKind.i64.wrap (r_.f_text.f_at + 1))))] (by kernel_rfl) ?_
            rw [show ((IntKind.i64.wrap (at_ + 1)) == (IntKind.i64.wrap (r_.f_text.f_at + 1))) = false from hb539]
            refine segD2 hst [8, 9, 10, 11, 12, 13, 14, 15, 16, 17, 18, 19, 20, 21, 22, 23, 24, 25, 26, 27, 28, 29, 30, 31, 32, 33, 34, 35] [0, 1, 2, 3, 5, 6, 4, 7, 8, 9, 10, 11, 12, 13, 14, 15, 16, 17, 18, 19, 20, 21, 22, 23, 24, 25, 26, 27, 28, 29, 30, 31, 32, 33, 34, 35] [(0, .pointer (some (⟨g0, 0, none⟩))), (3, .slice A_5_529 b1.length c_6_529), (4, .int .i64 r_.f_text.f_at), (104, .bool false)] (by kernel_rfl) ?_
            refine endD2 (by kernel_rfl) ⟨H.has, H.blk 0 rfl⟩ ?_
            refine seg 8 [.op [1, 1, 0, 1, 0, 0, 1, 0, 1, 0, 1, 1, 1, 0, 1, 1, 0] 4, .co [1, 1, 0, 1, 0, 0, 1, 0, 1, 0, 1, 1, 1, 0, 1, 1, 1], .bl 2, .bl 1, .le 1, .bl 0, .le 0, .co [1, 1, 1]] [(0, .pointer (some (⟨g0, 0, none⟩))), (3, .slice A_5_529 b1.length c_6_529), (4, .int .i64 r_.f_text.f_at), (108, .pointer (some (⟨g0, 1, none⟩)))] (by kernel_rfl) ?_
            refine st (ldR (some 109) 3 (⟨g0, 1, none⟩) (.int .i64 (IntKind.i64.wrap (at_ + 1))) (by kernel_rfl) (by kernel_rfl) (H.cellB 0 rfl rfl) ?_)
            refine seg 5 [.op [1, 1, 0, 1, 0, 0, 1, 0, 1, 0, 1, 1, 1, 0, 1, 1, 1, 0] 1, .co [1, 1, 0, 1, 0, 0, 1, 0, 1, 0, 1, 1, 1, 0, 1, 1, 1, 1], .bl 2, .bl 1, .le 1, .bl 0, .le 0, .co [1, 1, 1]] [(0, .pointer (some (⟨g0, 0, none⟩))), (3, .slice A_5_529 b1.length c_6_529), (4, .int .i64 r_.f_text.f_at), (6, .int .i64 (IntKind.i64.wrap (at_ + 1))), (110, .pointer (some (⟨g0, 0, none⟩)))] (by kernel_rfl) ?_
            obtain ⟨pair1, h_pair1, hb_528⟩ := bindE hb_528
            obtain ⟨F565, hse565, hFn565, hcl565⟩ := St.call [blkI g0 [.slice A_1_529 b.length c_2_529, .int .i64 (IntKind.i64.wrap (at_ + 1)), .int .i64 e_, .slice A_3_529 l_.length c_4_529, .bool full, .bool more] 56, rowI rApiEntry 44 A_3_529 c_4_529 l_] ((H.pull 1 rfl).pull 1 rfl)
            refine st (callR (some 111) 38 #[.pointer (some (⟨g0, 0, none⟩))] Tryd.call38 (manifest_reader_pair_c H.has g0 ({ f_text := ({ f_b := b, f_at := (IntKind.i64.wrap (at_ + 1)), f_e := e_ } : TManifestText), f_l := l_, f_full := full, f_more := more } : TManifestReader) A_1_529 c_2_529 (hs529_0.mono hsub531) A_3_529 c_4_529 hse565 hFn565 h_pair1) (by kernel_rfl) ?_)
            rintro _ w565 ⟨A565_o0_0, c565_o0_0, A565_o0_3, c565_o0_3, mk565, rfl, hS565, hs565_0⟩
            have hsub565 := hS565.sub
            replace H := hcl565 _ _ _ hS565
            refine seg 9 [.op [1, 1, 0, 1, 0, 0, 1, 0, 1, 0, 1, 1, 1, 0, 1, 1, 1, 1, 0, 0] 4, .co [1, 1, 0, 1, 0, 0, 1, 0, 1, 0, 1, 1, 1, 0, 1, 1, 1, 1, 0, 1], .co [1, 1, 0, 1, 0, 0, 1, 0, 1, 0, 1, 1, 1, 0, 1, 1, 1, 1, 1], .bl 2, .bl 1, .le 1, .bl 0, .le 0, .co [1, 1, 1]] [(0, .pointer (some (⟨g0, 0, none⟩))), (3, .slice A_5_529 b1.length c_6_529), (4, .int .i64 r_.f_text.f_at), (6, .int .i64 (IntKind.i64.wrap (at_ + 1))), (7, .int .u8 (pair1.1.toNat : Int)), (115, .pointer (some (⟨g0, 2, none⟩)))] (by kernel_rfl) ?_
            replace H : St w F m mk565 [blkI g0 [.slice A565_o0_0 pair1.2.f_text.f_b.length c565_o0_0, .int .i64 pair1.2.f_text.f_at, .int .i64 pair1.2.f_text.f_e, .slice A565_o0_3 pair1.2.f_l.length c565_o0_3, .bool pair1.2.f_full, .bool pair1.2.f_more] 56, rowI rApiEntry 44 A565_o0_3 c565_o0_3 pair1.2.f_l, rowI rU8 5 A_5_529 c_6_529 b1] w565 := H
            refine st (ldR (some 116) 26 (⟨g0, 2, none⟩) (.int .i64 pair1.2.f_text.f_e) (by kernel_rfl) (by kernel_rfl) (H.cellB 0 rfl rfl) ?_)
            refine seg 2 [.op [1, 1, 0, 1, 0, 0, 1, 0, 1, 0, 1, 1, 1, 0, 1, 1, 1, 1, 0, 0] 7, .co [1, 1, 0, 1, 0, 0, 1, 0, 1, 0, 1, 1, 1, 0, 1, 1, 1, 1, 0, 1], .co [1, 1, 0, 1, 0, 0, 1, 0, 1, 0, 1, 1, 1, 0, 1, 1, 1, 1, 1], .bl 2, .bl 1, .le 1, .bl 0, .le 0, .co [1, 1, 1]] [(0, .pointer (some (⟨g0, 0, none⟩))), (3, .slice A_5_529 b1.length c_6_529), (4, .int .i64 r_.f_text.f_at), (6, .int .i64 (IntKind.i64.wrap (at_ + 1))), (7, .int .u8 (pair1.1.toNat : Int)), (118, .bool (pair1.2.f_text.f_e == 0))] (by kernel_rfl) ?_
            rcases condT hb_528 with ⟨hb566, hb_528⟩ | ⟨hb566, hb_528⟩
            · rw [hb566]
              refine seg 1 [.op [1, 1, 0, 1, 0, 0, 1, 0, 1, 0, 1, 1, 1, 0, 1, 1, 1, 1, 0, 0] 8, .co [1, 1, 0, 1, 0, 0, 1, 0, 1, 0, 1, 1, 1, 0, 1, 1, 1, 1, 0, 1], .co [1, 1, 0, 1, 0, 0, 1, 0, 1, 0, 1, 1, 1, 0, 1, 1, 1, 1, 1], .bl 2, .bl 1, .le 1, .bl 0, .le 0, .co [1, 1, 1]] [(0, .pointer (some (⟨g0, 0, none⟩))), (3, .slice A_5_529 b1.length c_6_529), (4, .int .i64 r_.f_text.f_at), (6, .int .i64 (IntKind.i64.wrap (at_ + 1))), (7, .int .u8 (pair1.1.toNat : Int)), (118, .bool true), (119, .int .u8 (pair1.1.toNat : Int))] (by kernel_rfl) ?_
              refine st (callR (some 120) 23 #[.int .u8 (pair1.1.toNat : Int)] Tryd.call23 (manifest_plain_c H.has pair1.1) (by kernel_rfl) ?_)
              rintro _ w567 ⟨rfl, hx567⟩
              replace H := H.ex hx567
              refine seg 2 [.co [1, 1, 0, 1, 0, 0, 1, 0, 1, 0, 1, 1, 1, 0, 1, 1, 1, 1, 0, 1], .co [1, 1, 0, 1, 0, 0, 1, 0, 1, 0, 1, 1, 1, 0, 1, 1, 1, 1, 1], .bl 2, .bl 1, .le 1, .bl 0, .le 0, .co [1, 1, 1]] [(0, .pointer (some (⟨g0, 0, none⟩))), (3, .slice A_5_529 b1.length c_6_529), (4, .int .i64 r_.f_text.f_at), (6, .int .i64 (IntKind.i64.wrap (at_ + 1))), (7, .int .u8 (pair1.1.toNat : Int)), (121, .bool (manifest_plain pair1.1))] (by kernel_rfl) ?_
              rcases condT hb_528 with ⟨hb568, hb_528⟩ | ⟨hb568, hb_528⟩
              · rw [hb568]
                refine seg 7 [.op [1, 1, 0, 1, 0, 0, 1, 0, 1, 0, 1, 1, 1, 0, 1, 1, 1, 1, 0, 1, 0] 5, .co [1, 1, 0, 1, 0, 0, 1, 0, 1, 0, 1, 1, 1, 0, 1, 1, 1, 1, 1], .bl 2, .bl 1, .le 1, .bl 0, .le 0, .co [1, 1, 1]] [(0, .pointer (some (⟨g0, 0, none⟩))), (3, .slice A_5_529 b1.length c_6_529), (4, .int .i64 r_.f_text.f_at), (7, .int .u8 (pair1.1.toNat : Int)), (124, .pointer (some (⟨g0, 0, none⟩))), (126, .int .i64 (IntKind.i64.wrap ((IntKind.i64.wrap (at_ + 1)) + 1)))] (by kernel_rfl) ?_
                obtain ⟨fail1, h_fail1, hb_528⟩ := bindE hb_528
                obtain ⟨F569, hse569, hFn569, hcl569⟩ := St.call [blkI g0 [.slice A565_o0_0 pair1.2.f_text.f_b.length c565_o0_0, .int .i64 pair1.2.f_text.f_at, .int .i64 pair1.2.f_text.f_e, .slice A565_o0_3 pair1.2.f_l.length c565_o0_3, .bool pair1.2.f_full, .bool pair1.2.f_more] 56, rowI rApiEntry 44 A565_o0_3 c565_o0_3 pair1.2.f_l] ((H.pull 1 rfl).pull 1 rfl)
                refine st (callR (some 127) 39 #[.pointer (some (⟨g0, 0, none⟩)), .int .i64 6, .int .i64 (IntKind.i64.wrap ((IntKind.i64.wrap (at_ + 1)) + 1))] Tryd.call39 (manifest_text_fail_c H.has g0 pair1.2 A565_o0_0 c565_o0_0 hs565_0 A565_o0_3 c565_o0_3 6 (IntKind.i64.wrap ((IntKind.i64.wrap (at_ + 1)) + 1)) hse569 hFn569 h_fail1) (by kernel_rfl) ?_)
                rintro _ w569 ⟨A569_o0_0, c569_o0_0, A569_o0_3, c569_o0_3, mk569, rfl, hS569, hs569_0⟩
                have hsub569 := hS569.sub
                replace H := hcl569 _ _ _ hS569
                refine seg 4 [.op [1, 1, 0, 1, 0, 0, 1, 0, 1, 0, 1, 1, 1, 0, 1, 1, 1, 1, 1] 2, .bl 2, .bl 1, .le 1, .bl 0, .le 0, .co [1, 1, 1]] [(0, .pointer (some (⟨g0, 0, none⟩))), (4, .int .i64 r_.f_text.f_at), (128, .slice A_5_529 b1.length c_6_529), (129, .int .u8 (pair1.1.toNat : Int))] (by kernel_rfl) ?_
                refine st (newS (some 130) (fun g => .slice (some ⟨g, 0, none⟩) 1 1) [.int .u8 (pair1.1.toNat : Int)] 5 H (by kernel_rfl) ?_)
                intro g570 w570 H
                obtain ⟨b6, h_b6, hb_528⟩ := bindE hb_528
                refine st (appS (r := rU8) (some 131) 25 5 1 (.int .u8 0) 25 3 A_5_529 (some ⟨g570, 0, none⟩) c_6_529 1 1 b1 [pair1.1] b6 _ H rfl ⟨Tryd.underlying25, by kernel_rfl⟩ rfl (by decide) (by kernel_rfl) (Cs.of_blk (H.blk 0 rfl)) (Rows.u8.2 rfl) rfl h_b6 (by decide) (by decide) ?_)
                intro A571 c571 w571 H
                replace H := H.drop 0 rfl
                refine seg 4 [.le 1, .bl 0, .le 0, .co [1, 1, 1]] [(0, .pointer (some (⟨g0, 0, none⟩))), (3, .slice A571 b6.length c571), (4, .int .i64 r_.f_text.f_at)] (by kernel_rfl) ?_
                refine leR (nk528, fail1.f_text.f_b, fail1.f_text.f_at, fail1.f_text.f_e, fail1.f_l, fail1.f_full, fail1.f_more, b6, A569_o0_0, c569_o0_0, A569_o0_3, c569_o0_3, A571, c571, mk569) (Nat.lt_succ_self _) ⟨hnx528 _ (Option.some.inj hb_528).symm, H, (((hsub529.trans hsub531).trans hsub565).trans hsub569), hs569_0⟩ (by kernel_rfl)
              · rw [hb568]
                refine seg 5 [.op [1, 1, 0, 1, 0, 0, 1, 0, 1, 0, 1, 1, 1, 0, 1, 1, 1, 1, 1] 2, .bl 2, .bl 1, .le 1, .bl 0, .le 0, .co [1, 1, 1]] [(0, .pointer (some (⟨g0, 0, none⟩))), (4, .int .i64 r_.f_text.f_at), (128, .slice A_5_529 b1.length c_6_529), (129, .int .u8 (pair1.1.toNat : Int))] (by kernel_rfl) ?_
                replace H : St w F m mk565 [blkI g0 [.slice A565_o0_0 pair1.2.f_text.f_b.length c565_o0_0, .int .i64 pair1.2.f_text.f_at, .int .i64 pair1.2.f_text.f_e, .slice A565_o0_3 pair1.2.f_l.length c565_o0_3, .bool pair1.2.f_full, .bool pair1.2.f_more] 56, rowI rApiEntry 44 A565_o0_3 c565_o0_3 pair1.2.f_l, rowI rU8 5 A_5_529 c_6_529 b1] w567 := H
                refine st (newS (some 130) (fun g => .slice (some ⟨g, 0, none⟩) 1 1) [.int .u8 (pair1.1.toNat : Int)] 5 H (by kernel_rfl) ?_)
                intro g572 w572 H
                obtain ⟨b7, h_b7, hb_528⟩ := bindE hb_528
                refine st (appS (r := rU8) (some 131) 25 5 1 (.int .u8 0) 25 3 A_5_529 (some ⟨g572, 0, none⟩) c_6_529 1 1 b1 [pair1.1] b7 _ H rfl ⟨Tryd.underlying25, by kernel_rfl⟩ rfl (by decide) (by kernel_rfl) (Cs.of_blk (H.blk 0 rfl)) (Rows.u8.2 rfl) rfl h_b7 (by decide) (by decide) ?_)
                intro A573 c573 w573 H
                replace H := H.drop 0 rfl
                refine seg 4 [.le 1, .bl 0, .le 0, .co [1, 1, 1]] [(0, .pointer (some (⟨g0, 0, none⟩))), (3, .slice A573 b7.length c573), (4, .int .i64 r_.f_text.f_at)] (by kernel_rfl) ?_
                refine leR (nk528, pair1.2.f_text.f_b, pair1.2.f_text.f_at, pair1.2.f_text.f_e, pair1.2.f_l, pair1.2.f_full, pair1.2.f_more, b7, A565_o0_0, c565_o0_0, A565_o0_3, c565_o0_3, A573, c573, mk565) (Nat.lt_succ_self _) ⟨hnx528 _ (Option.some.inj hb_528).symm, H, ((hsub529.trans hsub531).trans hsub565), hs565_0⟩ (by kernel_rfl)
            · rw [hb566]
              refine seg 9 [.op [1, 1, 0, 1, 0, 0, 1, 0, 1, 0, 1, 1, 1, 0, 1, 1, 1, 1, 1] 2, .bl 2, .bl 1, .le 1, .bl 0, .le 0, .co [1, 1, 1]] [(0, .pointer (some (⟨g0, 0, none⟩))), (4, .int .i64 r_.f_text.f_at), (128, .slice A_5_529 b1.length c_6_529), (129, .int .u8 (pair1.1.toNat : Int))] (by kernel_rfl) ?_
              refine st (newS (some 130) (fun g => .slice (some ⟨g, 0, none⟩) 1 1) [.int .u8 (pair1.1.toNat : Int)] 5 H (by kernel_rfl) ?_)
              intro g574 w574 H
              obtain ⟨b8, h_b8, hb_528⟩ := bindE hb_528
              refine st (appS (r := rU8) (some 131) 25 5 1 (.int .u8 0) 25 3 A_5_529 (some ⟨g574, 0, none⟩) c_6_529 1 1 b1 [pair1.1] b8 _ H rfl ⟨Tryd.underlying25, by kernel_rfl⟩ rfl (by decide) (by kernel_rfl) (Cs.of_blk (H.blk 0 rfl)) (Rows.u8.2 rfl) rfl h_b8 (by decide) (by decide) ?_)
              intro A575 c575 w575 H
              replace H := H.drop 0 rfl
              refine seg 4 [.le 1, .bl 0, .le 0, .co [1, 1, 1]] [(0, .pointer (some (⟨g0, 0, none⟩))), (3, .slice A575 b8.length c575), (4, .int .i64 r_.f_text.f_at)] (by kernel_rfl) ?_
              refine leR (nk528, pair1.2.f_text.f_b, pair1.2.f_text.f_at, pair1.2.f_text.f_e, pair1.2.f_l, pair1.2.f_full, pair1.2.f_more, b8, A565_o0_0, c565_o0_0, A565_o0_3, c565_o0_3, A575, c575, mk565) (Nat.lt_succ_self _) ⟨hnx528 _ (Option.some.inj hb_528).symm, H, ((hsub529.trans hsub531).trans hsub565), hs565_0⟩ (by kernel_rfl)
        · rw [hb537]
          refine seg 8 [.op [1, 1, 0, 1, 0, 0, 1, 0, 1, 0, 1, 1, 1, 1, 0, 0] 4, .co [1, 1, 0, 1, 0, 0, 1, 0, 1, 0, 1, 1, 1, 1, 0, 1], .co [1, 1, 0, 1, 0, 0, 1, 0, 1, 0, 1, 1, 1, 1, 1], .bl 2, .bl 1, .le 1, .bl 0, .le 0, .co [1, 1, 1]] [(0, .pointer (some (⟨g0, 0, none⟩))), (3, .slice A_5_529 b1.length c_6_529), (4, .int .i64 r_.f_text.f_at), (26, .pointer (some (⟨g0, 1, none⟩)))] (by kernel_rfl) ?_
          replace H : St w F m mk531 [blkI g0 [.slice A_1_529 b.length c_2_529, .int .i64 at_, .int .i64 e_, .slice A_3_529 l_.length c_4_529, .bool full, .bool more] 56, rowI rApiEntry 44 A_3_529 c_4_529 l_, rowI rU8 5 A_5_529 c_6_529 b1] w532 := H
          refine st (ldR (some 27) 3 (⟨g0, 1, none⟩) (.int .i64 at_) (by kernel_rfl) (by kernel_rfl) (H.cellB 0 rfl rfl) ?_)
          refine seg 3 [.co [1, 1, 0, 1, 0, 0, 1, 0, 1, 0, 1, 1, 1, 1, 0, 1], .co [1, 1, 0, 1, 0, 0, 1, 0, 1, 0, 1, 1, 1, 1, 1], .bl 2, .bl 1, .le 1, .bl 0, .le 0, .co [1, 1, 1]] [(0, .pointer (some (⟨g0, 0, none⟩))), (3, .slice A_5_529 b1.length c_6_529), (29, .bool (at_ == r_.f_text.f_at))] (by kernel_rfl) ?_
          rcases condT hb_528 with ⟨hb576, hb_528⟩ | ⟨hb576, hb_528⟩
          · rw [hb576]
            refine seg 1 [.co [1, 1, 0, 1, 0, 0, 1, 0, 1, 0, 1, 1, 1, 1, 0, 1, 0], .co [1, 1, 0, 1, 0, 0, 1, 0, 1, 0, 1, 1, 1, 1, 1], .bl 2, .bl 1, .le 1, .bl 0, .le 0, .co [1, 1, 1]] [(0, .pointer (some (⟨g0, 0, none⟩))), (3, .slice A_5_529 b1.length c_6_529)] (by kernel_rfl) ?_
            obtain ⟨fail2, h_fail2, hb_528⟩ := bindE hb_528
            have hst : statB (bodyOf Tryd.f24) [1, 1, 0, 1, 0, 0, 1, 0, 1, 0, 1, 1, 1, 1, 0, 1, 0] = true := by kernel_rfl
            refine drawS (Has mk531) H (by kernel_rfl) (by kernel_rfl) ?_
            intro w578 H
            refine segD2 hst [0, 1, 2, 3, 4, 5, 6] [0, 1, 2, 3, 4, 5, 6] [(3, .slice A_5_529 b1.length c_6_529), (32, .pointer (some (⟨g0, 0, none⟩))), (36, .pointer (some (⟨g0, 1, none⟩)))] (by kernel_rfl) ?_
            refine stD2 (i := 7) (by kernel_rfl) H.has (ldR (some 37) 3 (⟨g0, 1, none⟩) (.int .i64 at_) (by kernel_rfl) (by kernel_rfl) (H.cellB 0 rfl rfl) ?_)
            replace H := ((H.pull 1 rfl).pull 1 rfl)
            obtain ⟨F579, hse579, hFn579, hcl579⟩ := St.call [blkI g0 [.slice A_1_529 b.length c_2_529, .int .i64 at_, .int .i64 e_, .slice A_3_529 l_.length c_4_529, .bool full, .bool more] 56, rowI rApiEntry 44 A_3_529 c_4_529 l_] H
            refine stD2 (i := 8) (by kernel_rfl) H.has (callR (some 38) 39 #[.pointer (some (⟨g0, 0, none⟩)), .int .i64 6, .int .i64 at_] Tryd.call39 (manifest_text_fail_c H.has g0 ({ f_text := ({ f_b := b, f_at := at_, f_e := e_ } : TManifestText), f_l := l_, f_full := full, f_more := more } : TManifestReader) A_1_529 c_2_529 (hs529_0.mono hsub531) A_3_529 c_4_529 6 at_ hse579 hFn579 h_fail2) (by kernel_rfl) ?_)
            rintro _ w579 ⟨A579_o0_0, c579_o0_0, A579_o0_3, c579_o0_3, mk579, rfl, hS579, hs579_0⟩
            have hsub579 := hS579.sub
            replace H := hcl579 _ _ _ hS579
            refine endD2 (by kernel_rfl) (H.has.sub hsub579) ?_
            refine seg 3 [.op [1, 1, 0, 1, 0, 0, 1, 0, 1, 0, 1, 1, 1, 1, 1, 0] 1, .co [1, 1, 0, 1, 0, 0, 1, 0, 1, 0, 1, 1, 1, 1, 1, 1], .bl 2, .bl 1, .le 1, .bl 0, .le 0, .co [1, 1, 1]] [(39, .slice A_5_529 b1.length c_6_529)] (by kernel_rfl) ?_
            refine st (b2sS (some 40) 25 9 5 A_5_529 c_6_529 b1 Tryd.underlying25 Tryd.underlying5 Tryd.underlying9 (by kernel_rfl) (H.rowCs 2 rfl) ?_)
            have hl580 : b1.length ≤ 9223372036854775807 := (Nat.le_trans (H.rowCap 2 rfl).1 (H.rowCap 2 rfl).2)
            refine seg 2 [.co [1, 1, 0, 1, 0, 0, 1, 0, 1, 0, 1, 1, 1, 1, 1, 1], .bl 2, .bl 1, .le 1, .bl 0, .le 0, .co [1, 1, 1]] [(2, .string ⟨b1.toArray⟩)] (by kernel_rfl) ?_
            refine retR [2] [.string ⟨b1.toArray⟩] (by kernel_rfl) (by kernel_rfl) (by kernel_rfl) ?_
            obtain rfl : (b1, fail2) = r := (hfr440 _ (hfin528 _ (Option.some.inj hb_528).symm).symm)
            exact ⟨_, rfl, A579_o0_0, c579_o0_0, A579_o0_3, c579_o0_3, mk579, rfl, (St.takeN 2 ((H.pull 1 rfl).pull 1 rfl)), hs579_0, hl580⟩
          · rw [hb576]
            refine seg 5 [.op [1, 1, 0, 1, 0, 0, 1, 0, 1, 0, 1, 1, 1, 1, 1, 0] 1, .co [1, 1, 0, 1, 0, 0, 1, 0, 1, 0, 1, 1, 1, 1, 1, 1], .bl 2, .bl 1, .le 1, .bl 0, .le 0, .co [1, 1, 1]] [(39, .slice A_5_529 b1.length c_6_529)] (by kernel_rfl) ?_
            refine st (b2sS (some 40) 25 9 5 A_5_529 c_6_529 b1 Tryd.underlying25 Tryd.underlying5 Tryd.underlying9 (by kernel_rfl) (H.rowCs 2 rfl) ?_)
            have hl581 : b1.length ≤ 9223372036854775807 := (Nat.le_trans (H.rowCap 2 rfl).1 (H.rowCap 2 rfl).2)
            refine seg 2 [.co [1, 1, 0, 1, 0, 0, 1, 0, 1, 0, 1, 1, 1, 1, 1, 1], .bl 2, .bl 1, .le 1, .bl 0, .le 0, .co [1, 1, 1]] [(2, .string ⟨b1.toArray⟩)] (by kernel_rfl) ?_
            refine retR [2] [.string ⟨b1.toArray⟩] (by kernel_rfl) (by kernel_rfl) (by kernel_rfl) ?_
            obtain rfl : (b1, ({ f_text := ({ f_b := b, f_at := at_, f_e := e_ } : TManifestText), f_l := l_, f_full := full, f_more := more } : TManifestReader)) = r := (hfr440 _ (hfin528 _ (Option.some.inj hb_528).symm).symm)
            exact ⟨_, rfl, A_1_529, c_2_529, A_3_529, c_4_529, mk531, rfl, (St.takeN 2 ((H.pull 1 rfl).pull 1 rfl)), (hs529_0.mono hsub531), hl581⟩
    · rw [hb530]
      refine seg 2 [.le 0, .co [1, 1, 1]] [] (by kernel_rfl) ?_
      refine leR_up (k' := []) (by rfl) ?_
      refine leJ (b, at_, e_, l_, full, more, A_1_529, c_2_529, A_3_529, c_4_529, mm529) ⟨(hfin528 _ (Option.some.inj hb_528).symm).symm, (St.takeN 2 ((H.pull 1 rfl).pull 1 rfl)), hsub529, hs529_0⟩ (by kernel_rfl)
  rintro ⟨b, at_, e_, l_, full, more, A_1_441, c_2_441, A_3_441, c_4_441, mm441⟩ wj440 ⟨hy440, H, hsub441, hs441_0⟩
  try dsimp only at hy440
  try dsimp only at H
  try dsimp only at hsub441
  try dsimp only at hs441_0
  have hf := hfl440 _ hy440
  try dsimp only at hf
  refine seg 4 [.co [1, 1, 1, 1]] [(2, .string ⟨([] : List UInt8).toArray⟩)] (by kernel_rfl) ?_
  refine retR [2] [.string ⟨([] : List UInt8).toArray⟩] (by kernel_rfl) (by kernel_rfl) (by kernel_rfl) ?_
  obtain rfl : (([] : List UInt8), ({ f_text := ({ f_b := b, f_at := at_, f_e := e_ } : TManifestText), f_l := l_, f_full := full, f_more := more } : TManifestReader)) = r := (Option.some.inj hf)
  exact ⟨_, rfl, A_1_441, c_2_441, A_3_441, c_4_441, mm441, rfl, H, hs441_0, (Nat.le_of_ble_eq_true rfl)⟩
theorem manifest_Unquote_c {m : Mem} {w : World} (hm : Has m w) (s_ : (List UInt8)) (l0_0 : s_.length ≤ 9223372036854775807) {r : ((List UInt8) × Int)} (hf : manifest_Unquote s_ = some r) :
    Calls Tryd.prog 12 #[.string ⟨s_.toArray⟩] w fun e w' => ∃ v, e = .returned v ∧ v = .tuple #[.string ⟨r.1.toArray⟩, .int .i64 r.2] ∧ Ex w w' ∧ r.1.length ≤ 9223372036854775807 := by
  unfold manifest_Unquote at hf
  have H := St.start0 hm
  refine callsR Tryd.func12 (by kernel_rfl) (by kernel_rfl) ?_
  refine seg 8 [.op [1, 0] 1, .co [1, 1]] [(0, .string ⟨s_.toArray⟩), (6, .string ⟨s_.toArray⟩)] (by kernel_rfl) ?_
  refine st (s2bS (some 7) 9 25 5 s_ H Tryd.underlying9 Tryd.underlying25 Tryd.underlying5 (by kernel_rfl) ?_ l0_0)
  intro A1 c1 mc1 w1 hsub1 hs1 H
  refine seg 2 [.op [1, 0] 4, .co [1, 1]] [(0, .string ⟨s_.toArray⟩), (9, .agg #[.slice A1 s_.length c1, .int .i64 0, .int .i64 0, .slice none 0 0, .bool false, .bool false])] (by kernel_rfl) ?_
  refine st (newS (some 10) (fun g => .pointer (some ⟨g, 0, none⟩)) [.slice A1 s_.length c1, .int .i64 0, .int .i64 0, .slice none 0 0, .bool false, .bool false] 56 H (by kernel_rfl) ?_)
  intro g2 w2 H
  refine seg 5 [.op [1, 1, 0] 1, .co [1, 1, 1]] [(0, .string ⟨s_.toArray⟩), (4, .pointer (some (⟨g2, 0, none⟩))), (11, .pointer (some (⟨g2, 0, none⟩)))] (by kernel_rfl) ?_
  have H := H.nilR rApiEntry 44
  obtain ⟨word_, h_word_, hf⟩ := bindE hf
  obtain ⟨F3, hse3, hFn3, hcl3⟩ := St.call [blkI g2 [.slice A1 s_.length c1, .int .i64 0, .int .i64 0, .slice none 0 0, .bool false, .bool false] 56, rowI rApiEntry 44 none 0 ([] : List TApiEntry)] (H.pull 1 rfl)
  refine st (callR (some 12) 24 #[.pointer (some (⟨g2, 0, none⟩))] Tryd.call24 (manifest_reader_word_c H.has g2 ({ f_text := ({ f_b := s_, f_at := 0, f_e := 0 } : TManifestText), f_l := [], f_full := false, f_more := false } : TManifestReader) A1 c1 hs1 none 0 hse3 hFn3 h_word_) (by kernel_rfl) ?_)
  rintro _ w3 ⟨A3_o0_0, c3_o0_0, A3_o0_3, c3_o0_3, mk3, rfl, hS3, hs3_0, hl3_0⟩
  have hsub3 := hS3.sub
  replace H := hcl3 _ _ _ hS3
  refine seg 9 [.op [1, 1, 1, 0, 0] 4, .co [1, 1, 1, 0, 1], .co [1, 1, 1, 1]] [(0, .string ⟨s_.toArray⟩), (4, .pointer (some (⟨g2, 0, none⟩))), (5, .string ⟨word_.1.toArray⟩), (16, .pointer (some (⟨g2, 2, none⟩)))] (by kernel_rfl) ?_
  refine st (ldR (some 17) 26 (⟨g2, 2, none⟩) (.int .i64 word_.2.f_text.f_e) (by kernel_rfl) (by kernel_rfl) (H.cellB 0 rfl rfl) ?_)
  refine seg 2 [.op [1, 1, 1, 0, 0] 7, .co [1, 1, 1, 0, 1], .co [1, 1, 1, 1]] [(0, .string ⟨s_.toArray⟩), (4, .pointer (some (⟨g2, 0, none⟩))), (5, .string ⟨word_.1.toArray⟩), (19, .bool (word_.2.f_text.f_e != 0))] (by kernel_rfl) ?_
  rcases condT hf with ⟨hb6, hf⟩ | ⟨hb6, hf⟩
  · rw [hb6]
    refine seg 20 [.co [1, 1, 1, 0, 1, 0, 1], .co [1, 1, 1, 1]] [(2, .string ⟨([] : List UInt8).toArray⟩), (3, .int .i64 6)] (by kernel_rfl) ?_
    refine retR [2, 3] [.string ⟨([] : List UInt8).toArray⟩, .int .i64 6] (by kernel_rfl) (by kernel_rfl) (by kernel_rfl) ?_
    obtain rfl : (([] : List UInt8), 6) = r := (Option.some.inj hf)
    exact ⟨_, rfl, rfl, H.scalar, (Nat.le_of_ble_eq_true rfl)⟩
  · rw [hb6]
    refine seg 4 [.op [1, 1, 1, 0, 0] 11, .co [1, 1, 1, 0, 1], .co [1, 1, 1, 1]] [(0, .string ⟨s_.toArray⟩), (5, .string ⟨word_.1.toArray⟩), (19, .bool false), (23, .pointer (some (⟨g2, 1, none⟩)))] (by kernel_rfl) ?_
    refine st (ldR (some 24) 3 (⟨g2, 1, none⟩) (.int .i64 word_.2.f_text.f_at) (by kernel_rfl) (by kernel_rfl) (H.cellB 0 rfl rfl) ?_)
    refine seg 5 [.op [1, 1, 1, 0, 0] 17, .co [1, 1, 1, 0, 1], .co [1, 1, 1, 1]] [(0, .string ⟨s_.toArray⟩), (5, .string ⟨word_.1.toArray⟩), (29, .bool (word_.2.f_text.f_at != (s_.length : Int)))] (by kernel_rfl) ?_
    rcases condT hf with ⟨hb7, hf⟩ | ⟨hb7, hf⟩
    · rw [hb7]
      refine seg 10 [.co [1, 1, 1, 0, 1, 0, 1], .co [1, 1, 1, 1]] [(2, .string ⟨([] : List UInt8).toArray⟩), (3, .int .i64 6)] (by kernel_rfl) ?_
      refine retR [2, 3] [.string ⟨([] : List UInt8).toArray⟩, .int .i64 6] (by kernel_rfl) (by kernel_rfl) (by kernel_rfl) ?_
      obtain rfl : (([] : List UInt8), 6) = r := (Option.some.inj hf)
      exact ⟨_, rfl, rfl, H.scalar, (Nat.le_of_ble_eq_true rfl)⟩
    · rw [hb7]
      refine seg 4 [.co [1, 1, 1, 0, 1], .co [1, 1, 1, 1]] [(5, .string ⟨word_.1.toArray⟩), (32, .bool ((ByteArray.toList ⟨s_.toArray⟩) == (ByteArray.toList ⟨([] : List UInt8).toArray⟩)))] (by kernel_rfl) ?_
      rw [seq_raw s_ ([] : List UInt8)]
      rcases condT hf with ⟨hb10, hf⟩ | ⟨hb10, hf⟩
      · rw [hb10]
        refine seg 6 [.co [1, 1, 1, 0, 1, 0, 1], .co [1, 1, 1, 1]] [(2, .string ⟨([] : List UInt8).toArray⟩), (3, .int .i64 6)] (by kernel_rfl) ?_
        refine retR [2, 3] [.string ⟨([] : List UInt8).toArray⟩, .int .i64 6] (by kernel_rfl) (by kernel_rfl) (by kernel_rfl) ?_
        obtain rfl : (([] : List UInt8), 6) = r := (Option.some.inj hf)
        exact ⟨_, rfl, rfl, H.scalar, (Nat.le_of_ble_eq_true rfl)⟩
      · rw [hb10]
        refine seg 8 [.co [1, 1, 1, 1, 1]] [(2, .string ⟨word_.1.toArray⟩), (3, .int .i64 0)] (by kernel_rfl) ?_
        refine retR [2, 3] [.string ⟨word_.1.toArray⟩, .int .i64 0] (by kernel_rfl) (by kernel_rfl) (by kernel_rfl) ?_
        obtain rfl : (word_.1, 0) = r := (Option.some.inj hf)
        exact ⟨_, rfl, rfl, H.scalar, hl3_0⟩
theorem ref27_byteAt_c {m : Mem} {w : World} (hm : Has m w) (b : (List UInt8)) (A0_0 : Option Addr) (c0_0 : Nat) (s0_0 : SlI rU8 m A0_0 c0_0 b) (at_ : Int) {r : UInt8} (hf : ref27_byteAt b at_ = some r) :
    Calls Tryd.prog 40 #[.slice A0_0 b.length c0_0, .int .i64 at_] w fun e w' => ∃ v, e = .returned v ∧ v = .int .u8 (r.toNat : Int) ∧ Ex w w' := by
  unfold ref27_byteAt at hf
  have H := St.start0 hm
  refine callsR Tryd.func40 (by kernel_rfl) (by kernel_rfl) ?_
  refine seg 12 [.co [1, 0, 1], .co [1, 1]] [(0, .slice A0_0 b.length c0_0), (1, .int .i64 at_), (8, .bool (decide (at_ < (b.length : Int))))] (by kernel_rfl) ?_
  rcases condT hf with ⟨hb4, hf⟩ | ⟨hb4, hf⟩
  · rw [hb4]
    have p4 := of_decide_eq_true hb4
    refine seg 5 [.op [1, 0, 1, 0, 0] 2, .co [1, 0, 1, 0, 1], .co [1, 1]] [(9, .slice A0_0 b.length c0_0), (10, .int .i64 at_)] (by kernel_rfl) ?_
    obtain ⟨x_, h_x_, hf⟩ := bindE hf
    obtain ⟨i05, i15, ix5⟩ := idx_some h_x_
    obtain ⟨ad6, _, ea6, rfl, hc6⟩ := s0_0.at_ ix5 (by decide)
    refine st (idxS (some 11) 25 5 1 A0_0 ad6 b.length c0_0 .i64 at_ ea6 (by kernel_rfl) (by kernel_rfl) i05 i15 ?_)
    refine st (ldR (some 12) 5 (ad6.add (at_.toNat * 1)) (.int .u8 (x_.toNat : Int)) (by kernel_rfl) (by kernel_rfl) (H.cellI (mc0 (hc6 0 _ rfl))) ?_)
    refine seg 2 [.co [1, 0, 1, 0, 1], .co [1, 1]] [(4, .int .u8 (x_.toNat : Int))] (by kernel_rfl) ?_
    refine retR [4] [.int .u8 (x_.toNat : Int)] (by kernel_rfl) (by kernel_rfl) (by kernel_rfl) ?_
    have hret := (Option.some.inj hf)
    subst hret
    exact ⟨_, rfl, rfl, H.scalar⟩
  · rw [hb4]
    have p4 := of_decide_eq_false hb4
    refine seg 6 [.co [1, 1, 1]] [(4, .int .u8 0)] (by kernel_rfl) ?_
    refine retR [4] [.int .u8 0] (by kernel_rfl) (by kernel_rfl) (by kernel_rfl) ?_
    obtain rfl : (0 : UInt8) = r := (Option.some.inj hf)
    exact ⟨_, rfl, rfl, H.scalar⟩
theorem ref27_value_c {m : Mem} {w : World} (hm : Has m w) (c : UInt8) :
    Calls Tryd.prog 48 #[.int .u8 (c.toNat : Int)] w fun e w' => ∃ v, e = .returned v ∧ v = .int .i64 (ref27_value c) ∧ Ex w w' := by
  generalize hf : ref27_value c = r
  unfold ref27_value at hf
  have H := St.start0 hm
  refine callsR Tryd.func48 (by kernel_rfl) (by kernel_rfl) ?_
  refine seg 10 [.op [1, 0, 0] 3, .co [1, 0, 1], .co [1, 1]] [(0, .int .u8 (c.toNat : Int)), (5, .bool (decide ((c.toNat : Int) ≥ 48)))] (by kernel_rfl) ?_
  rcases condT hf with ⟨hb10, hf⟩ | ⟨hb10, hf⟩
  · rw [hb10]
    have p10 := of_decide_eq_true hb10
    refine seg 4 [.co [1, 0, 1], .co [1, 1]] [(0, .int .u8 (c.toNat : Int)), (8, .bool (decide ((c.toNat : Int) ≤ 57)))] (by kernel_rfl) ?_
    rcases condT hf with ⟨hb11, hf⟩ | ⟨hb11, hf⟩
    · rw [hb11]
      have p11 := of_decide_eq_true hb11
      refine seg 8 [.co [1, 0, 1, 0, 1], .co [1, 1]] [(2, .int .i64 (IntKind.i64.wrap ((IntKind.i64.wrap (c.toNat : Int)) - 48)))] (by kernel_rfl) ?_
      have := c.toNat_lt
      rw [show IntKind.i64.wrap (c.toNat : Int) = (c.toNat : Int) from w64 (by omega)]
      have := c.toNat_lt
      rw [show IntKind.i64.wrap ((c.toNat : Int) - 48) = ((c.toNat : Int) - 48) from w64 (by omega)]
      refine retR [2] [.int .i64 ((c.toNat : Int) - 48)] (by kernel_rfl) (by kernel_rfl) (by kernel_rfl) ?_
      obtain rfl : ((c.toNat : Int) - 48) = r := hf
      exact ⟨_, rfl, rfl, H.scalar⟩
    · rw [hb11]
      have p11 := of_decide_eq_false hb11
      refine seg 8 [.op [1, 1, 0, 0] 3, .co [1, 1, 0, 1], .co [1, 1, 1]] [(0, .int .u8 (c.toNat : Int)), (14, .bool (decide ((c.toNat : Int) ≥ 97)))] (by kernel_rfl) ?_
      rcases condT hf with ⟨hb12, hf⟩ | ⟨hb12, hf⟩
      · rw [hb12]
        have p12 := of_decide_eq_true hb12
        refine seg 4 [.co [1, 1, 0, 1], .co [1, 1, 1]] [(0, .int .u8 (c.toNat : Int)), (17, .bool (decide ((c.toNat : Int) ≤ 102)))] (by kernel_rfl) ?_
        rcases condT hf with ⟨hb13, hf⟩ | ⟨hb13, hf⟩
        · rw [hb13]
          have p13 := of_decide_eq_true hb13
          refine seg 9 [.co [1, 1, 0, 1, 0, 1], .co [1, 1, 1]] [(2, .int .i64 (IntKind.i64.wrap ((IntKind.i64.wrap ((IntKind.i64.wrap (c.toNat : Int)) - 97)) + 10)))] (by kernel_rfl) ?_
          have := c.toNat_lt
          rw [show IntKind.i64.wrap (c.toNat : Int) = (c.toNat : Int) from w64 (by omega)]
          have := c.toNat_lt
          rw [show IntKind.i64.wrap ((c.toNat : Int) - 97) = ((c.toNat : Int) - 97) from w64 (by omega)]
          have := c.toNat_lt
          rw [show IntKind.i64.wrap (((c.toNat : Int) - 97) + 10) = (((c.toNat : Int) - 97) + 10) from w64 (by omega)]
          refine retR [2] [.int .i64 (((c.toNat : Int) - 97) + 10)] (by kernel_rfl) (by kernel_rfl) (by kernel_rfl) ?_
          obtain rfl : (((c.toNat : Int) - 97) + 10) = r := hf
          exact ⟨_, rfl, rfl, H.scalar⟩
        · rw [hb13]
          have p13 := of_decide_eq_false hb13
          refine seg 6 [.co [1, 1, 1, 1]] [(2, .int .i64 (-1))] (by kernel_rfl) ?_
          refine retR [2] [.int .i64 (-1)] (by kernel_rfl) (by kernel_rfl) (by kernel_rfl) ?_
          obtain rfl : (-1) = r := hf
          exact ⟨_, rfl, rfl, H.scalar⟩
      · rw [hb12]
        have p12 := of_decide_eq_false hb12
        refine seg 10 [.co [1, 1, 1, 1]] [(2, .int .i64 (-1))] (by kernel_rfl) ?_
        refine retR [2] [.int .i64 (-1)] (by kernel_rfl) (by kernel_rfl) (by kernel_rfl) ?_
        obtain rfl : (-1) = r := hf
        exact ⟨_, rfl, rfl, H.scalar⟩
  · rw [hb10]
    have p10 := of_decide_eq_false hb10
    refine seg 12 [.op [1, 1, 0, 0] 3, .co [1, 1, 0, 1], .co [1, 1, 1]] [(0, .int .u8 (c.toNat : Int)), (14, .bool (decide ((c.toNat : Int) ≥ 97)))] (by kernel_rfl) ?_
    rcases condT hf with ⟨hb14, hf⟩ | ⟨hb14, hf⟩
    · rw [hb14]
      have p14 := of_decide_eq_true hb14
      refine seg 4 [.co [1, 1, 0, 1], .co [1, 1, 1]] [(0, .int .u8 (c.toNat : Int)), (17, .bool (decide ((c.toNat : Int) ≤ 102)))] (by kernel_rfl) ?_
      rcases condT hf with ⟨hb17, hf⟩ | ⟨hb17, hf⟩
      · rw [hb17]
        have p17 := of_decide_eq_true hb17
        refine seg 9 [.co [1, 1, 0, 1, 0, 1], .co [1, 1, 1]] [(2, .int .i64 (IntKind.i64.wrap ((IntKind.i64.wrap ((IntKind.i64.wrap (c.toNat : Int)) - 97)) + 10)))] (by kernel_rfl) ?_
        have := c.toNat_lt
        rw [show IntKind.i64.wrap (c.toNat : Int) = (c.toNat : Int) from w64 (by omega)]
        have := c.toNat_lt
        rw [show IntKind.i64.wrap ((c.toNat : Int) - 97) = ((c.toNat : Int) - 97) from w64 (by omega)]
        have := c.toNat_lt
        rw [show IntKind.i64.wrap (((c.toNat : Int) - 97) + 10) = (((c.toNat : Int) - 97) + 10) from w64 (by omega)]
        refine retR [2] [.int .i64 (((c.toNat : Int) - 97) + 10)] (by kernel_rfl) (by kernel_rfl) (by kernel_rfl) ?_
        obtain rfl : (((c.toNat : Int) - 97) + 10) = r := hf
        exact ⟨_, rfl, rfl, H.scalar⟩
      · rw [hb17]
        have p17 := of_decide_eq_false hb17
        refine seg 6 [.co [1, 1, 1, 1]] [(2, .int .i64 (-1))] (by kernel_rfl) ?_
        refine retR [2] [.int .i64 (-1)] (by kernel_rfl) (by kernel_rfl) (by kernel_rfl) ?_
        obtain rfl : (-1) = r := hf
        exact ⟨_, rfl, rfl, H.scalar⟩
    · rw [hb14]
      have p14 := of_decide_eq_false hb14
      refine seg 10 [.co [1, 1, 1, 1]] [(2, .int .i64 (-1))] (by kernel_rfl) ?_
      refine retR [2] [.int .i64 (-1)] (by kernel_rfl) (by kernel_rfl) (by kernel_rfl) ?_
      obtain rfl : (-1) = r := hf
      exact ⟨_, rfl, rfl, H.scalar⟩
theorem ref27_pair_c {m : Mem} {w : World} (hm : Has m w) (b : (List UInt8)) (A0_0 : Option Addr) (c0_0 : Nat) (s0_0 : SlI rU8 m A0_0 c0_0 b) (at_ : Int) {r : (UInt8 × Int × Int)} (hf : ref27_pair b at_ = some r) :
    Calls Tryd.prog 41 #[.slice A0_0 b.length c0_0, .int .i64 at_] w fun e w' => ∃ v, e = .returned v ∧ v = .tuple #[.int .u8 (r.1.toNat : Int), .int .i64 r.2.1, .int .i64 r.2.2] ∧ Ex w w' := by
  unfold ref27_pair at hf
  have H := St.start0 hm
  refine callsR Tryd.func41 (by kernel_rfl) (by kernel_rfl) ?_
  refine seg 10 [.op [1, 0] 2, .co [1, 1]] [(0, .slice A0_0 b.length c0_0), (1, .int .i64 at_), (9, .slice A0_0 b.length c0_0), (10, .int .i64 at_)] (by kernel_rfl) ?_
  obtain ⟨byteAt, h_byteAt, hf⟩ := bindE hf
  refine st (callR (some 11) 40 #[.slice A0_0 b.length c0_0, .int .i64 at_] Tryd.call40 (ref27_byteAt_c H.has b A0_0 c0_0 s0_0 at_ h_byteAt) (by kernel_rfl) ?_)
  rintro _ w1 ⟨rfl, hx1⟩
  replace H := H.ex hx1
  refine st (callR (some 12) 48 #[.int .u8 (byteAt.toNat : Int)] Tryd.call48 (ref27_value_c H.has byteAt) (by kernel_rfl) ?_)
  rintro _ w2 ⟨rfl, hx2⟩
  replace H := H.ex hx2
  refine seg 8 [.co [1, 1, 0, 1], .co [1, 1, 1]] [(0, .slice A0_0 b.length c0_0), (1, .int .i64 at_), (7, .int .i64 (ref27_value byteAt)), (14, .bool (decide ((ref27_value byteAt) < 0)))] (by kernel_rfl) ?_
  rcases condT hf with ⟨hb4, hf⟩ | ⟨hb4, hf⟩
  · rw [hb4]
    have p4 := of_decide_eq_true hb4
    refine seg 8 [.co [1, 1, 0, 1, 0, 1], .co [1, 1, 1]] [(4, .int .u8 0), (5, .int .i64 at_), (6, .int .i64 6)] (by kernel_rfl) ?_
    refine retR [4, 5, 6] [.int .u8 0, .int .i64 at_, .int .i64 6] (by kernel_rfl) (by kernel_rfl) (by kernel_rfl) ?_
    obtain rfl : ((0 : UInt8), at_, 6) = r := (Option.some.inj hf)
    exact ⟨_, rfl, rfl, H.scalar⟩
  · rw [hb4]
    have p4 := of_decide_eq_false hb4
    refine seg 7 [.op [1, 1, 1, 0] 3, .co [1, 1, 1, 1]] [(1, .int .i64 at_), (7, .int .i64 (ref27_value byteAt)), (16, .slice A0_0 b.length c0_0), (18, .int .i64 (IntKind.i64.wrap (at_ + 1)))] (by kernel_rfl) ?_
    obtain ⟨byteAt1, h_byteAt1, hf⟩ := bindE hf
    refine st (callR (some 19) 40 #[.slice A0_0 b.length c0_0, .int .i64 (IntKind.i64.wrap (at_ + 1))] Tryd.call40 (ref27_byteAt_c H.has b A0_0 c0_0 s0_0 (IntKind.i64.wrap (at_ + 1)) h_byteAt1) (by kernel_rfl) ?_)
    rintro _ w5 ⟨rfl, hx5⟩
    replace H := H.ex hx5
    refine st (callR (some 20) 48 #[.int .u8 (byteAt1.toNat : Int)] Tryd.call48 (ref27_value_c H.has byteAt1) (by kernel_rfl) ?_)
    rintro _ w6 ⟨rfl, hx6⟩
    replace H := H.ex hx6
    refine seg 8 [.co [1, 1, 1, 1, 0, 1], .co [1, 1, 1, 1, 1]] [(1, .int .i64 at_), (7, .int .i64 (ref27_value byteAt)), (8, .int .i64 (ref27_value byteAt1)), (22, .bool (decide ((ref27_value byteAt1) < 0)))] (by kernel_rfl) ?_
    rcases condT hf with ⟨hb9, hf⟩ | ⟨hb9, hf⟩
    · rw [hb9]
      have p9 := of_decide_eq_true hb9
      refine seg 9 [.co [1, 1, 1, 1, 0, 1, 0, 1], .co [1, 1, 1, 1, 1]] [(4, .int .u8 0), (5, .int .i64 (IntKind.i64.wrap (at_ + 1))), (6, .int .i64 6)] (by kernel_rfl) ?_
      refine retR [4, 5, 6] [.int .u8 0, .int .i64 (IntKind.i64.wrap (at_ + 1)), .int .i64 6] (by kernel_rfl) (by kernel_rfl) (by kernel_rfl) ?_
      obtain rfl : ((0 : UInt8), (IntKind.i64.wrap (at_ + 1)), 6) = r := (Option.some.inj hf)
      exact ⟨_, rfl, rfl, H.scalar⟩
    · rw [hb9]
      have p9 := of_decide_eq_false hb9
      refine seg 15 [.co [1, 1, 1, 1, 1, 1]] [(4, .int .u8 (IntKind.u8.wrap (IntKind.i64.wrap ((IntKind.i64.wrap (16 * (ref27_value byteAt))) + (ref27_value byteAt1))))), (5, .int .i64 (IntKind.i64.wrap (at_ + 2))), (6, .int .i64 0)] (by kernel_rfl) ?_
      rw [q8_wrap (IntKind.i64.wrap ((IntKind.i64.wrap (16 * (ref27_value byteAt))) + (ref27_value byteAt1)))]
      refine retR [4, 5, 6] [.int .u8 ((UInt8.ofInt (IntKind.i64.wrap ((IntKind.i64.wrap (16 * (ref27_value byteAt))) + (ref27_value byteAt1)))).toNat : Int), .int .i64 (IntKind.i64.wrap (at_ + 2)), .int .i64 0] (by kernel_rfl) (by kernel_rfl) (by kernel_rfl) ?_
      obtain rfl : ((UInt8.ofInt (IntKind.i64.wrap ((IntKind.i64.wrap (16 * (ref27_value byteAt))) + (ref27_value byteAt1)))), (IntKind.i64.wrap (at_ + 2)), 0) = r := (Option.some.inj hf)
      exact ⟨_, rfl, rfl, H.scalar⟩
end Go.Proofs.YtebbaokcgnjfiaaDoor.F
