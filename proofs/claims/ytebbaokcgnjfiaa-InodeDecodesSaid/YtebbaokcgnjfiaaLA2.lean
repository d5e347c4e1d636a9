/- The code computes them: printed by lift.py, part 2. -/
import Derived.Test.YtebbaokcgnjfiaaProg
import Derived.Test.YtebbaokcgnjfiaaLAP
import Derived.Test.YtebbaokcgnjfiaaLA1
set_option linter.unusedVariables false
set_option linter.unusedSimpArgs false
namespace Go.Proofs.Ytebbaokcgnjfiaa.F
open Go Go.RowKit Go.Proofs.Ytebbaokcgnjfiaa Go.Proofs.Ytebbaokcgnjfiaa.K
set_option maxRecDepth 100000
theorem inode_Plain_c {m : Mem} {w : World} (hm : Has m w) (n_ : TApiInode) (A0_9 : Option Addr) (c0_9 : Nat) (s0_9 : SlI rI64 m A0_9 c0_9 n_.Words) (l0_16 : n_.Target.length ≤ 9223372036854775807) (log : Int) (i : Int) {r : (Int × Int)} (hf : inode_Plain n_ log i = some r) :
    Calls Try.prog 24 #[.agg #[.int .i64 n_.Kind, .int .i64 n_.Mode, .int .i64 n_.Uid, .int .i64 n_.Gid, .int .i64 n_.Time, .int .i64 n_.Links, .int .i64 n_.Attrs, .int .i64 n_.Size, .int .i64 n_.Start, .slice A0_9 n_.Words.length c0_9, .int .i64 n_.Frag, .int .i64 n_.Off, .int .i64 n_.Tail, .int .i64 n_.Dir, .int .i64 n_.Bytes, .int .i64 n_.Parent, .string ⟨n_.Target.toArray⟩, .int .i64 n_.Dev], .int .i64 log, .int .i64 i] w fun e w' => ∃ v, e = .returned v ∧ v = .tuple #[.int .i64 r.1, .int .i64 r.2] ∧ Ex w w' := by
  unfold inode_Plain at hf
  have H := St.start0 hm
  refine callsR Try.func24 (by kernel_rfl) (by kernel_rfl) ?_
  refine seg 2 [.op [0] 0, .co [1]] [(0, .agg #[.int .i64 n_.Kind, .int .i64 n_.Mode, .int .i64 n_.Uid, .int .i64 n_.Gid, .int .i64 n_.Time, .int .i64 n_.Links, .int .i64 n_.Attrs, .int .i64 n_.Size, .int .i64 n_.Start, .slice A0_9 n_.Words.length c0_9, .int .i64 n_.Frag, .int .i64 n_.Off, .int .i64 n_.Tail, .int .i64 n_.Dir, .int .i64 n_.Bytes, .int .i64 n_.Parent, .string ⟨n_.Target.toArray⟩, .int .i64 n_.Dev]), (1, .int .i64 log), (2, .int .i64 i)] (by kernel_rfl) ?_
  refine st (newS (some 3) (fun g => .pointer (some ⟨g, 0, none⟩)) [.int .i64 n_.Kind, .int .i64 n_.Mode, .int .i64 n_.Uid, .int .i64 n_.Gid, .int .i64 n_.Time, .int .i64 n_.Links, .int .i64 n_.Attrs, .int .i64 n_.Size, .int .i64 n_.Start, .slice A0_9 n_.Words.length c0_9, .int .i64 n_.Frag, .int .i64 n_.Off, .int .i64 n_.Tail, .int .i64 n_.Dir, .int .i64 n_.Bytes, .int .i64 n_.Parent, .string ⟨n_.Target.toArray⟩, .int .i64 n_.Dev] 46 H (by kernel_rfl) ?_)
  intro g1 w1 H
  refine seg 7 [.op [1, 0, 0] 1, .co [1, 0, 1], .co [1, 1]] [(1, .int .i64 log), (2, .int .i64 i), (3, .pointer (some (⟨g1, 0, none⟩))), (8, .pointer (some (⟨g1, 0, none⟩)))] (by kernel_rfl) ?_
  refine st (ldR (some 9) 3 (⟨g1, 0, none⟩) (.int .i64 n_.Kind) (by kernel_rfl) (by kernel_rfl) (H.cellB 0 rfl rfl) ?_)
  refine seg 2 [.op [1, 0, 0] 4, .co [1, 0, 1], .co [1, 1]] [(1, .int .i64 log), (2, .int .i64 i), (3, .pointer (some (⟨g1, 0, none⟩))), (11, .bool (n_.Kind != 1))] (by kernel_rfl) ?_
  rcases condT hf with ⟨hb6, hf⟩ | ⟨hb6, hf⟩
  · rw [hb6]
    refine seg 16 [.co [1, 0, 1, 0, 1], .co [1, 1]] [(6, .int .i64 0), (7, .int .i64 1)] (by kernel_rfl) ?_
    refine retR [6, 7] [.int .i64 0, .int .i64 1] (by kernel_rfl) (by kernel_rfl) (by kernel_rfl) ?_
    obtain rfl : (0, 1) = r := (Option.some.inj hf)
    exact ⟨_, rfl, rfl, H.scalar⟩
  · rw [hb6]
    refine st (ldAggR (some 12) 46 (⟨g1, 0, none⟩) [.int .i64 n_.Kind, .int .i64 n_.Mode, .int .i64 n_.Uid, .int .i64 n_.Gid, .int .i64 n_.Time, .int .i64 n_.Links, .int .i64 n_.Attrs, .int .i64 n_.Size, .int .i64 n_.Start, .slice A0_9 n_.Words.length c0_9, .int .i64 n_.Frag, .int .i64 n_.Off, .int .i64 n_.Tail, .int .i64 n_.Dir, .int .i64 n_.Bytes, .int .i64 n_.Parent, .string ⟨n_.Target.toArray⟩, .int .i64 n_.Dev] (by kernel_rfl) (by kernel_rfl) (H.cellsB 0 rfl (by rfl)) ?_)
    obtain ⟨check, h_check, hf⟩ := bindE hf
    refine st (callR (some 13) 28 #[.agg #[.int .i64 n_.Kind, .int .i64 n_.Mode, .int .i64 n_.Uid, .int .i64 n_.Gid, .int .i64 n_.Time, .int .i64 n_.Links, .int .i64 n_.Attrs, .int .i64 n_.Size, .int .i64 n_.Start, .slice A0_9 n_.Words.length c0_9, .int .i64 n_.Frag, .int .i64 n_.Off, .int .i64 n_.Tail, .int .i64 n_.Dir, .int .i64 n_.Bytes, .int .i64 n_.Parent, .string ⟨n_.Target.toArray⟩, .int .i64 n_.Dev]] Try.call28 (inode_Check_c H.has n_ A0_9 c0_9 s0_9 l0_16 h_check) (by kernel_rfl) ?_)
    rintro _ w7 ⟨rfl, hx7⟩
    replace H := H.ex hx7
    refine seg 3 [.op [1, 0, 0] 9, .co [1, 0, 1], .co [1, 1]] [(1, .int .i64 log), (2, .int .i64 i), (3, .pointer (some (⟨g1, 0, none⟩))), (16, .bool (check != 0))] (by kernel_rfl) ?_
    rcases condT hf with ⟨hb8, hf⟩ | ⟨hb8, hf⟩
    · rw [hb8]
      refine seg 11 [.co [1, 0, 1, 0, 1], .co [1, 1]] [(6, .int .i64 0), (7, .int .i64 1)] (by kernel_rfl) ?_
      refine retR [6, 7] [.int .i64 0, .int .i64 1] (by kernel_rfl) (by kernel_rfl) (by kernel_rfl) ?_
      obtain rfl : (0, 1) = r := (Option.some.inj hf)
      exact ⟨_, rfl, rfl, H.scalar⟩
    · rw [hb8]
      refine seg 1 [.op [1, 0, 0] 10, .co [1, 0, 1], .co [1, 1]] [(1, .int .i64 log), (2, .int .i64 i), (3, .pointer (some (⟨g1, 0, none⟩))), (16, .bool false), (17, .int .i64 log)] (by kernel_rfl) ?_
      replace H : St w noF m m [blkI g1 [.int .i64 n_.Kind, .int .i64 n_.Mode, .int .i64 n_.Uid, .int .i64 n_.Gid, .int .i64 n_.Time, .int .i64 n_.Links, .int .i64 n_.Attrs, .int .i64 n_.Size, .int .i64 n_.Start, .slice A0_9 n_.Words.length c0_9, .int .i64 n_.Frag, .int .i64 n_.Off, .int .i64 n_.Tail, .int .i64 n_.Dir, .int .i64 n_.Bytes, .int .i64 n_.Parent, .string ⟨n_.Target.toArray⟩, .int .i64 n_.Dev] 46] w7 := H
      refine st (callR (some 18) 54 #[.int .i64 log, .int .i64 12, .int .i64 20] Try.call54 (inode_between_c H.has log 12 20) (by kernel_rfl) ?_)
      rintro _ w9 ⟨rfl, hx9⟩
      replace H := H.ex hx9
      refine seg 3 [.co [1, 0, 1], .co [1, 1]] [(1, .int .i64 log), (2, .int .i64 i), (3, .pointer (some (⟨g1, 0, none⟩))), (20, .bool (!(inode_between log 12 20)))] (by kernel_rfl) ?_
      rcases condT hf with ⟨hb11, hf⟩ | ⟨hb11, hf⟩
      · rw [hb11]
        refine seg 4 [.co [1, 1, 0, 0], .co [1, 1, 0, 1], .co [1, 1, 1]] [(1, .int .i64 log), (2, .int .i64 i), (3, .pointer (some (⟨g1, 0, none⟩)))] (by kernel_rfl) ?_
        rcases condT hf with ⟨hb15, hf⟩ | ⟨hb15, hf⟩
        · have p15 := of_decide_eq_true hb15
          have hst : statB (bodyOf Try.f24) [1, 1, 0, 0] = true := by kernel_rfl
          refine drawS (fun w' => Has m w' ∧ w'.heap[g1]? = some (.cells [.int .i64 n_.Kind, .int .i64 n_.Mode, .int .i64 n_.Uid, .int .i64 n_.Gid, .int .i64 n_.Time, .int .i64 n_.Links, .int .i64 n_.Attrs, .int .i64 n_.Size, .int .i64 n_.Start, .slice A0_9 n_.Words.length c0_9, .int .i64 n_.Frag, .int .i64 n_.Off, .int .i64 n_.Tail, .int .i64 n_.Dir, .int .i64 n_.Bytes, .int .i64 n_.Parent, .string ⟨n_.Target.toArray⟩, .int .i64 n_.Dev].toArray 46 (0, 0))) H (by kernel_rfl) (by kernel_rfl) ?_
          intro w16 H
          refine segD2 hst [0, 1] [0, 1] [(1, .int .i64 log), (2, .int .i64 i), (3, .pointer (some (⟨g1, 0, none⟩))), (22, .bool (decide (i < 0)))] (by kernel_rfl) ?_
          rw [show (decide (i < 0)) = true from hb15]
          refine segD2 hst [2, 3, 4, 5, 6, 7, 8, 9, 10, 11, 12, 13, 14, 15, 16] [0, 1, 2, 3, 4, 5, 6, 7, 8, 9, 10, 11, 12, 13, 14, 15, 16] [(1, .int .i64 log), (2, .int .i64 i), (3, .pointer (some (⟨g1, 0, none⟩))), (37, .bool true)] (by kernel_rfl) ?_
          refine endD2 (by kernel_rfl) ⟨H.has, H.blk 0 rfl⟩ ?_
          refine seg 6 [.co [1, 1, 0, 1, 0, 1], .co [1, 1, 1]] [(6, .int .i64 0), (7, .int .i64 9)] (by kernel_rfl) ?_
          refine retR [6, 7] [.int .i64 0, .int .i64 9] (by kernel_rfl) (by kernel_rfl) (by kernel_rfl) ?_
          obtain rfl : (0, 9) = r := (Option.some.inj hf)
          exact ⟨_, rfl, rfl, H.scalar⟩
        · have p15 := of_decide_eq_false hb15
          rcases condT hf with ⟨hb17, hf⟩ | ⟨hb17, hf⟩
          · have p17 := of_decide_eq_true hb17
            have hst : statB (bodyOf Try.f24) [1, 1, 0, 0] = true := by kernel_rfl
            refine drawS (fun w' => Has m w' ∧ w'.heap[g1]? = some (.cells [.int .i64 n_.Kind, .int .i64 n_.Mode, .int .i64 n_.Uid, .int .i64 n_.Gid, .int .i64 n_.Time, .int .i64 n_.Links, .int .i64 n_.Attrs, .int .i64 n_.Size, .int .i64 n_.Start, .slice A0_9 n_.Words.length c0_9, .int .i64 n_.Frag, .int .i64 n_.Off, .int .i64 n_.Tail, .int .i64 n_.Dir, .int .i64 n_.Bytes, .int .i64 n_.Parent, .string ⟨n_.Target.toArray⟩, .int .i64 n_.Dev].toArray 46 (0, 0))) H (by kernel_rfl) (by kernel_rfl) ?_
            intro w18 H
            refine segD2 hst [0, 1] [0, 1] [(1, .int .i64 log), (2, .int .i64 i), (3, .pointer (some (⟨g1, 0, none⟩))), (22, .bool (decide (i < 0)))] (by kernel_rfl) ?_
            rw [show (decide (i < 0)) = false from hb15]
            refine segD2 hst [2, 3, 4] [0, 1, 2, 3, 4] [(1, .int .i64 log), (2, .int .i64 i), (3, .pointer (some (⟨g1, 0, none⟩))), (23, .bool false), (24, .int .i64 i), (25, .pointer (some (⟨g1, 9, none⟩)))] (by kernel_rfl) ?_
            refine stD2 (i := 5) (by kernel_rfl) ⟨H.has, H.blk 0 rfl⟩ (ldR (some 26) 44 (⟨g1, 9, none⟩) (.slice A0_9 n_.Words.length c0_9) (by kernel_rfl) (by kernel_rfl) (H.cellB 0 rfl rfl) ?_)
            refine segD2 hst [6, 7] [0, 1, 2, 3, 4, 5, 6, 7] [(1, .int .i64 log), (2, .int .i64 i), (3, .pointer (some (⟨g1, 0, none⟩))), (23, .bool false), (28, .bool (decide (i ≥ (n_.Words.length : Int))))] (by kernel_rfl) ?_
            rw [show (decide (i ≥ (n_.Words.length : Int))) = true from hb17]
            refine segD2 hst [8, 9, 10, 11, 12, 13, 14, 15, 16] [0, 1, 2, 3, 4, 5, 6, 7, 8, 9, 10, 11, 12, 13, 14, 15, 16] [(1, .int .i64 log), (2, .int .i64 i), (3, .pointer (some (⟨g1, 0, none⟩))), (37, .bool true)] (by kernel_rfl) ?_
            refine endD2 (by kernel_rfl) ⟨H.has, H.blk 0 rfl⟩ ?_
            refine seg 6 [.co [1, 1, 0, 1, 0, 1], .co [1, 1, 1]] [(6, .int .i64 0), (7, .int .i64 9)] (by kernel_rfl) ?_
            refine retR [6, 7] [.int .i64 0, .int .i64 9] (by kernel_rfl) (by kernel_rfl) (by kernel_rfl) ?_
            obtain rfl : (0, 9) = r := (Option.some.inj hf)
            exact ⟨_, rfl, rfl, H.scalar⟩
          · have p17 := of_decide_eq_false hb17
            obtain ⟨hc19, hf⟩ := chkE hf
            have hst : statB (bodyOf Try.f24) [1, 1, 0, 0] = true := by kernel_rfl
            refine drawS (fun w' => Has m w' ∧ w'.heap[g1]? = some (.cells [.int .i64 n_.Kind, .int .i64 n_.Mode, .int .i64 n_.Uid, .int .i64 n_.Gid, .int .i64 n_.Time, .int .i64 n_.Links, .int .i64 n_.Attrs, .int .i64 n_.Size, .int .i64 n_.Start, .slice A0_9 n_.Words.length c0_9, .int .i64 n_.Frag, .int .i64 n_.Off, .int .i64 n_.Tail, .int .i64 n_.Dir, .int .i64 n_.Bytes, .int .i64 n_.Parent, .string ⟨n_.Target.toArray⟩, .int .i64 n_.Dev].toArray 46 (0, 0))) H (by kernel_rfl) (by kernel_rfl) ?_
            intro w20 H
            refine segD2 hst [0, 1] [0, 1] [(1, .int .i64 log), (2, .int .i64 i), (3, .pointer (some (⟨g1, 0, none⟩))), (22, .bool (decide (i < 0)))] (by kernel_rfl) ?_
            rw [show (decide (i < 0)) = false from hb15]
            refine segD2 hst [2, 3, 4] [0, 1, 2, 3, 4] [(1, .int .i64 log), (2, .int .i64 i), (3, .pointer (some (⟨g1, 0, none⟩))), (23, .bool false), (24, .int .i64 i), (25, .pointer (some (⟨g1, 9, none⟩)))] (by kernel_rfl) ?_
            refine stD2 (i := 5) (by kernel_rfl) ⟨H.has, H.blk 0 rfl⟩ (ldR (some 26) 44 (⟨g1, 9, none⟩) (.slice A0_9 n_.Words.length c0_9) (by kernel_rfl) (by kernel_rfl) (H.cellB 0 rfl rfl) ?_)
            refine segD2 hst [6, 7] [0, 1, 2, 3, 4, 5, 6, 7] [(1, .int .i64 log), (2, .int .i64 i), (3, .pointer (some (⟨g1, 0, none⟩))), (23, .bool false), (28, .bool (decide (i ≥ (n_.Words.length : Int))))] (by kernel_rfl) ?_
            rw [show (decide (i ≥ (n_.Words.length : Int))) = false from hb17]
            refine segD2 hst [8, 9, 10, 11, 13] [0, 1, 2, 3, 4, 5, 6, 7, 8, 9, 10, 11, 13] [(1, .int .i64 log), (2, .int .i64 i), (3, .pointer (some (⟨g1, 0, none⟩))), (30, .bool false), (31, .int .i64 i), (32, .int .i64 log), (34, .pointer (some (⟨g1, 7, none⟩)))] (by kernel_rfl) ?_
            refine takeD2 (i := 14) (d := (some 35)) (s := vS (Instr.loadAt 3 (.pointer (some (⟨g1, 7, none⟩))))) (v := (.int .i64 n_.Size)) hst (by kernel_rfl) (by kernel_rfl) (fun w' hw' => ld_run _ _ _ (by kernel_rfl) (blk_cell hw'.2 rfl)) ?_
            refine stD2 (i := 12) (by kernel_rfl) ⟨H.has, H.blk 0 rfl⟩ (runR (by kernel_rfl : fetch _ _ _ _ _ = some ((some 33), vS (Op.shift .shl .i64 i .i64 log))) (shlI_run _ _ (of_decide_eq_true hc19)) ?_)
            refine segD2 hst [15] [0, 1, 2, 3, 4, 5, 6, 7, 8, 9, 10, 11, 13, 14, 12, 15] [(1, .int .i64 log), (2, .int .i64 i), (3, .pointer (some (⟨g1, 0, none⟩))), (30, .bool false), (36, .bool (decide ((shlI i log) ≥ n_.Size)))] (by kernel_rfl) ?_
            refine segD2 hst [16] [0, 1, 2, 3, 4, 5, 6, 7, 8, 9, 10, 11, 13, 14, 12, 15, 16] [(1, .int .i64 log), (2, .int .i64 i), (3, .pointer (some (⟨g1, 0, none⟩))), (37, .bool (decide ((shlI i log) ≥ n_.Size)))] (by kernel_rfl) ?_
            refine endD2 (by kernel_rfl) ⟨H.has, H.blk 0 rfl⟩ ?_
            rcases condT hf with ⟨hb22, hf⟩ | ⟨hb22, hf⟩
            · rw [hb22]
              have p22 := of_decide_eq_true hb22
              refine seg 6 [.co [1, 1, 0, 1, 0, 1], .co [1, 1, 1]] [(6, .int .i64 0), (7, .int .i64 9)] (by kernel_rfl) ?_
              refine retR [6, 7] [.int .i64 0, .int .i64 9] (by kernel_rfl) (by kernel_rfl) (by kernel_rfl) ?_
              obtain rfl : (0, 9) = r := (Option.some.inj hf)
              exact ⟨_, rfl, rfl, H.scalar⟩
            · rw [hb22]
              have p22 := of_decide_eq_false hb22
              refine seg 3 [.co [1, 1, 1, 0], .co [1, 1, 1, 1]] [(1, .int .i64 log), (2, .int .i64 i), (3, .pointer (some (⟨g1, 0, none⟩)))] (by kernel_rfl) ?_
              obtain ⟨hc23, hf⟩ := chkE hf
              obtain ⟨hc24, hf⟩ := chkE hf
              have hst : statB (bodyOf Try.f24) [1, 1, 1, 0] = true := by kernel_rfl
              refine drawS (fun w' => Has m w' ∧ w'.heap[g1]? = some (.cells [.int .i64 n_.Kind, .int .i64 n_.Mode, .int .i64 n_.Uid, .int .i64 n_.Gid, .int .i64 n_.Time, .int .i64 n_.Links, .int .i64 n_.Attrs, .int .i64 n_.Size, .int .i64 n_.Start, .slice A0_9 n_.Words.length c0_9, .int .i64 n_.Frag, .int .i64 n_.Off, .int .i64 n_.Tail, .int .i64 n_.Dir, .int .i64 n_.Bytes, .int .i64 n_.Parent, .string ⟨n_.Target.toArray⟩, .int .i64 n_.Dev].toArray 46 (0, 0))) H (by kernel_rfl) (by kernel_rfl) ?_
              intro w25 H
              refine segD2 hst [0, 2, 4, 5] [0, 2, 4, 5] [(38, .int .i64 log), (40, .pointer (some (⟨g1, 7, none⟩))), (42, .int .i64 i), (43, .int .i64 log)] (by kernel_rfl) ?_
              refine takeD2 (i := 3) (d := (some 41)) (s := vS (Instr.loadAt 3 (.pointer (some (⟨g1, 7, none⟩))))) (v := (.int .i64 n_.Size)) hst (by kernel_rfl) (by kernel_rfl) (fun w' hw' => ld_run _ _ _ (by kernel_rfl) (blk_cell hw'.2 rfl)) ?_
              refine allD2 [1, 6] (by kernel_rfl) ⟨H.has, H.blk 0 rfl⟩ ⟨?_, ?_, trivial⟩
              · refine (runR (by kernel_rfl : fetch _ _ _ _ _ = some ((some 39), vS (Op.shift .shl .i64 1 .i64 log))) (shlI_run _ _ (of_decide_eq_true hc23)) ?_)
                refine stD2 (i := 6) (by kernel_rfl) ⟨H.has, H.blk 0 rfl⟩ (runR (by kernel_rfl : fetch _ _ _ _ _ = some ((some 44), vS (Op.shift .shl .i64 i .i64 log))) (shlI_run _ _ (of_decide_eq_true hc24)) ?_)
                refine segD2 hst [7] [0, 2, 4, 5, 3, 1, 6, 7] [(39, .int .i64 (shlI 1 log)), (45, .int .i64 (IntKind.i64.wrap (n_.Size - (shlI i log))))] (by kernel_rfl) ?_
                refine segD2 hst [8, 9, 10] [0, 2, 4, 5, 3, 1, 6, 7, 8, 9, 10] [(6, .int .i64 (if (IntKind.i64.wrap (n_.Size - (shlI i log))) < (shlI 1 log) then (IntKind.i64.wrap (n_.Size - (shlI i log))) else (shlI 1 log))), (7, .int .i64 0)] (by kernel_rfl) ?_
                refine endD2 (by kernel_rfl) ⟨H.has, H.blk 0 rfl⟩ ?_
                refine retR [6, 7] [.int .i64 (if (IntKind.i64.wrap (n_.Size - (shlI i log))) < (shlI 1 log) then (IntKind.i64.wrap (n_.Size - (shlI i log))) else (shlI 1 log)), .int .i64 0] (by kernel_rfl) (by kernel_rfl) (by kernel_rfl) ?_
                obtain rfl : ((if (IntKind.i64.wrap (n_.Size - (shlI i log))) < (shlI 1 log) then (IntKind.i64.wrap (n_.Size - (shlI i log))) else (shlI 1 log)), 0) = r := (Option.some.inj hf)
                exact ⟨_, rfl, rfl, H.scalar⟩
              · refine (runR (by kernel_rfl : fetch _ _ _ _ _ = some ((some 44), vS (Op.shift .shl .i64 i .i64 log))) (shlI_run _ _ (of_decide_eq_true hc24)) ?_)
                refine segD2 hst [7] [0, 2, 4, 5, 3, 6, 7] [(38, .int .i64 log), (45, .int .i64 (IntKind.i64.wrap (n_.Size - (shlI i log))))] (by kernel_rfl) ?_
                refine stD2 (i := 1) (by kernel_rfl) ⟨H.has, H.blk 0 rfl⟩ (runR (by kernel_rfl : fetch _ _ _ _ _ = some ((some 39), vS (Op.shift .shl .i64 1 .i64 log))) (shlI_run _ _ (of_decide_eq_true hc23)) ?_)
                refine segD2 hst [8, 9, 10] [0, 2, 4, 5, 3, 6, 7, 1, 8, 9, 10] [(6, .int .i64 (if (IntKind.i64.wrap (n_.Size - (shlI i log))) < (shlI 1 log) then (IntKind.i64.wrap (n_.Size - (shlI i log))) else (shlI 1 log))), (7, .int .i64 0)] (by kernel_rfl) ?_
                refine endD2 (by kernel_rfl) ⟨H.has, H.blk 0 rfl⟩ ?_
                refine retR [6, 7] [.int .i64 (if (IntKind.i64.wrap (n_.Size - (shlI i log))) < (shlI 1 log) then (IntKind.i64.wrap (n_.Size - (shlI i log))) else (shlI 1 log)), .int .i64 0] (by kernel_rfl) (by kernel_rfl) (by kernel_rfl) ?_
                obtain rfl : ((if (IntKind.i64.wrap (n_.Size - (shlI i log))) < (shlI 1 log) then (IntKind.i64.wrap (n_.Size - (shlI i log))) else (shlI 1 log)), 0) = r := (Option.some.inj hf)
                exact ⟨_, rfl, rfl, H.scalar⟩
      · rw [hb11]
        refine seg 6 [.co [1, 0, 1, 0, 1], .co [1, 1]] [(6, .int .i64 0), (7, .int .i64 1)] (by kernel_rfl) ?_
        refine retR [6, 7] [.int .i64 0, .int .i64 1] (by kernel_rfl) (by kernel_rfl) (by kernel_rfl) ?_
        obtain rfl : (0, 1) = r := (Option.some.inj hf)
        exact ⟨_, rfl, rfl, H.scalar⟩
theorem ref15_in_c {m : Mem} {w : World} (hm : Has m w) (n_ : Int) (low : Int) (high : Int) :
    Calls Try.prog 55 #[.int .i64 n_, .int .i64 low, .int .i64 high] w fun e w' => ∃ v, e = .returned v ∧ v = .bool (ref15_in n_ low high) ∧ Ex w w' := by
  generalize hf : ref15_in n_ low high = r
  unfold ref15_in at hf
  have H := St.start0 hm
  refine callsR Try.func55 (by kernel_rfl) (by kernel_rfl) ?_
  refine seg 10 [.op [1, 0] 4, .co [1, 1]] [(0, .int .i64 n_), (2, .int .i64 high), (10, .bool (decide (low ≤ n_)))] (by kernel_rfl) ?_
  rcases condT hf with ⟨hb2, hf⟩ | ⟨hb2, hf⟩
  · rw [hb2]
    have p2 := of_decide_eq_true hb2
    refine seg 6 [.co [1, 1]] [(6, .bool (decide (n_ ≤ high)))] (by kernel_rfl) ?_
    refine retR [6] [.bool (decide (n_ ≤ high))] (by kernel_rfl) (by kernel_rfl) (by kernel_rfl) ?_
    obtain rfl : (decide (n_ ≤ high)) = r := hf
    exact ⟨_, rfl, rfl, H.scalar⟩
  · rw [hb2]
    have p2 := of_decide_eq_false hb2
    refine seg 6 [.co [1, 1]] [(6, .bool false)] (by kernel_rfl) ?_
    refine retR [6] [.bool false] (by kernel_rfl) (by kernel_rfl) (by kernel_rfl) ?_
    have hret := hf
    subst hret
    exact ⟨_, rfl, rfl, H.scalar⟩
theorem ref15_Check_c {m : Mem} {w : World} (hm : Has m w) (n_ : TApiInode) (A0_9 : Option Addr) (c0_9 : Nat) (s0_9 : SlI rI64 m A0_9 c0_9 n_.Words) (l0_16 : n_.Target.length ≤ 9223372036854775807) {r : Int} (hf : ref15_Check n_ = some r) :
    Calls Try.prog 25 #[.agg #[.int .i64 n_.Kind, .int .i64 n_.Mode, .int .i64 n_.Uid, .int .i64 n_.Gid, .int .i64 n_.Time, .int .i64 n_.Links, .int .i64 n_.Attrs, .int .i64 n_.Size, .int .i64 n_.Start, .slice A0_9 n_.Words.length c0_9, .int .i64 n_.Frag, .int .i64 n_.Off, .int .i64 n_.Tail, .int .i64 n_.Dir, .int .i64 n_.Bytes, .int .i64 n_.Parent, .string ⟨n_.Target.toArray⟩, .int .i64 n_.Dev]] w fun e w' => ∃ v, e = .returned v ∧ v = .int .i64 r ∧ Ex w w' := by
  unfold ref15_Check at hf
  have H := St.start0 hm
  refine callsR Try.func25 (by kernel_rfl) (by kernel_rfl) ?_
  refine seg 2 [.op [0] 0, .co [1]] [(0, .agg #[.int .i64 n_.Kind, .int .i64 n_.Mode, .int .i64 n_.Uid, .int .i64 n_.Gid, .int .i64 n_.Time, .int .i64 n_.Links, .int .i64 n_.Attrs, .int .i64 n_.Size, .int .i64 n_.Start, .slice A0_9 n_.Words.length c0_9, .int .i64 n_.Frag, .int .i64 n_.Off, .int .i64 n_.Tail, .int .i64 n_.Dir, .int .i64 n_.Bytes, .int .i64 n_.Parent, .string ⟨n_.Target.toArray⟩, .int .i64 n_.Dev])] (by kernel_rfl) ?_
  refine st (newS (some 1) (fun g => .pointer (some ⟨g, 0, none⟩)) [.int .i64 n_.Kind, .int .i64 n_.Mode, .int .i64 n_.Uid, .int .i64 n_.Gid, .int .i64 n_.Time, .int .i64 n_.Links, .int .i64 n_.Attrs, .int .i64 n_.Size, .int .i64 n_.Start, .slice A0_9 n_.Words.length c0_9, .int .i64 n_.Frag, .int .i64 n_.Off, .int .i64 n_.Tail, .int .i64 n_.Dir, .int .i64 n_.Bytes, .int .i64 n_.Parent, .string ⟨n_.Target.toArray⟩, .int .i64 n_.Dev] 46 H (by kernel_rfl) ?_)
  intro g1 w1 H
  refine seg 6 [.op [1, 0, 0] 1, .co [1, 0, 1], .co [1, 1]] [(1, .pointer (some (⟨g1, 0, none⟩))), (5, .pointer (some (⟨g1, 0, none⟩)))] (by kernel_rfl) ?_
  refine st (ldR (some 6) 3 (⟨g1, 0, none⟩) (.int .i64 n_.Kind) (by kernel_rfl) (by kernel_rfl) (H.cellB 0 rfl rfl) ?_)
  refine st (callR (some 7) 55 #[.int .i64 n_.Kind, .int .i64 1, .int .i64 5] Try.call55 (ref15_in_c H.has n_.Kind 1 5) (by kernel_rfl) ?_)
  rintro _ w2 ⟨rfl, hx2⟩
  replace H := H.ex hx2
  refine seg 2 [.co [1, 0, 1], .co [1, 1]] [(1, .pointer (some (⟨g1, 0, none⟩))), (8, .bool (!(ref15_in n_.Kind 1 5)))] (by kernel_rfl) ?_
  rcases condT hf with ⟨hb4, hf⟩ | ⟨hb4, hf⟩
  · rw [hb4]
    refine seg 4 [.co [1, 1, 0, 0], .co [1, 1, 0, 1], .co [1, 1, 1]] [(1, .pointer (some (⟨g1, 0, none⟩)))] (by kernel_rfl) ?_
    obtain ⟨y260, hp260, hf⟩ := ltE hf
    refine joinR 0 (fun (x : Bool) => [(1, .pointer (some (⟨g1, 0, none⟩))), (42, .bool x)]) (fun (x : Bool) (wj260 : World) => y260 = x ∧ St w noF m m [blkI g1 [.int .i64 n_.Kind, .int .i64 n_.Mode, .int .i64 n_.Uid, .int .i64 n_.Gid, .int .i64 n_.Time, .int .i64 n_.Links, .int .i64 n_.Attrs, .int .i64 n_.Size, .int .i64 n_.Start, .slice A0_9 n_.Words.length c0_9, .int .i64 n_.Frag, .int .i64 n_.Off, .int .i64 n_.Tail, .int .i64 n_.Dir, .int .i64 n_.Bytes, .int .i64 n_.Parent, .string ⟨n_.Target.toArray⟩, .int .i64 n_.Dev] 46] wj260) (by kernel_rfl) ?_ ?_
    · refine seg 2 [.op [1, 1, 0, 0] 1, .le 0, .co [1, 1, 0, 1], .co [1, 1, 1]] [(1, .pointer (some (⟨g1, 0, none⟩))), (9, .pointer (some (⟨g1, 1, none⟩)))] (by kernel_rfl) ?_
      replace H : St w noF m m [blkI g1 [.int .i64 n_.Kind, .int .i64 n_.Mode, .int .i64 n_.Uid, .int .i64 n_.Gid, .int .i64 n_.Time, .int .i64 n_.Links, .int .i64 n_.Attrs, .int .i64 n_.Size, .int .i64 n_.Start, .slice A0_9 n_.Words.length c0_9, .int .i64 n_.Frag, .int .i64 n_.Off, .int .i64 n_.Tail, .int .i64 n_.Dir, .int .i64 n_.Bytes, .int .i64 n_.Parent, .string ⟨n_.Target.toArray⟩, .int .i64 n_.Dev] 46] w2 := H
      refine st (ldR (some 10) 3 (⟨g1, 1, none⟩) (.int .i64 n_.Mode) (by kernel_rfl) (by kernel_rfl) (H.cellB 0 rfl rfl) ?_)
      refine st (callR (some 11) 55 #[.int .i64 n_.Mode, .int .i64 0, .int .i64 4095] Try.call55 (ref15_in_c H.has n_.Mode 0 4095) (by kernel_rfl) ?_)
      rintro _ w262 ⟨rfl, hx262⟩
      replace H := H.ex hx262
      refine seg 2 [.op [1, 1, 0, 0] 5, .le 0, .co [1, 1, 0, 1], .co [1, 1, 1]] [(1, .pointer (some (⟨g1, 0, none⟩))), (13, .bool (!(ref15_in n_.Mode 0 4095)))] (by kernel_rfl) ?_
      rcases condT hp260 with ⟨hb263, hp260⟩ | ⟨hb263, hp260⟩
      · rw [hb263]
        refine seg 1 [.op [1, 1, 0, 0] 6, .le 0, .co [1, 1, 0, 1], .co [1, 1, 1]] [(1, .pointer (some (⟨g1, 0, none⟩))), (13, .bool false), (14, .pointer (some (⟨g1, 4, none⟩)))] (by kernel_rfl) ?_
        refine st (ldR (some 15) 3 (⟨g1, 4, none⟩) (.int .i64 n_.Time) (by kernel_rfl) (by kernel_rfl) (H.cellB 0 rfl rfl) ?_)
        refine st (callR (some 16) 55 #[.int .i64 n_.Time, .int .i64 0, .int .i64 4294967295] Try.call55 (ref15_in_c H.has n_.Time 0 4294967295) (by kernel_rfl) ?_)
        rintro _ w264 ⟨rfl, hx264⟩
        replace H := H.ex hx264
        refine seg 3 [.op [1, 1, 0, 0] 11, .le 0, .co [1, 1, 0, 1], .co [1, 1, 1]] [(1, .pointer (some (⟨g1, 0, none⟩))), (19, .bool (!(ref15_in n_.Time 0 4294967295)))] (by kernel_rfl) ?_
        rcases condT hp260 with ⟨hb265, hp260⟩ | ⟨hb265, hp260⟩
        · rw [hb265]
          refine seg 1 [.op [1, 1, 0, 0] 12, .le 0, .co [1, 1, 0, 1], .co [1, 1, 1]] [(1, .pointer (some (⟨g1, 0, none⟩))), (19, .bool false), (20, .pointer (some (⟨g1, 2, none⟩)))] (by kernel_rfl) ?_
          refine st (ldR (some 21) 3 (⟨g1, 2, none⟩) (.int .i64 n_.Uid) (by kernel_rfl) (by kernel_rfl) (H.cellB 0 rfl rfl) ?_)
          refine st (callR (some 22) 55 #[.int .i64 n_.Uid, .int .i64 0, .int .i64 65535] Try.call55 (ref15_in_c H.has n_.Uid 0 65535) (by kernel_rfl) ?_)
          rintro _ w266 ⟨rfl, hx266⟩
          replace H := H.ex hx266
          refine seg 3 [.op [1, 1, 0, 0] 17, .le 0, .co [1, 1, 0, 1], .co [1, 1, 1]] [(1, .pointer (some (⟨g1, 0, none⟩))), (25, .bool (!(ref15_in n_.Uid 0 65535)))] (by kernel_rfl) ?_
          rcases condT hp260 with ⟨hb267, hp260⟩ | ⟨hb267, hp260⟩
          · rw [hb267]
            refine seg 1 [.op [1, 1, 0, 0] 18, .le 0, .co [1, 1, 0, 1], .co [1, 1, 1]] [(1, .pointer (some (⟨g1, 0, none⟩))), (25, .bool false), (26, .pointer (some (⟨g1, 3, none⟩)))] (by kernel_rfl) ?_
            refine st (ldR (some 27) 3 (⟨g1, 3, none⟩) (.int .i64 n_.Gid) (by kernel_rfl) (by kernel_rfl) (H.cellB 0 rfl rfl) ?_)
            refine st (callR (some 28) 55 #[.int .i64 n_.Gid, .int .i64 0, .int .i64 65535] Try.call55 (ref15_in_c H.has n_.Gid 0 65535) (by kernel_rfl) ?_)
            rintro _ w268 ⟨rfl, hx268⟩
            replace H := H.ex hx268
            refine seg 3 [.op [1, 1, 0, 0] 23, .le 0, .co [1, 1, 0, 1], .co [1, 1, 1]] [(1, .pointer (some (⟨g1, 0, none⟩))), (31, .bool (!(ref15_in n_.Gid 0 65535)))] (by kernel_rfl) ?_
            rcases condT hp260 with ⟨hb269, hp260⟩ | ⟨hb269, hp260⟩
            · rw [hb269]
              refine seg 1 [.op [1, 1, 0, 0] 24, .le 0, .co [1, 1, 0, 1], .co [1, 1, 1]] [(1, .pointer (some (⟨g1, 0, none⟩))), (31, .bool false), (32, .pointer (some (⟨g1, 5, none⟩)))] (by kernel_rfl) ?_
              replace H : St w noF m m [blkI g1 [.int .i64 n_.Kind, .int .i64 n_.Mode, .int .i64 n_.Uid, .int .i64 n_.Gid, .int .i64 n_.Time, .int .i64 n_.Links, .int .i64 n_.Attrs, .int .i64 n_.Size, .int .i64 n_.Start, .slice A0_9 n_.Words.length c0_9, .int .i64 n_.Frag, .int .i64 n_.Off, .int .i64 n_.Tail, .int .i64 n_.Dir, .int .i64 n_.Bytes, .int .i64 n_.Parent, .string ⟨n_.Target.toArray⟩, .int .i64 n_.Dev] 46] w268 := H
              refine st (ldR (some 33) 3 (⟨g1, 5, none⟩) (.int .i64 n_.Links) (by kernel_rfl) (by kernel_rfl) (H.cellB 0 rfl rfl) ?_)
              refine st (callR (some 34) 55 #[.int .i64 n_.Links, .int .i64 1, .int .i64 4294967295] Try.call55 (ref15_in_c H.has n_.Links 1 4294967295) (by kernel_rfl) ?_)
              rintro _ w270 ⟨rfl, hx270⟩
              replace H := H.ex hx270
              refine seg 3 [.op [1, 1, 0, 0] 29, .le 0, .co [1, 1, 0, 1], .co [1, 1, 1]] [(1, .pointer (some (⟨g1, 0, none⟩))), (37, .bool (!(ref15_in n_.Links 1 4294967295)))] (by kernel_rfl) ?_
              rcases condT hp260 with ⟨hb271, hp260⟩ | ⟨hb271, hp260⟩
              · rw [hb271]
                refine seg 1 [.op [1, 1, 0, 0] 30, .le 0, .co [1, 1, 0, 1], .co [1, 1, 1]] [(1, .pointer (some (⟨g1, 0, none⟩))), (37, .bool false), (38, .pointer (some (⟨g1, 6, none⟩)))] (by kernel_rfl) ?_
                refine st (ldR (some 39) 3 (⟨g1, 6, none⟩) (.int .i64 n_.Attrs) (by kernel_rfl) (by kernel_rfl) (H.cellB 0 rfl rfl) ?_)
                refine st (callR (some 40) 55 #[.int .i64 n_.Attrs, .int .i64 (-1), .int .i64 16777216] Try.call55 (ref15_in_c H.has n_.Attrs (-1) 16777216) (by kernel_rfl) ?_)
                rintro _ w272 ⟨rfl, hx272⟩
                replace H := H.ex hx272
                refine seg 3 [.le 0, .co [1, 1, 0, 1], .co [1, 1, 1]] [(1, .pointer (some (⟨g1, 0, none⟩))), (42, .bool (!(ref15_in n_.Attrs (-1) 16777216)))] (by kernel_rfl) ?_
                refine leJ ((!(ref15_in n_.Attrs (-1) 16777216))) ⟨hp260.symm, H⟩ (by kernel_rfl)
              · rw [hb271]
                refine seg 6 [.le 0, .co [1, 1, 0, 1], .co [1, 1, 1]] [(1, .pointer (some (⟨g1, 0, none⟩))), (42, .bool true)] (by kernel_rfl) ?_
                refine leJ (true) ⟨hp260.symm, H⟩ (by kernel_rfl)
            · rw [hb269]
              refine seg 12 [.le 0, .co [1, 1, 0, 1], .co [1, 1, 1]] [(1, .pointer (some (⟨g1, 0, none⟩))), (42, .bool true)] (by kernel_rfl) ?_
              refine leJ (true) ⟨hp260.symm, H⟩ (by kernel_rfl)
          · rw [hb267]
            refine seg 18 [.le 0, .co [1, 1, 0, 1], .co [1, 1, 1]] [(1, .pointer (some (⟨g1, 0, none⟩))), (42, .bool true)] (by kernel_rfl) ?_
            refine leJ (true) ⟨hp260.symm, H⟩ (by kernel_rfl)
        · rw [hb265]
          refine seg 24 [.le 0, .co [1, 1, 0, 1], .co [1, 1, 1]] [(1, .pointer (some (⟨g1, 0, none⟩))), (42, .bool true)] (by kernel_rfl) ?_
          refine leJ (true) ⟨hp260.symm, H⟩ (by kernel_rfl)
      · rw [hb263]
        refine seg 30 [.le 0, .co [1, 1, 0, 1], .co [1, 1, 1]] [(1, .pointer (some (⟨g1, 0, none⟩))), (42, .bool true)] (by kernel_rfl) ?_
        refine leJ (true) ⟨hp260.symm, H⟩ (by kernel_rfl)
    rintro t wj260 ⟨hy260, H⟩
    rw [hy260] at hf
    rcases condT hf with ⟨hb273, hf⟩ | ⟨hb273, hf⟩
    · rw [hb273]
      refine seg 5 [.co [1, 1, 0, 1, 0, 1], .co [1, 1, 1]] [(2, .int .i64 1)] (by kernel_rfl) ?_
      refine retR [2] [.int .i64 1] (by kernel_rfl) (by kernel_rfl) (by kernel_rfl) ?_
      obtain rfl : 1 = r := (Option.some.inj hf)
      exact ⟨_, rfl, rfl, H.scalar⟩
    · rw [hb273]
      refine seg 6 [.op [1, 1, 1, 0, 0] 1, .co [1, 1, 1, 0, 1], .co [1, 1, 1, 1]] [(1, .pointer (some (⟨g1, 0, none⟩))), (43, .pointer (some (⟨g1, 0, none⟩)))] (by kernel_rfl) ?_
      refine st (ldR (some 44) 3 (⟨g1, 0, none⟩) (.int .i64 n_.Kind) (by kernel_rfl) (by kernel_rfl) (H.cellB 0 rfl rfl) ?_)
      refine seg 2 [.co [1, 1, 1, 0, 1], .co [1, 1, 1, 1]] [(1, .pointer (some (⟨g1, 0, none⟩))), (45, .bool (n_.Kind == 1))] (by kernel_rfl) ?_
      obtain ⟨y316, hp316, hfl316, hfr316⟩ := bndE hf
      refine joinR 0 (fun (x : Unit) => [(1, .pointer (some (⟨g1, 0, none⟩)))]) (fun (x : Unit) (wj316 : World) => y316 = .inl () ∧ St w noF m m [blkI g1 [.int .i64 n_.Kind, .int .i64 n_.Mode, .int .i64 n_.Uid, .int .i64 n_.Gid, .int .i64 n_.Time, .int .i64 n_.Links, .int .i64 n_.Attrs, .int .i64 n_.Size, .int .i64 n_.Start, .slice A0_9 n_.Words.length c0_9, .int .i64 n_.Frag, .int .i64 n_.Off, .int .i64 n_.Tail, .int .i64 n_.Dir, .int .i64 n_.Bytes, .int .i64 n_.Parent, .string ⟨n_.Target.toArray⟩, .int .i64 n_.Dev] 46] wj316) (by kernel_rfl) ?_ ?_
      · rcases condT hp316 with ⟨hb318, hp316⟩ | ⟨hb318, hp316⟩
        · rw [hb318]
          refine seg 3 [.co [1, 1, 1, 0, 1, 0, 0, 0], .co [1, 1, 1, 0, 1, 0, 0, 1], .co [1, 1, 1, 0, 1, 0, 1], .le 0, .co [1, 1, 1, 1]] [(1, .pointer (some (⟨g1, 0, none⟩)))] (by kernel_rfl) ?_
          obtain ⟨y333, hp333, hp316⟩ := ltE hp316
          refine joinR 1 (fun (x : Bool) => [(1, .pointer (some (⟨g1, 0, none⟩))), (104, .bool x)]) (fun (x : Bool) (wj333 : World) => y333 = x ∧ St w noF m m [blkI g1 [.int .i64 n_.Kind, .int .i64 n_.Mode, .int .i64 n_.Uid, .int .i64 n_.Gid, .int .i64 n_.Time, .int .i64 n_.Links, .int .i64 n_.Attrs, .int .i64 n_.Size, .int .i64 n_.Start, .slice A0_9 n_.Words.length c0_9, .int .i64 n_.Frag, .int .i64 n_.Off, .int .i64 n_.Tail, .int .i64 n_.Dir, .int .i64 n_.Bytes, .int .i64 n_.Parent, .string ⟨n_.Target.toArray⟩, .int .i64 n_.Dev] 46] wj333) (by kernel_rfl) ?_ ?_
          · refine seg 2 [.op [1, 1, 1, 0, 1, 0, 0, 0] 1, .le 1, .co [1, 1, 1, 0, 1, 0, 0, 1], .co [1, 1, 1, 0, 1, 0, 1], .le 0, .co [1, 1, 1, 1]] [(1, .pointer (some (⟨g1, 0, none⟩))), (46, .pointer (some (⟨g1, 7, none⟩)))] (by kernel_rfl) ?_
            refine st (ldR (some 47) 3 (⟨g1, 7, none⟩) (.int .i64 n_.Size) (by kernel_rfl) (by kernel_rfl) (H.cellB 0 rfl rfl) ?_)
            refine st (callR (some 48) 55 #[.int .i64 n_.Size, .int .i64 0, .int .i64 1099511627775] Try.call55 (ref15_in_c H.has n_.Size 0 1099511627775) (by kernel_rfl) ?_)
            rintro _ w335 ⟨rfl, hx335⟩
            replace H := H.ex hx335
            refine seg 2 [.op [1, 1, 1, 0, 1, 0, 0, 0] 5, .le 1, .co [1, 1, 1, 0, 1, 0, 0, 1], .co [1, 1, 1, 0, 1, 0, 1], .le 0, .co [1, 1, 1, 1]] [(1, .pointer (some (⟨g1, 0, none⟩))), (50, .bool (!(ref15_in n_.Size 0 1099511627775)))] (by kernel_rfl) ?_
            rcases condT hp333 with ⟨hb336, hp333⟩ | ⟨hb336, hp333⟩
            · rw [hb336]
              refine seg 1 [.op [1, 1, 1, 0, 1, 0, 0, 0] 6, .le 1, .co [1, 1, 1, 0, 1, 0, 0, 1], .co [1, 1, 1, 0, 1, 0, 1], .le 0, .co [1, 1, 1, 1]] [(1, .pointer (some (⟨g1, 0, none⟩))), (50, .bool false), (51, .pointer (some (⟨g1, 8, none⟩)))] (by kernel_rfl) ?_
              replace H : St w noF m m [blkI g1 [.int .i64 n_.Kind, .int .i64 n_.Mode, .int .i64 n_.Uid, .int .i64 n_.Gid, .int .i64 n_.Time, .int .i64 n_.Links, .int .i64 n_.Attrs, .int .i64 n_.Size, .int .i64 n_.Start, .slice A0_9 n_.Words.length c0_9, .int .i64 n_.Frag, .int .i64 n_.Off, .int .i64 n_.Tail, .int .i64 n_.Dir, .int .i64 n_.Bytes, .int .i64 n_.Parent, .string ⟨n_.Target.toArray⟩, .int .i64 n_.Dev] 46] w335 := H
              refine st (ldR (some 52) 3 (⟨g1, 8, none⟩) (.int .i64 n_.Start) (by kernel_rfl) (by kernel_rfl) (H.cellB 0 rfl rfl) ?_)
              refine st (callR (some 53) 55 #[.int .i64 n_.Start, .int .i64 0, .int .i64 8388608] Try.call55 (ref15_in_c H.has n_.Start 0 8388608) (by kernel_rfl) ?_)
              rintro _ w337 ⟨rfl, hx337⟩
              replace H := H.ex hx337
              refine seg 3 [.op [1, 1, 1, 0, 1, 0, 0, 0] 11, .le 1, .co [1, 1, 1, 0, 1, 0, 0, 1], .co [1, 1, 1, 0, 1, 0, 1], .le 0, .co [1, 1, 1, 1]] [(1, .pointer (some (⟨g1, 0, none⟩))), (56, .bool (!(ref15_in n_.Start 0 8388608)))] (by kernel_rfl) ?_
              rcases condT hp333 with ⟨hb338, hp333⟩ | ⟨hb338, hp333⟩
              · rw [hb338]
                refine seg 1 [.op [1, 1, 1, 0, 1, 0, 0, 0] 12, .le 1, .co [1, 1, 1, 0, 1, 0, 0, 1], .co [1, 1, 1, 0, 1, 0, 1], .le 0, .co [1, 1, 1, 1]] [(1, .pointer (some (⟨g1, 0, none⟩))), (56, .bool false), (57, .pointer (some (⟨g1, 9, none⟩)))] (by kernel_rfl) ?_
                refine st (ldR (some 58) 44 (⟨g1, 9, none⟩) (.slice A0_9 n_.Words.length c0_9) (by kernel_rfl) (by kernel_rfl) (H.cellB 0 rfl rfl) ?_)
                refine seg 4 [.op [1, 1, 1, 0, 1, 0, 0, 0] 17, .le 1, .co [1, 1, 1, 0, 1, 0, 0, 1], .co [1, 1, 1, 0, 1, 0, 1], .le 0, .co [1, 1, 1, 1]] [(1, .pointer (some (⟨g1, 0, none⟩))), (62, .bool (decide ((n_.Words.length : Int) > 65536)))] (by kernel_rfl) ?_
                rcases condT hp333 with ⟨hb339, hp333⟩ | ⟨hb339, hp333⟩
                · rw [hb339]
                  have p339 := of_decide_eq_true hb339
                  refine seg 43 [.le 1, .co [1, 1, 1, 0, 1, 0, 0, 1], .co [1, 1, 1, 0, 1, 0, 1], .le 0, .co [1, 1, 1, 1]] [(1, .pointer (some (⟨g1, 0, none⟩))), (104, .bool true)] (by kernel_rfl) ?_
                  refine leJ (true) ⟨hp333.symm, H⟩ (by kernel_rfl)
                · rw [hb339]
                  have p339 := of_decide_eq_false hb339
                  refine seg 1 [.op [1, 1, 1, 0, 1, 0, 0, 0] 18, .le 1, .co [1, 1, 1, 0, 1, 0, 0, 1], .co [1, 1, 1, 0, 1, 0, 1], .le 0, .co [1, 1, 1, 1]] [(1, .pointer (some (⟨g1, 0, none⟩))), (62, .bool false), (63, .pointer (some (⟨g1, 10, none⟩)))] (by kernel_rfl) ?_
                  refine st (ldR (some 64) 3 (⟨g1, 10, none⟩) (.int .i64 n_.Frag) (by kernel_rfl) (by kernel_rfl) (H.cellB 0 rfl rfl) ?_)
                  refine st (callR (some 65) 55 #[.int .i64 n_.Frag, .int .i64 (-1), .int .i64 65535] Try.call55 (ref15_in_c H.has n_.Frag (-1) 65535) (by kernel_rfl) ?_)
                  rintro _ w340 ⟨rfl, hx340⟩
                  replace H := H.ex hx340
                  refine seg 3 [.op [1, 1, 1, 0, 1, 0, 0, 0] 23, .le 1, .co [1, 1, 1, 0, 1, 0, 0, 1], .co [1, 1, 1, 0, 1, 0, 1], .le 0, .co [1, 1, 1, 1]] [(1, .pointer (some (⟨g1, 0, none⟩))), (68, .bool (!(ref15_in n_.Frag (-1) 65535)))] (by kernel_rfl) ?_
                  rcases condT hp333 with ⟨hb341, hp333⟩ | ⟨hb341, hp333⟩
                  · rw [hb341]
                    refine seg 1 [.op [1, 1, 1, 0, 1, 0, 0, 0] 24, .le 1, .co [1, 1, 1, 0, 1, 0, 0, 1], .co [1, 1, 1, 0, 1, 0, 1], .le 0, .co [1, 1, 1, 1]] [(1, .pointer (some (⟨g1, 0, none⟩))), (68, .bool false), (69, .pointer (some (⟨g1, 11, none⟩)))] (by kernel_rfl) ?_
                    refine st (ldR (some 70) 3 (⟨g1, 11, none⟩) (.int .i64 n_.Off) (by kernel_rfl) (by kernel_rfl) (H.cellB 0 rfl rfl) ?_)
                    refine st (callR (some 71) 55 #[.int .i64 n_.Off, .int .i64 0, .int .i64 1048575] Try.call55 (ref15_in_c H.has n_.Off 0 1048575) (by kernel_rfl) ?_)
                    rintro _ w342 ⟨rfl, hx342⟩
                    replace H := H.ex hx342
                    refine seg 3 [.op [1, 1, 1, 0, 1, 0, 0, 0] 29, .le 1, .co [1, 1, 1, 0, 1, 0, 0, 1], .co [1, 1, 1, 0, 1, 0, 1], .le 0, .co [1, 1, 1, 1]] [(1, .pointer (some (⟨g1, 0, none⟩))), (74, .bool (!(ref15_in n_.Off 0 1048575)))] (by kernel_rfl) ?_
                    rcases condT hp333 with ⟨hb343, hp333⟩ | ⟨hb343, hp333⟩
                    · rw [hb343]
                      refine seg 1 [.op [1, 1, 1, 0, 1, 0, 0, 0] 30, .le 1, .co [1, 1, 1, 0, 1, 0, 0, 1], .co [1, 1, 1, 0, 1, 0, 1], .le 0, .co [1, 1, 1, 1]] [(1, .pointer (some (⟨g1, 0, none⟩))), (74, .bool false), (75, .pointer (some (⟨g1, 12, none⟩)))] (by kernel_rfl) ?_
                      refine st (ldR (some 76) 3 (⟨g1, 12, none⟩) (.int .i64 n_.Tail) (by kernel_rfl) (by kernel_rfl) (H.cellB 0 rfl rfl) ?_)
                      refine st (callR (some 77) 55 #[.int .i64 n_.Tail, .int .i64 0, .int .i64 1048575] Try.call55 (ref15_in_c H.has n_.Tail 0 1048575) (by kernel_rfl) ?_)
                      rintro _ w344 ⟨rfl, hx344⟩
                      replace H := H.ex hx344
                      refine seg 3 [.op [1, 1, 1, 0, 1, 0, 0, 0] 35, .le 1, .co [1, 1, 1, 0, 1, 0, 0, 1], .co [1, 1, 1, 0, 1, 0, 1], .le 0, .co [1, 1, 1, 1]] [(1, .pointer (some (⟨g1, 0, none⟩))), (80, .bool (!(ref15_in n_.Tail 0 1048575)))] (by kernel_rfl) ?_
                      rcases condT hp333 with ⟨hb345, hp333⟩ | ⟨hb345, hp333⟩
                      · rw [hb345]
                        refine seg 1 [.op [1, 1, 1, 0, 1, 0, 0, 0] 36, .le 1, .co [1, 1, 1, 0, 1, 0, 0, 1], .co [1, 1, 1, 0, 1, 0, 1], .le 0, .co [1, 1, 1, 1]] [(1, .pointer (some (⟨g1, 0, none⟩))), (80, .bool false), (81, .pointer (some (⟨g1, 10, none⟩)))] (by kernel_rfl) ?_
                        replace H : St w noF m m [blkI g1 [.int .i64 n_.Kind, .int .i64 n_.Mode, .int .i64 n_.Uid, .int .i64 n_.Gid, .int .i64 n_.Time, .int .i64 n_.Links, .int .i64 n_.Attrs, .int .i64 n_.Size, .int .i64 n_.Start, .slice A0_9 n_.Words.length c0_9, .int .i64 n_.Frag, .int .i64 n_.Off, .int .i64 n_.Tail, .int .i64 n_.Dir, .int .i64 n_.Bytes, .int .i64 n_.Parent, .string ⟨n_.Target.toArray⟩, .int .i64 n_.Dev] 46] w344 := H
                        refine st (ldR (some 82) 3 (⟨g1, 10, none⟩) (.int .i64 n_.Frag) (by kernel_rfl) (by kernel_rfl) (H.cellB 0 rfl rfl) ?_)
                        refine seg 2 [.op [1, 1, 1, 0, 1, 0, 0, 0] 39, .le 1, .co [1, 1, 1, 0, 1, 0, 0, 1], .co [1, 1, 1, 0, 1, 0, 1], .le 0, .co [1, 1, 1, 1]] [(1, .pointer (some (⟨g1, 0, none⟩))), (80, .bool false), (84, .bool (n_.Frag == (-1)))] (by kernel_rfl) ?_
                        rcases condT hp333 with ⟨hb346, hp333⟩ | ⟨hb346, hp333⟩
                        · rw [hb346]
                          refine seg 1 [.op [1, 1, 1, 0, 1, 0, 0, 0] 40, .le 1, .co [1, 1, 1, 0, 1, 0, 0, 1], .co [1, 1, 1, 0, 1, 0, 1], .le 0, .co [1, 1, 1, 1]] [(1, .pointer (some (⟨g1, 0, none⟩))), (80, .bool false), (84, .bool true), (85, .pointer (some (⟨g1, 11, none⟩)))] (by kernel_rfl) ?_
                          refine st (ldR (some 86) 3 (⟨g1, 11, none⟩) (.int .i64 n_.Off) (by kernel_rfl) (by kernel_rfl) (H.cellB 0 rfl rfl) ?_)
                          refine seg 2 [.op [1, 1, 1, 0, 1, 0, 0, 0] 43, .le 1, .co [1, 1, 1, 0, 1, 0, 0, 1], .co [1, 1, 1, 0, 1, 0, 1], .le 0, .co [1, 1, 1, 1]] [(1, .pointer (some (⟨g1, 0, none⟩))), (80, .bool false), (84, .bool true), (88, .bool (n_.Off != 0))] (by kernel_rfl) ?_
                          rcases condT hp333 with ⟨hb347, hp333⟩ | ⟨hb347, hp333⟩
                          · rw [hb347]
                            refine seg 17 [.le 1, .co [1, 1, 1, 0, 1, 0, 0, 1], .co [1, 1, 1, 0, 1, 0, 1], .le 0, .co [1, 1, 1, 1]] [(1, .pointer (some (⟨g1, 0, none⟩))), (104, .bool true)] (by kernel_rfl) ?_
                            refine leJ (true) ⟨hp333.symm, H⟩ (by kernel_rfl)
                          · rw [hb347]
                            refine seg 1 [.op [1, 1, 1, 0, 1, 0, 0, 0] 44, .le 1, .co [1, 1, 1, 0, 1, 0, 0, 1], .co [1, 1, 1, 0, 1, 0, 1], .le 0, .co [1, 1, 1, 1]] [(1, .pointer (some (⟨g1, 0, none⟩))), (80, .bool false), (84, .bool true), (88, .bool false), (89, .pointer (some (⟨g1, 12, none⟩)))] (by kernel_rfl) ?_
                            refine st (ldR (some 90) 3 (⟨g1, 12, none⟩) (.int .i64 n_.Tail) (by kernel_rfl) (by kernel_rfl) (H.cellB 0 rfl rfl) ?_)
                            refine seg 5 [.op [1, 1, 1, 0, 1, 0, 0, 0] 50, .le 1, .co [1, 1, 1, 0, 1, 0, 0, 1], .co [1, 1, 1, 0, 1, 0, 1], .le 0, .co [1, 1, 1, 1]] [(1, .pointer (some (⟨g1, 0, none⟩))), (95, .bool (n_.Tail != 0))] (by kernel_rfl) ?_
                            rcases condT hp333 with ⟨hb348, hp333⟩ | ⟨hb348, hp333⟩
                            · rw [hb348]
                              refine seg 10 [.le 1, .co [1, 1, 1, 0, 1, 0, 0, 1], .co [1, 1, 1, 0, 1, 0, 1], .le 0, .co [1, 1, 1, 1]] [(1, .pointer (some (⟨g1, 0, none⟩))), (104, .bool true)] (by kernel_rfl) ?_
                              refine leJ (true) ⟨hp333.symm, H⟩ (by kernel_rfl)
                            · rw [hb348]
                              refine seg 1 [.op [1, 1, 1, 0, 1, 0, 0, 0] 51, .le 1, .co [1, 1, 1, 0, 1, 0, 0, 1], .co [1, 1, 1, 0, 1, 0, 1], .le 0, .co [1, 1, 1, 1]] [(1, .pointer (some (⟨g1, 0, none⟩))), (95, .bool false), (96, .pointer (some (⟨g1, 10, none⟩)))] (by kernel_rfl) ?_
                              refine st (ldR (some 97) 3 (⟨g1, 10, none⟩) (.int .i64 n_.Frag) (by kernel_rfl) (by kernel_rfl) (H.cellB 0 rfl rfl) ?_)
                              refine seg 2 [.op [1, 1, 1, 0, 1, 0, 0, 0] 54, .le 1, .co [1, 1, 1, 0, 1, 0, 0, 1], .co [1, 1, 1, 0, 1, 0, 1], .le 0, .co [1, 1, 1, 1]] [(1, .pointer (some (⟨g1, 0, none⟩))), (95, .bool false), (99, .bool (n_.Frag != (-1)))] (by kernel_rfl) ?_
                              rw [show (n_.Frag != (-1)) = false from beq_bne hb346]
                              refine seg 6 [.le 1, .co [1, 1, 1, 0, 1, 0, 0, 1], .co [1, 1, 1, 0, 1, 0, 1], .le 0, .co [1, 1, 1, 1]] [(1, .pointer (some (⟨g1, 0, none⟩))), (104, .bool false)] (by kernel_rfl) ?_
                              refine leJ (false) ⟨hp333.symm, H⟩ (by kernel_rfl)
                        · rw [hb346]
                          refine seg 12 [.op [1, 1, 1, 0, 1, 0, 0, 0] 51, .le 1, .co [1, 1, 1, 0, 1, 0, 0, 1], .co [1, 1, 1, 0, 1, 0, 1], .le 0, .co [1, 1, 1, 1]] [(1, .pointer (some (⟨g1, 0, none⟩))), (95, .bool false), (96, .pointer (some (⟨g1, 10, none⟩)))] (by kernel_rfl) ?_
                          refine st (ldR (some 97) 3 (⟨g1, 10, none⟩) (.int .i64 n_.Frag) (by kernel_rfl) (by kernel_rfl) (H.cellB 0 rfl rfl) ?_)
                          refine seg 2 [.op [1, 1, 1, 0, 1, 0, 0, 0] 54, .le 1, .co [1, 1, 1, 0, 1, 0, 0, 1], .co [1, 1, 1, 0, 1, 0, 1], .le 0, .co [1, 1, 1, 1]] [(1, .pointer (some (⟨g1, 0, none⟩))), (95, .bool false), (99, .bool (n_.Frag != (-1)))] (by kernel_rfl) ?_
                          rw [show (n_.Frag != (-1)) = true from beq_bne hb346]
                          refine seg 1 [.op [1, 1, 1, 0, 1, 0, 0, 0] 55, .le 1, .co [1, 1, 1, 0, 1, 0, 0, 1], .co [1, 1, 1, 0, 1, 0, 1], .le 0, .co [1, 1, 1, 1]] [(1, .pointer (some (⟨g1, 0, none⟩))), (95, .bool false), (99, .bool true), (100, .pointer (some (⟨g1, 12, none⟩)))] (by kernel_rfl) ?_
                          refine st (ldR (some 101) 3 (⟨g1, 12, none⟩) (.int .i64 n_.Tail) (by kernel_rfl) (by kernel_rfl) (H.cellB 0 rfl rfl) ?_)
                          refine seg 4 [.le 1, .co [1, 1, 1, 0, 1, 0, 0, 1], .co [1, 1, 1, 0, 1, 0, 1], .le 0, .co [1, 1, 1, 1]] [(1, .pointer (some (⟨g1, 0, none⟩))), (104, .bool (n_.Tail == 0))] (by kernel_rfl) ?_
                          refine leJ ((n_.Tail == 0)) ⟨hp333.symm, H⟩ (by kernel_rfl)
                      · rw [hb345]
                        refine seg 25 [.le 1, .co [1, 1, 1, 0, 1, 0, 0, 1], .co [1, 1, 1, 0, 1, 0, 1], .le 0, .co [1, 1, 1, 1]] [(1, .pointer (some (⟨g1, 0, none⟩))), (104, .bool true)] (by kernel_rfl) ?_
                        refine leJ (true) ⟨hp333.symm, H⟩ (by kernel_rfl)
                    · rw [hb343]
                      refine seg 31 [.le 1, .co [1, 1, 1, 0, 1, 0, 0, 1], .co [1, 1, 1, 0, 1, 0, 1], .le 0, .co [1, 1, 1, 1]] [(1, .pointer (some (⟨g1, 0, none⟩))), (104, .bool true)] (by kernel_rfl) ?_
                      refine leJ (true) ⟨hp333.symm, H⟩ (by kernel_rfl)
                  · rw [hb341]
                    refine seg 37 [.le 1, .co [1, 1, 1, 0, 1, 0, 0, 1], .co [1, 1, 1, 0, 1, 0, 1], .le 0, .co [1, 1, 1, 1]] [(1, .pointer (some (⟨g1, 0, none⟩))), (104, .bool true)] (by kernel_rfl) ?_
                    refine leJ (true) ⟨hp333.symm, H⟩ (by kernel_rfl)
              · rw [hb338]
                refine seg 49 [.le 1, .co [1, 1, 1, 0, 1, 0, 0, 1], .co [1, 1, 1, 0, 1, 0, 1], .le 0, .co [1, 1, 1, 1]] [(1, .pointer (some (⟨g1, 0, none⟩))), (104, .bool true)] (by kernel_rfl) ?_
                refine leJ (true) ⟨hp333.symm, H⟩ (by kernel_rfl)
            · rw [hb336]
              refine seg 55 [.le 1, .co [1, 1, 1, 0, 1, 0, 0, 1], .co [1, 1, 1, 0, 1, 0, 1], .le 0, .co [1, 1, 1, 1]] [(1, .pointer (some (⟨g1, 0, none⟩))), (104, .bool true)] (by kernel_rfl) ?_
              refine leJ (true) ⟨hp333.symm, H⟩ (by kernel_rfl)
          rintro t1 wj333 ⟨hy333, H⟩
          rw [hy333] at hp316
          rcases condT hp316 with ⟨hb349, hp316⟩ | ⟨hb349, hp316⟩
          · rw [hb349]
            refine seg 5 [.co [1, 1, 1, 0, 1, 0, 0, 1, 0, 1], .co [1, 1, 1, 0, 1, 0, 1], .le 0, .co [1, 1, 1, 1]] [(2, .int .i64 1)] (by kernel_rfl) ?_
            refine retR [2] [.int .i64 1] (by kernel_rfl) (by kernel_rfl) (by kernel_rfl) ?_
            obtain rfl : 1 = r := (hfr316 _ (Option.some.inj hp316).symm)
            exact ⟨_, rfl, rfl, H.scalar⟩
          · rw [hb349]
            refine seg 6 [.co [1, 1, 1, 0, 1, 0, 1, 1], .le 0, .co [1, 1, 1, 1]] [(1, .pointer (some (⟨g1, 0, none⟩))), (3, .int .i64 0)] (by kernel_rfl) ?_
            obtain ⟨y368, hp368, hfl368, hfr368⟩ := bndE hp316
            refine joinR 1 (fun (x : Unit) => [(1, .pointer (some (⟨g1, 0, none⟩)))]) (fun (x : Unit) (wj368 : World) => y368 = .inl () ∧ St w noF m m [blkI g1 [.int .i64 n_.Kind, .int .i64 n_.Mode, .int .i64 n_.Uid, .int .i64 n_.Gid, .int .i64 n_.Time, .int .i64 n_.Links, .int .i64 n_.Attrs, .int .i64 n_.Size, .int .i64 n_.Start, .slice A0_9 n_.Words.length c0_9, .int .i64 n_.Frag, .int .i64 n_.Off, .int .i64 n_.Tail, .int .i64 n_.Dir, .int .i64 n_.Bytes, .int .i64 n_.Parent, .string ⟨n_.Target.toArray⟩, .int .i64 n_.Dev] 46] wj368) (by kernel_rfl) ?_ ?_
            · refine seg 1 [.co [1, 1, 1, 0, 1, 0, 1, 1, 0], .bl 0, .le 1, .le 0, .co [1, 1, 1, 1]] [(1, .pointer (some (⟨g1, 0, none⟩))), (3, .int .i64 0)] (by kernel_rfl) ?_
              obtain ⟨nn382, hR382⟩ := loopO_iff.1 hp368
              refine loopR 2 (fun (x : Nat × Nat) => [(1, .pointer (some (⟨g1, 0, none⟩))), (3, .int .i64 (x.2 : Int))]) (fun (x : Nat × Nat) (wl382 : World) => iter (fun s => ref15_Check_l1 n_ s) x.1 x.2 = some y368 ∧ St w noF m m [blkI g1 [.int .i64 n_.Kind, .int .i64 n_.Mode, .int .i64 n_.Uid, .int .i64 n_.Gid, .int .i64 n_.Time, .int .i64 n_.Links, .int .i64 n_.Attrs, .int .i64 n_.Size, .int .i64 n_.Start, .slice A0_9 n_.Words.length c0_9, .int .i64 n_.Frag, .int .i64 n_.Off, .int .i64 n_.Tail, .int .i64 n_.Dir, .int .i64 n_.Bytes, .int .i64 n_.Parent, .string ⟨n_.Target.toArray⟩, .int .i64 n_.Dev] 46] wl382) (fun (x : Nat × Nat) => x.1) (nn382, 0) (by kernel_rfl) (by kernel_rfl) (by kernel_rfl) ?_ ?_
              · exact ⟨hR382, H⟩
              rintro ⟨n382, i⟩ wl382 ⟨hR382, H⟩
              try dsimp only at hR382
              try dsimp only at H
              obtain ⟨nk382, q382, rfl, hb_382, hnx382, hfin382⟩ := iterE hR382
              replace hb_382 : ref15_Check_l1 n_ i = some q382 := hb_382
              unfold ref15_Check_l1 at hb_382
              refine seg 5 [.op [1, 1, 1, 0, 1, 0, 1, 1, 0, 0, 0, 0] 2, .co [1, 1, 1, 0, 1, 0, 1, 1, 0, 0, 0, 1], .co [1, 1, 1, 0, 1, 0, 1, 1, 0, 0, 1], .le 2, .bl 0, .le 1, .le 0, .co [1, 1, 1, 1]] [(1, .pointer (some (⟨g1, 0, none⟩))), (3, .int .i64 (i : Int)), (105, .int .i64 (i : Int)), (106, .pointer (some (⟨g1, 9, none⟩)))] (by kernel_rfl) ?_
              refine st (ldR (some 107) 44 (⟨g1, 9, none⟩) (.slice A0_9 n_.Words.length c0_9) (by kernel_rfl) (by kernel_rfl) (H.cellB 0 rfl rfl) ?_)
              refine seg 3 [.co [1, 1, 1, 0, 1, 0, 1, 1, 0, 0, 0, 1], .co [1, 1, 1, 0, 1, 0, 1, 1, 0, 0, 1], .le 2, .bl 0, .le 1, .le 0, .co [1, 1, 1, 1]] [(1, .pointer (some (⟨g1, 0, none⟩))), (3, .int .i64 (i : Int)), (109, .bool (decide ((i : Int) < (n_.Words.length : Int))))] (by kernel_rfl) ?_
              rcases condT hb_382 with ⟨hb384, hb_382⟩ | ⟨hb384, hb_382⟩
              · rw [hb384]
                have p384 := of_decide_eq_true hb384
                refine seg 7 [.op [1, 1, 1, 0, 1, 0, 1, 1, 0, 0, 1, 0, 0, 0] 1, .co [1, 1, 1, 0, 1, 0, 1, 1, 0, 0, 1, 0, 0, 1], .bl 1, .co [1, 1, 1, 0, 1, 0, 1, 1, 0, 0, 1, 1], .le 2, .bl 0, .le 1, .le 0, .co [1, 1, 1, 1]] [(1, .pointer (some (⟨g1, 0, none⟩))), (3, .int .i64 (i : Int)), (112, .pointer (some (⟨g1, 9, none⟩)))] (by kernel_rfl) ?_
                refine st (ldR (some 113) 44 (⟨g1, 9, none⟩) (.slice A0_9 n_.Words.length c0_9) (by kernel_rfl) (by kernel_rfl) (H.cellB 0 rfl rfl) ?_)
                refine seg 1 [.op [1, 1, 1, 0, 1, 0, 1, 1, 0, 0, 1, 0, 0, 0] 3, .co [1, 1, 1, 0, 1, 0, 1, 1, 0, 0, 1, 0, 0, 1], .bl 1, .co [1, 1, 1, 0, 1, 0, 1, 1, 0, 0, 1, 1], .le 2, .bl 0, .le 1, .le 0, .co [1, 1, 1, 1]] [(1, .pointer (some (⟨g1, 0, none⟩))), (3, .int .i64 (i : Int)), (113, .slice A0_9 n_.Words.length c0_9), (114, .int .i64 (i : Int))] (by kernel_rfl) ?_
                obtain ⟨x_, h_x_, hb_382⟩ := bindE hb_382
                obtain ⟨ad386, _, ea386, rfl, hc386⟩ := s0_9.at_ h_x_ (by decide)
                refine st (idxS (some 115) 44 3 1 A0_9 ad386 n_.Words.length c0_9 .i64 (i : Int) ea386 (by kernel_rfl) (by kernel_rfl) (by omega) (by have := (List.getElem?_eq_some_iff.1 h_x_).1; omega) ?_)
                refine st (ldR (some 116) 3 (ad386.add (i * 1)) (.int .i64 x_) (by kernel_rfl) (by kernel_rfl) (H.cellI (mc0 (hc386 0 _ rfl))) ?_)
                refine st (callR (some 117) 55 #[.int .i64 x_, .int .i64 0, .int .i64 4294967295] Try.call55 (ref15_in_c H.has x_ 0 4294967295) (by kernel_rfl) ?_)
                rintro _ w387 ⟨rfl, hx387⟩
                replace H := H.ex hx387
                refine seg 2 [.co [1, 1, 1, 0, 1, 0, 1, 1, 0, 0, 1, 0, 0, 1], .bl 1, .co [1, 1, 1, 0, 1, 0, 1, 1, 0, 0, 1, 1], .le 2, .bl 0, .le 1, .le 0, .co [1, 1, 1, 1]] [(1, .pointer (some (⟨g1, 0, none⟩))), (3, .int .i64 (i : Int)), (118, .bool (!(ref15_in x_ 0 4294967295)))] (by kernel_rfl) ?_
                rcases condT hb_382 with ⟨hb388, hb_382⟩ | ⟨hb388, hb_382⟩
                · rw [hb388]
                  refine seg 8 [.le 2, .bl 0, .le 1, .le 0, .co [1, 1, 1, 1]] [(1, .pointer (some (⟨g1, 0, none⟩))), (3, .int .i64 (IntKind.i64.wrap ((i : Int) + 1)))] (by kernel_rfl) ?_
                  have := s0_9.bound
                  rw [show IntKind.i64.wrap ((i : Int) + 1) = ((i : Int) + 1) from w64 (by omega)]
                  refine leR (nk382, (i + 1)) (Nat.lt_succ_self _) ⟨hnx382 _ (Option.some.inj hb_382).symm, H⟩ (by kernel_rfl)
                · rw [hb388]
                  refine seg 5 [.co [1, 1, 1, 0, 1, 0, 1, 1, 0, 0, 1, 0, 0, 1, 0, 1], .bl 1, .co [1, 1, 1, 0, 1, 0, 1, 1, 0, 0, 1, 1], .le 2, .bl 0, .le 1, .le 0, .co [1, 1, 1, 1]] [(2, .int .i64 1)] (by kernel_rfl) ?_
                  refine retR [2] [.int .i64 1] (by kernel_rfl) (by kernel_rfl) (by kernel_rfl) ?_
                  obtain rfl : 1 = r := (hfr316 _ (hfr368 _ (hfin382 _ (Option.some.inj hb_382).symm).symm).symm)
                  exact ⟨_, rfl, rfl, H.scalar⟩
              · rw [hb384]
                have p384 := of_decide_eq_false hb384
                refine seg 2 [.le 1, .le 0, .co [1, 1, 1, 1]] [(1, .pointer (some (⟨g1, 0, none⟩)))] (by kernel_rfl) ?_
                refine leR_up (k' := []) (by rfl) ?_
                refine leJ () ⟨(hfin382 _ (Option.some.inj hb_382).symm).symm, H⟩ (by kernel_rfl)
            rintro _ wj368 ⟨hy368, H⟩
            have hp316 := hfl368 _ hy368
            try dsimp only at hp316
            refine leJ () ⟨(Option.some.inj hp316).symm, H⟩ (by kernel_rfl)
        · rw [hb318]
          refine seg 4 [.op [1, 1, 1, 0, 1, 1, 0] 1, .co [1, 1, 1, 0, 1, 1, 1], .le 0, .co [1, 1, 1, 1]] [(1, .pointer (some (⟨g1, 0, none⟩))), (119, .pointer (some (⟨g1, 7, none⟩)))] (by kernel_rfl) ?_
          refine st (ldR (some 120) 3 (⟨g1, 7, none⟩) (.int .i64 n_.Size) (by kernel_rfl) (by kernel_rfl) (H.cellB 0 rfl rfl) ?_)
          refine seg 2 [.op [1, 1, 1, 0, 1, 1, 0] 4, .co [1, 1, 1, 0, 1, 1, 1], .le 0, .co [1, 1, 1, 1]] [(1, .pointer (some (⟨g1, 0, none⟩))), (122, .bool (n_.Size != 0))] (by kernel_rfl) ?_
          rcases condT hp316 with ⟨hb389, hp316⟩ | ⟨hb389, hp316⟩
          · rw [hb389]
            refine seg 31 [.co [1, 1, 1, 0, 1, 1, 1, 0, 1], .le 0, .co [1, 1, 1, 1]] [(2, .int .i64 1)] (by kernel_rfl) ?_
            refine retR [2] [.int .i64 1] (by kernel_rfl) (by kernel_rfl) (by kernel_rfl) ?_
            obtain rfl : 1 = r := (hfr316 _ (Option.some.inj hp316).symm)
            exact ⟨_, rfl, rfl, H.scalar⟩
          · rw [hb389]
            refine seg 1 [.op [1, 1, 1, 0, 1, 1, 0] 5, .co [1, 1, 1, 0, 1, 1, 1], .le 0, .co [1, 1, 1, 1]] [(1, .pointer (some (⟨g1, 0, none⟩))), (122, .bool false), (123, .pointer (some (⟨g1, 8, none⟩)))] (by kernel_rfl) ?_
            refine st (ldR (some 124) 3 (⟨g1, 8, none⟩) (.int .i64 n_.Start) (by kernel_rfl) (by kernel_rfl) (H.cellB 0 rfl rfl) ?_)
            refine seg 3 [.op [1, 1, 1, 0, 1, 1, 0] 9, .co [1, 1, 1, 0, 1, 1, 1], .le 0, .co [1, 1, 1, 1]] [(1, .pointer (some (⟨g1, 0, none⟩))), (127, .bool (n_.Start != 0))] (by kernel_rfl) ?_
            rcases condT hp316 with ⟨hb390, hp316⟩ | ⟨hb390, hp316⟩
            · rw [hb390]
              refine seg 26 [.co [1, 1, 1, 0, 1, 1, 1, 0, 1], .le 0, .co [1, 1, 1, 1]] [(2, .int .i64 1)] (by kernel_rfl) ?_
              refine retR [2] [.int .i64 1] (by kernel_rfl) (by kernel_rfl) (by kernel_rfl) ?_
              obtain rfl : 1 = r := (hfr316 _ (Option.some.inj hp316).symm)
              exact ⟨_, rfl, rfl, H.scalar⟩
            · rw [hb390]
              refine seg 1 [.op [1, 1, 1, 0, 1, 1, 0] 10, .co [1, 1, 1, 0, 1, 1, 1], .le 0, .co [1, 1, 1, 1]] [(1, .pointer (some (⟨g1, 0, none⟩))), (127, .bool false), (128, .pointer (some (⟨g1, 9, none⟩)))] (by kernel_rfl) ?_
              refine st (ldR (some 129) 44 (⟨g1, 9, none⟩) (.slice A0_9 n_.Words.length c0_9) (by kernel_rfl) (by kernel_rfl) (H.cellB 0 rfl rfl) ?_)
              refine seg 4 [.op [1, 1, 1, 0, 1, 1, 0] 15, .co [1, 1, 1, 0, 1, 1, 1], .le 0, .co [1, 1, 1, 1]] [(1, .pointer (some (⟨g1, 0, none⟩))), (133, .bool ((n_.Words.length : Int) != 0))] (by kernel_rfl) ?_
              rcases condT hp316 with ⟨hb391, hp316⟩ | ⟨hb391, hp316⟩
              · rw [hb391]
                refine seg 20 [.co [1, 1, 1, 0, 1, 1, 1, 0, 1], .le 0, .co [1, 1, 1, 1]] [(2, .int .i64 1)] (by kernel_rfl) ?_
                refine retR [2] [.int .i64 1] (by kernel_rfl) (by kernel_rfl) (by kernel_rfl) ?_
                obtain rfl : 1 = r := (hfr316 _ (Option.some.inj hp316).symm)
                exact ⟨_, rfl, rfl, H.scalar⟩
              · rw [hb391]
                refine seg 1 [.op [1, 1, 1, 0, 1, 1, 0] 16, .co [1, 1, 1, 0, 1, 1, 1], .le 0, .co [1, 1, 1, 1]] [(1, .pointer (some (⟨g1, 0, none⟩))), (133, .bool false), (134, .pointer (some (⟨g1, 10, none⟩)))] (by kernel_rfl) ?_
                refine st (ldR (some 135) 3 (⟨g1, 10, none⟩) (.int .i64 n_.Frag) (by kernel_rfl) (by kernel_rfl) (H.cellB 0 rfl rfl) ?_)
                refine seg 3 [.op [1, 1, 1, 0, 1, 1, 0] 20, .co [1, 1, 1, 0, 1, 1, 1], .le 0, .co [1, 1, 1, 1]] [(1, .pointer (some (⟨g1, 0, none⟩))), (138, .bool (n_.Frag != 0))] (by kernel_rfl) ?_
                rcases condT hp316 with ⟨hb392, hp316⟩ | ⟨hb392, hp316⟩
                · rw [hb392]
                  refine seg 15 [.co [1, 1, 1, 0, 1, 1, 1, 0, 1], .le 0, .co [1, 1, 1, 1]] [(2, .int .i64 1)] (by kernel_rfl) ?_
                  refine retR [2] [.int .i64 1] (by kernel_rfl) (by kernel_rfl) (by kernel_rfl) ?_
                  obtain rfl : 1 = r := (hfr316 _ (Option.some.inj hp316).symm)
                  exact ⟨_, rfl, rfl, H.scalar⟩
                · rw [hb392]
                  refine seg 1 [.op [1, 1, 1, 0, 1, 1, 0] 21, .co [1, 1, 1, 0, 1, 1, 1], .le 0, .co [1, 1, 1, 1]] [(1, .pointer (some (⟨g1, 0, none⟩))), (138, .bool false), (139, .pointer (some (⟨g1, 11, none⟩)))] (by kernel_rfl) ?_
                  refine st (ldR (some 140) 3 (⟨g1, 11, none⟩) (.int .i64 n_.Off) (by kernel_rfl) (by kernel_rfl) (H.cellB 0 rfl rfl) ?_)
                  refine seg 3 [.op [1, 1, 1, 0, 1, 1, 0] 25, .co [1, 1, 1, 0, 1, 1, 1], .le 0, .co [1, 1, 1, 1]] [(1, .pointer (some (⟨g1, 0, none⟩))), (143, .bool (n_.Off != 0))] (by kernel_rfl) ?_
                  rcases condT hp316 with ⟨hb393, hp316⟩ | ⟨hb393, hp316⟩
                  · rw [hb393]
                    refine seg 10 [.co [1, 1, 1, 0, 1, 1, 1, 0, 1], .le 0, .co [1, 1, 1, 1]] [(2, .int .i64 1)] (by kernel_rfl) ?_
                    refine retR [2] [.int .i64 1] (by kernel_rfl) (by kernel_rfl) (by kernel_rfl) ?_
                    obtain rfl : 1 = r := (hfr316 _ (Option.some.inj hp316).symm)
                    exact ⟨_, rfl, rfl, H.scalar⟩
                  · rw [hb393]
                    refine seg 1 [.op [1, 1, 1, 0, 1, 1, 0] 26, .co [1, 1, 1, 0, 1, 1, 1], .le 0, .co [1, 1, 1, 1]] [(1, .pointer (some (⟨g1, 0, none⟩))), (143, .bool false), (144, .pointer (some (⟨g1, 12, none⟩)))] (by kernel_rfl) ?_
                    refine st (ldR (some 145) 3 (⟨g1, 12, none⟩) (.int .i64 n_.Tail) (by kernel_rfl) (by kernel_rfl) (H.cellB 0 rfl rfl) ?_)
                    refine seg 3 [.co [1, 1, 1, 0, 1, 1, 1], .le 0, .co [1, 1, 1, 1]] [(1, .pointer (some (⟨g1, 0, none⟩))), (147, .bool (n_.Tail != 0))] (by kernel_rfl) ?_
                    rcases condT hp316 with ⟨hb394, hp316⟩ | ⟨hb394, hp316⟩
                    · rw [hb394]
                      refine seg 5 [.co [1, 1, 1, 0, 1, 1, 1, 0, 1], .le 0, .co [1, 1, 1, 1]] [(2, .int .i64 1)] (by kernel_rfl) ?_
                      refine retR [2] [.int .i64 1] (by kernel_rfl) (by kernel_rfl) (by kernel_rfl) ?_
                      obtain rfl : 1 = r := (hfr316 _ (Option.some.inj hp316).symm)
                      exact ⟨_, rfl, rfl, H.scalar⟩
                    · rw [hb394]
                      refine seg 2 [.le 0, .co [1, 1, 1, 1]] [(1, .pointer (some (⟨g1, 0, none⟩)))] (by kernel_rfl) ?_
                      refine leJ () ⟨(Option.some.inj hp316).symm, H⟩ (by kernel_rfl)
      rintro _ wj316 ⟨hy316, H⟩
      have hf := hfl316 _ hy316
      try dsimp only at hf
      refine seg 4 [.op [1, 1, 1, 1, 0, 0] 1, .co [1, 1, 1, 1, 0, 1], .co [1, 1, 1, 1, 1]] [(1, .pointer (some (⟨g1, 0, none⟩))), (148, .pointer (some (⟨g1, 0, none⟩)))] (by kernel_rfl) ?_
      refine st (ldR (some 149) 3 (⟨g1, 0, none⟩) (.int .i64 n_.Kind) (by kernel_rfl) (by kernel_rfl) (H.cellB 0 rfl rfl) ?_)
      refine seg 2 [.co [1, 1, 1, 1, 0, 1], .co [1, 1, 1, 1, 1]] [(1, .pointer (some (⟨g1, 0, none⟩))), (150, .bool (n_.Kind == 2))] (by kernel_rfl) ?_
      rcases condT hf with ⟨hb395, hf⟩ | ⟨hb395, hf⟩
      · rw [hb395]
        refine seg 2 [.co [1, 1, 1, 1, 0, 1, 0, 0], .co [1, 1, 1, 1, 0, 1, 0, 1], .co [1, 1, 1, 1, 1]] [(1, .pointer (some (⟨g1, 0, none⟩)))] (by kernel_rfl) ?_
        obtain ⟨y401, hp401, hf⟩ := ltE hf
        refine joinR 0 (fun (x : Bool) => [(1, .pointer (some (⟨g1, 0, none⟩))), (166, .bool x)]) (fun (x : Bool) (wj401 : World) => y401 = x ∧ St w noF m m [blkI g1 [.int .i64 n_.Kind, .int .i64 n_.Mode, .int .i64 n_.Uid, .int .i64 n_.Gid, .int .i64 n_.Time, .int .i64 n_.Links, .int .i64 n_.Attrs, .int .i64 n_.Size, .int .i64 n_.Start, .slice A0_9 n_.Words.length c0_9, .int .i64 n_.Frag, .int .i64 n_.Off, .int .i64 n_.Tail, .int .i64 n_.Dir, .int .i64 n_.Bytes, .int .i64 n_.Parent, .string ⟨n_.Target.toArray⟩, .int .i64 n_.Dev] 46] wj401) (by kernel_rfl) ?_ ?_
        · refine seg 2 [.op [1, 1, 1, 1, 0, 1, 0, 0] 1, .le 0, .co [1, 1, 1, 1, 0, 1, 0, 1], .co [1, 1, 1, 1, 1]] [(1, .pointer (some (⟨g1, 0, none⟩))), (151, .pointer (some (⟨g1, 13, none⟩)))] (by kernel_rfl) ?_
          refine st (ldR (some 152) 3 (⟨g1, 13, none⟩) (.int .i64 n_.Dir) (by kernel_rfl) (by kernel_rfl) (H.cellB 0 rfl rfl) ?_)
          refine st (callR (some 153) 55 #[.int .i64 n_.Dir, .int .i64 0, .int .i64 16777216] Try.call55 (ref15_in_c H.has n_.Dir 0 16777216) (by kernel_rfl) ?_)
          rintro _ w403 ⟨rfl, hx403⟩
          replace H := H.ex hx403
          refine seg 2 [.op [1, 1, 1, 1, 0, 1, 0, 0] 5, .le 0, .co [1, 1, 1, 1, 0, 1, 0, 1], .co [1, 1, 1, 1, 1]] [(1, .pointer (some (⟨g1, 0, none⟩))), (155, .bool (!(ref15_in n_.Dir 0 16777216)))] (by kernel_rfl) ?_
          rcases condT hp401 with ⟨hb404, hp401⟩ | ⟨hb404, hp401⟩
          · rw [hb404]
            refine seg 1 [.op [1, 1, 1, 1, 0, 1, 0, 0] 6, .le 0, .co [1, 1, 1, 1, 0, 1, 0, 1], .co [1, 1, 1, 1, 1]] [(1, .pointer (some (⟨g1, 0, none⟩))), (155, .bool false), (156, .pointer (some (⟨g1, 14, none⟩)))] (by kernel_rfl) ?_
            refine st (ldR (some 157) 3 (⟨g1, 14, none⟩) (.int .i64 n_.Bytes) (by kernel_rfl) (by kernel_rfl) (H.cellB 0 rfl rfl) ?_)
            refine st (callR (some 158) 55 #[.int .i64 n_.Bytes, .int .i64 0, .int .i64 16777216] Try.call55 (ref15_in_c H.has n_.Bytes 0 16777216) (by kernel_rfl) ?_)
            rintro _ w405 ⟨rfl, hx405⟩
            replace H := H.ex hx405
            refine seg 3 [.op [1, 1, 1, 1, 0, 1, 0, 0] 11, .le 0, .co [1, 1, 1, 1, 0, 1, 0, 1], .co [1, 1, 1, 1, 1]] [(1, .pointer (some (⟨g1, 0, none⟩))), (161, .bool (!(ref15_in n_.Bytes 0 16777216)))] (by kernel_rfl) ?_
            rcases condT hp401 with ⟨hb406, hp401⟩ | ⟨hb406, hp401⟩
            · rw [hb406]
              refine seg 1 [.op [1, 1, 1, 1, 0, 1, 0, 0] 12, .le 0, .co [1, 1, 1, 1, 0, 1, 0, 1], .co [1, 1, 1, 1, 1]] [(1, .pointer (some (⟨g1, 0, none⟩))), (161, .bool false), (162, .pointer (some (⟨g1, 15, none⟩)))] (by kernel_rfl) ?_
              refine st (ldR (some 163) 3 (⟨g1, 15, none⟩) (.int .i64 n_.Parent) (by kernel_rfl) (by kernel_rfl) (H.cellB 0 rfl rfl) ?_)
              refine st (callR (some 164) 55 #[.int .i64 n_.Parent, .int .i64 0, .int .i64 16384] Try.call55 (ref15_in_c H.has n_.Parent 0 16384) (by kernel_rfl) ?_)
              rintro _ w407 ⟨rfl, hx407⟩
              replace H := H.ex hx407
              refine seg 3 [.le 0, .co [1, 1, 1, 1, 0, 1, 0, 1], .co [1, 1, 1, 1, 1]] [(1, .pointer (some (⟨g1, 0, none⟩))), (166, .bool (!(ref15_in n_.Parent 0 16384)))] (by kernel_rfl) ?_
              refine leJ ((!(ref15_in n_.Parent 0 16384))) ⟨hp401.symm, H⟩ (by kernel_rfl)
            · rw [hb406]
              refine seg 6 [.le 0, .co [1, 1, 1, 1, 0, 1, 0, 1], .co [1, 1, 1, 1, 1]] [(1, .pointer (some (⟨g1, 0, none⟩))), (166, .bool true)] (by kernel_rfl) ?_
              refine leJ (true) ⟨hp401.symm, H⟩ (by kernel_rfl)
          · rw [hb404]
            refine seg 12 [.le 0, .co [1, 1, 1, 1, 0, 1, 0, 1], .co [1, 1, 1, 1, 1]] [(1, .pointer (some (⟨g1, 0, none⟩))), (166, .bool true)] (by kernel_rfl) ?_
            refine leJ (true) ⟨hp401.symm, H⟩ (by kernel_rfl)
        rintro t2 wj401 ⟨hy401, H⟩
        rw [hy401] at hf
        rcases condT hf with ⟨hb408, hf⟩ | ⟨hb408, hf⟩
        · rw [hb408]
          refine seg 5 [.co [1, 1, 1, 1, 0, 1, 0, 1, 0, 1], .co [1, 1, 1, 1, 1]] [(2, .int .i64 1)] (by kernel_rfl) ?_
          refine retR [2] [.int .i64 1] (by kernel_rfl) (by kernel_rfl) (by kernel_rfl) ?_
          obtain rfl : 1 = r := (Option.some.inj hf)
          exact ⟨_, rfl, rfl, H.scalar⟩
        · rw [hb408]
          refine seg 6 [.op [1, 1, 1, 1, 1, 0, 0] 1, .co [1, 1, 1, 1, 1, 0, 1], .co [1, 1, 1, 1, 1, 1]] [(1, .pointer (some (⟨g1, 0, none⟩))), (180, .pointer (some (⟨g1, 0, none⟩)))] (by kernel_rfl) ?_
          replace H : St w noF m m [blkI g1 [.int .i64 n_.Kind, .int .i64 n_.Mode, .int .i64 n_.Uid, .int .i64 n_.Gid, .int .i64 n_.Time, .int .i64 n_.Links, .int .i64 n_.Attrs, .int .i64 n_.Size, .int .i64 n_.Start, .slice A0_9 n_.Words.length c0_9, .int .i64 n_.Frag, .int .i64 n_.Off, .int .i64 n_.Tail, .int .i64 n_.Dir, .int .i64 n_.Bytes, .int .i64 n_.Parent, .string ⟨n_.Target.toArray⟩, .int .i64 n_.Dev] 46] wj401 := H
          refine st (ldR (some 181) 3 (⟨g1, 0, none⟩) (.int .i64 n_.Kind) (by kernel_rfl) (by kernel_rfl) (H.cellB 0 rfl rfl) ?_)
          refine seg 2 [.co [1, 1, 1, 1, 1, 0, 1], .co [1, 1, 1, 1, 1, 1]] [(1, .pointer (some (⟨g1, 0, none⟩))), (182, .bool (n_.Kind == 3))] (by kernel_rfl) ?_
          rw [show (n_.Kind == 3) = false from by rw [show n_.Kind = 2 from eq_of_beq hb395]; rfl]
          refine seg 4 [.op [1, 1, 1, 1, 1, 0, 1, 1, 0] 1, .co [1, 1, 1, 1, 1, 0, 1, 1, 1], .co [1, 1, 1, 1, 1, 1]] [(1, .pointer (some (⟨g1, 0, none⟩))), (200, .pointer (some (⟨g1, 16, none⟩)))] (by kernel_rfl) ?_
          refine st (ldR (some 201) 9 (⟨g1, 16, none⟩) (.string ⟨n_.Target.toArray⟩) (by kernel_rfl) (by kernel_rfl) (H.cellB 0 rfl rfl) ?_)
          refine seg 2 [.co [1, 1, 1, 1, 1, 0, 1, 1, 1], .co [1, 1, 1, 1, 1, 1]] [(1, .pointer (some (⟨g1, 0, none⟩))), (202, .bool (!((ByteArray.toList ⟨n_.Target.toArray⟩) == (ByteArray.toList ⟨([] : List UInt8).toArray⟩))))] (by kernel_rfl) ?_
          rw [sne_raw n_.Target ([] : List UInt8)]
          rcases condT hf with ⟨hb409, hf⟩ | ⟨hb409, hf⟩
          · rw [hb409]
            refine seg 5 [.co [1, 1, 1, 1, 1, 0, 1, 1, 1, 0, 1], .co [1, 1, 1, 1, 1, 1]] [(2, .int .i64 1)] (by kernel_rfl) ?_
            refine retR [2] [.int .i64 1] (by kernel_rfl) (by kernel_rfl) (by kernel_rfl) ?_
            obtain rfl : 1 = r := (Option.some.inj hf)
            exact ⟨_, rfl, rfl, H.scalar⟩
          · rw [hb409]
            refine seg 6 [.op [1, 1, 1, 1, 1, 1, 0, 0] 1, .co [1, 1, 1, 1, 1, 1, 0, 1], .co [1, 1, 1, 1, 1, 1, 1]] [(1, .pointer (some (⟨g1, 0, none⟩))), (203, .pointer (some (⟨g1, 0, none⟩)))] (by kernel_rfl) ?_
            refine st (ldR (some 204) 3 (⟨g1, 0, none⟩) (.int .i64 n_.Kind) (by kernel_rfl) (by kernel_rfl) (H.cellB 0 rfl rfl) ?_)
            refine seg 2 [.op [1, 1, 1, 1, 1, 1, 0, 0] 4, .co [1, 1, 1, 1, 1, 1, 0, 1], .co [1, 1, 1, 1, 1, 1, 1]] [(1, .pointer (some (⟨g1, 0, none⟩))), (206, .bool (decide (n_.Kind > 3)))] (by kernel_rfl) ?_
            rcases condT hf with ⟨hb410, hf⟩ | ⟨hb410, hf⟩
            · rw [hb410]
              have p410 := of_decide_eq_true hb410
              refine seg 1 [.op [1, 1, 1, 1, 1, 1, 0, 0] 5, .co [1, 1, 1, 1, 1, 1, 0, 1], .co [1, 1, 1, 1, 1, 1, 1]] [(1, .pointer (some (⟨g1, 0, none⟩))), (206, .bool true), (207, .pointer (some (⟨g1, 17, none⟩)))] (by kernel_rfl) ?_
              refine st (ldR (some 208) 3 (⟨g1, 17, none⟩) (.int .i64 n_.Dev) (by kernel_rfl) (by kernel_rfl) (H.cellB 0 rfl rfl) ?_)
              refine st (callR (some 209) 55 #[.int .i64 n_.Dev, .int .i64 0, .int .i64 4294967295] Try.call55 (ref15_in_c H.has n_.Dev 0 4294967295) (by kernel_rfl) ?_)
              rintro _ w411 ⟨rfl, hx411⟩
              replace H := H.ex hx411
              refine seg 3 [.op [1, 1, 1, 1, 1, 1, 0, 0] 10, .co [1, 1, 1, 1, 1, 1, 0, 1], .co [1, 1, 1, 1, 1, 1, 1]] [(1, .pointer (some (⟨g1, 0, none⟩))), (212, .bool (!(ref15_in n_.Dev 0 4294967295)))] (by kernel_rfl) ?_
              rcases condT hf with ⟨hb412, hf⟩ | ⟨hb412, hf⟩
              · rw [hb412]
                refine seg 1 [.op [1, 1, 1, 1, 1, 1, 0, 0] 11, .co [1, 1, 1, 1, 1, 1, 0, 1], .co [1, 1, 1, 1, 1, 1, 1]] [(1, .pointer (some (⟨g1, 0, none⟩))), (212, .bool false), (213, .pointer (some (⟨g1, 0, none⟩)))] (by kernel_rfl) ?_
                refine st (ldR (some 214) 3 (⟨g1, 0, none⟩) (.int .i64 n_.Kind) (by kernel_rfl) (by kernel_rfl) (H.cellB 0 rfl rfl) ?_)
                refine seg 2 [.op [1, 1, 1, 1, 1, 1, 0, 0] 14, .co [1, 1, 1, 1, 1, 1, 0, 1], .co [1, 1, 1, 1, 1, 1, 1]] [(1, .pointer (some (⟨g1, 0, none⟩))), (212, .bool false), (216, .bool (decide (n_.Kind < 4)))] (by kernel_rfl) ?_
                rcases condT hf with ⟨hb413, hf⟩ | ⟨hb413, hf⟩
                · rw [hb413]
                  have p413 := of_decide_eq_true hb413
                  refine seg 1 [.op [1, 1, 1, 1, 1, 1, 0, 0] 15, .co [1, 1, 1, 1, 1, 1, 0, 1], .co [1, 1, 1, 1, 1, 1, 1]] [(212, .bool false), (216, .bool true), (217, .pointer (some (⟨g1, 17, none⟩)))] (by kernel_rfl) ?_
                  refine st (ldR (some 218) 3 (⟨g1, 17, none⟩) (.int .i64 n_.Dev) (by kernel_rfl) (by kernel_rfl) (H.cellB 0 rfl rfl) ?_)
                  refine seg 4 [.co [1, 1, 1, 1, 1, 1, 0, 1], .co [1, 1, 1, 1, 1, 1, 1]] [(221, .bool (n_.Dev != 0))] (by kernel_rfl) ?_
                  rcases condT hf with ⟨hb414, hf⟩ | ⟨hb414, hf⟩
                  · rw [hb414]
                    refine seg 5 [.co [1, 1, 1, 1, 1, 1, 0, 1, 0, 1], .co [1, 1, 1, 1, 1, 1, 1]] [(2, .int .i64 1)] (by kernel_rfl) ?_
                    refine retR [2] [.int .i64 1] (by kernel_rfl) (by kernel_rfl) (by kernel_rfl) ?_
                    obtain rfl : 1 = r := (Option.some.inj hf)
                    exact ⟨_, rfl, rfl, H.scalar⟩
                  · rw [hb414]
                    refine seg 6 [.co [1, 1, 1, 1, 1, 1, 1, 1]] [(2, .int .i64 0)] (by kernel_rfl) ?_
                    refine retR [2] [.int .i64 0] (by kernel_rfl) (by kernel_rfl) (by kernel_rfl) ?_
                    obtain rfl : 0 = r := (Option.some.inj hf)
                    exact ⟨_, rfl, rfl, H.scalar⟩
                · rw [hb413]
                  have p413 := of_decide_eq_false hb413
                  refine seg 12 [.co [1, 1, 1, 1, 1, 1, 1, 1]] [(2, .int .i64 0)] (by kernel_rfl) ?_
                  refine retR [2] [.int .i64 0] (by kernel_rfl) (by kernel_rfl) (by kernel_rfl) ?_
                  obtain rfl : 0 = r := (Option.some.inj hf)
                  exact ⟨_, rfl, rfl, H.scalar⟩
              · rw [hb412]
                refine seg 15 [.co [1, 1, 1, 1, 1, 1, 0, 1, 0, 1], .co [1, 1, 1, 1, 1, 1, 1]] [(2, .int .i64 1)] (by kernel_rfl) ?_
                refine retR [2] [.int .i64 1] (by kernel_rfl) (by kernel_rfl) (by kernel_rfl) ?_
                obtain rfl : 1 = r := (Option.some.inj hf)
                exact ⟨_, rfl, rfl, H.scalar⟩
            · rw [hb410]
              have p410 := of_decide_eq_false hb410
              refine seg 7 [.op [1, 1, 1, 1, 1, 1, 0, 0] 11, .co [1, 1, 1, 1, 1, 1, 0, 1], .co [1, 1, 1, 1, 1, 1, 1]] [(1, .pointer (some (⟨g1, 0, none⟩))), (212, .bool false), (213, .pointer (some (⟨g1, 0, none⟩)))] (by kernel_rfl) ?_
              refine st (ldR (some 214) 3 (⟨g1, 0, none⟩) (.int .i64 n_.Kind) (by kernel_rfl) (by kernel_rfl) (H.cellB 0 rfl rfl) ?_)
              refine seg 2 [.op [1, 1, 1, 1, 1, 1, 0, 0] 14, .co [1, 1, 1, 1, 1, 1, 0, 1], .co [1, 1, 1, 1, 1, 1, 1]] [(1, .pointer (some (⟨g1, 0, none⟩))), (212, .bool false), (216, .bool (decide (n_.Kind < 4)))] (by kernel_rfl) ?_
              rcases condT hf with ⟨hb415, hf⟩ | ⟨hb415, hf⟩
              · rw [hb415]
                have p415 := of_decide_eq_true hb415
                refine seg 1 [.op [1, 1, 1, 1, 1, 1, 0, 0] 15, .co [1, 1, 1, 1, 1, 1, 0, 1], .co [1, 1, 1, 1, 1, 1, 1]] [(212, .bool false), (216, .bool true), (217, .pointer (some (⟨g1, 17, none⟩)))] (by kernel_rfl) ?_
                refine st (ldR (some 218) 3 (⟨g1, 17, none⟩) (.int .i64 n_.Dev) (by kernel_rfl) (by kernel_rfl) (H.cellB 0 rfl rfl) ?_)
                refine seg 4 [.co [1, 1, 1, 1, 1, 1, 0, 1], .co [1, 1, 1, 1, 1, 1, 1]] [(221, .bool (n_.Dev != 0))] (by kernel_rfl) ?_
                rcases condT hf with ⟨hb416, hf⟩ | ⟨hb416, hf⟩
                · rw [hb416]
                  refine seg 5 [.co [1, 1, 1, 1, 1, 1, 0, 1, 0, 1], .co [1, 1, 1, 1, 1, 1, 1]] [(2, .int .i64 1)] (by kernel_rfl) ?_
                  refine retR [2] [.int .i64 1] (by kernel_rfl) (by kernel_rfl) (by kernel_rfl) ?_
                  obtain rfl : 1 = r := (Option.some.inj hf)
                  exact ⟨_, rfl, rfl, H.scalar⟩
                · rw [hb416]
                  refine seg 6 [.co [1, 1, 1, 1, 1, 1, 1, 1]] [(2, .int .i64 0)] (by kernel_rfl) ?_
                  refine retR [2] [.int .i64 0] (by kernel_rfl) (by kernel_rfl) (by kernel_rfl) ?_
                  obtain rfl : 0 = r := (Option.some.inj hf)
                  exact ⟨_, rfl, rfl, H.scalar⟩
              · rw [hb415]
                have p415 := of_decide_eq_false hb415
                refine seg 12 [.co [1, 1, 1, 1, 1, 1, 1, 1]] [(2, .int .i64 0)] (by kernel_rfl) ?_
                refine retR [2] [.int .i64 0] (by kernel_rfl) (by kernel_rfl) (by kernel_rfl) ?_
                obtain rfl : 0 = r := (Option.some.inj hf)
                exact ⟨_, rfl, rfl, H.scalar⟩
      · rw [hb395]
        refine seg 4 [.op [1, 1, 1, 1, 0, 1, 1, 0] 1, .co [1, 1, 1, 1, 0, 1, 1, 1], .co [1, 1, 1, 1, 1]] [(1, .pointer (some (⟨g1, 0, none⟩))), (167, .pointer (some (⟨g1, 13, none⟩)))] (by kernel_rfl) ?_
        refine st (ldR (some 168) 3 (⟨g1, 13, none⟩) (.int .i64 n_.Dir) (by kernel_rfl) (by kernel_rfl) (H.cellB 0 rfl rfl) ?_)
        refine seg 2 [.op [1, 1, 1, 1, 0, 1, 1, 0] 4, .co [1, 1, 1, 1, 0, 1, 1, 1], .co [1, 1, 1, 1, 1]] [(1, .pointer (some (⟨g1, 0, none⟩))), (170, .bool (n_.Dir != 0))] (by kernel_rfl) ?_
        rcases condT hf with ⟨hb417, hf⟩ | ⟨hb417, hf⟩
        · rw [hb417]
          refine seg 15 [.co [1, 1, 1, 1, 0, 1, 1, 1, 0, 1], .co [1, 1, 1, 1, 1]] [(2, .int .i64 1)] (by kernel_rfl) ?_
          refine retR [2] [.int .i64 1] (by kernel_rfl) (by kernel_rfl) (by kernel_rfl) ?_
          obtain rfl : 1 = r := (Option.some.inj hf)
          exact ⟨_, rfl, rfl, H.scalar⟩
        · rw [hb417]
          refine seg 1 [.op [1, 1, 1, 1, 0, 1, 1, 0] 5, .co [1, 1, 1, 1, 0, 1, 1, 1], .co [1, 1, 1, 1, 1]] [(1, .pointer (some (⟨g1, 0, none⟩))), (170, .bool false), (171, .pointer (some (⟨g1, 14, none⟩)))] (by kernel_rfl) ?_
          refine st (ldR (some 172) 3 (⟨g1, 14, none⟩) (.int .i64 n_.Bytes) (by kernel_rfl) (by kernel_rfl) (H.cellB 0 rfl rfl) ?_)
          refine seg 3 [.op [1, 1, 1, 1, 0, 1, 1, 0] 9, .co [1, 1, 1, 1, 0, 1, 1, 1], .co [1, 1, 1, 1, 1]] [(1, .pointer (some (⟨g1, 0, none⟩))), (175, .bool (n_.Bytes != 0))] (by kernel_rfl) ?_
          rcases condT hf with ⟨hb418, hf⟩ | ⟨hb418, hf⟩
          · rw [hb418]
            refine seg 10 [.co [1, 1, 1, 1, 0, 1, 1, 1, 0, 1], .co [1, 1, 1, 1, 1]] [(2, .int .i64 1)] (by kernel_rfl) ?_
            refine retR [2] [.int .i64 1] (by kernel_rfl) (by kernel_rfl) (by kernel_rfl) ?_
            obtain rfl : 1 = r := (Option.some.inj hf)
            exact ⟨_, rfl, rfl, H.scalar⟩
          · rw [hb418]
            refine seg 1 [.op [1, 1, 1, 1, 0, 1, 1, 0] 10, .co [1, 1, 1, 1, 0, 1, 1, 1], .co [1, 1, 1, 1, 1]] [(1, .pointer (some (⟨g1, 0, none⟩))), (175, .bool false), (176, .pointer (some (⟨g1, 15, none⟩)))] (by kernel_rfl) ?_
            refine st (ldR (some 177) 3 (⟨g1, 15, none⟩) (.int .i64 n_.Parent) (by kernel_rfl) (by kernel_rfl) (H.cellB 0 rfl rfl) ?_)
            refine seg 3 [.co [1, 1, 1, 1, 0, 1, 1, 1], .co [1, 1, 1, 1, 1]] [(1, .pointer (some (⟨g1, 0, none⟩))), (179, .bool (n_.Parent != 0))] (by kernel_rfl) ?_
            rcases condT hf with ⟨hb419, hf⟩ | ⟨hb419, hf⟩
            · rw [hb419]
              refine seg 5 [.co [1, 1, 1, 1, 0, 1, 1, 1, 0, 1], .co [1, 1, 1, 1, 1]] [(2, .int .i64 1)] (by kernel_rfl) ?_
              refine retR [2] [.int .i64 1] (by kernel_rfl) (by kernel_rfl) (by kernel_rfl) ?_
              obtain rfl : 1 = r := (Option.some.inj hf)
              exact ⟨_, rfl, rfl, H.scalar⟩
            · rw [hb419]
              refine seg 6 [.op [1, 1, 1, 1, 1, 0, 0] 1, .co [1, 1, 1, 1, 1, 0, 1], .co [1, 1, 1, 1, 1, 1]] [(1, .pointer (some (⟨g1, 0, none⟩))), (180, .pointer (some (⟨g1, 0, none⟩)))] (by kernel_rfl) ?_
              refine st (ldR (some 181) 3 (⟨g1, 0, none⟩) (.int .i64 n_.Kind) (by kernel_rfl) (by kernel_rfl) (H.cellB 0 rfl rfl) ?_)
              refine seg 2 [.co [1, 1, 1, 1, 1, 0, 1], .co [1, 1, 1, 1, 1, 1]] [(1, .pointer (some (⟨g1, 0, none⟩))), (182, .bool (n_.Kind == 3))] (by kernel_rfl) ?_
              rcases condT hf with ⟨hb420, hf⟩ | ⟨hb420, hf⟩
              · rw [hb420]
                refine seg 5 [.op [1, 1, 1, 1, 1, 0, 1, 0, 0, 0] 1, .co [1, 1, 1, 1, 1, 0, 1, 0, 0, 1], .co [1, 1, 1, 1, 1, 0, 1, 0, 1], .co [1, 1, 1, 1, 1, 1]] [(1, .pointer (some (⟨g1, 0, none⟩))), (183, .pointer (some (⟨g1, 16, none⟩)))] (by kernel_rfl) ?_
                refine st (ldR (some 184) 9 (⟨g1, 16, none⟩) (.string ⟨n_.Target.toArray⟩) (by kernel_rfl) (by kernel_rfl) (H.cellB 0 rfl rfl) ?_)
                refine seg 1 [.op [1, 1, 1, 1, 1, 0, 1, 0, 0, 0] 3, .co [1, 1, 1, 1, 1, 0, 1, 0, 0, 1], .co [1, 1, 1, 1, 1, 0, 1, 0, 1], .co [1, 1, 1, 1, 1, 1]] [(1, .pointer (some (⟨g1, 0, none⟩))), (185, .int .i64 (n_.Target.length : Int))] (by kernel_rfl) ?_
                refine st (callR (some 186) 55 #[.int .i64 (n_.Target.length : Int), .int .i64 1, .int .i64 4096] Try.call55 (ref15_in_c H.has (n_.Target.length : Int) 1 4096) (by kernel_rfl) ?_)
                rintro _ w421 ⟨rfl, hx421⟩
                replace H := H.ex hx421
                refine seg 2 [.co [1, 1, 1, 1, 1, 0, 1, 0, 0, 1], .co [1, 1, 1, 1, 1, 0, 1, 0, 1], .co [1, 1, 1, 1, 1, 1]] [(1, .pointer (some (⟨g1, 0, none⟩))), (187, .bool (!(ref15_in (n_.Target.length : Int) 1 4096)))] (by kernel_rfl) ?_
                rcases condT hf with ⟨hb422, hf⟩ | ⟨hb422, hf⟩
                · rw [hb422]
                  refine seg 6 [.co [1, 1, 1, 1, 1, 0, 1, 0, 1, 1], .co [1, 1, 1, 1, 1, 1]] [(1, .pointer (some (⟨g1, 0, none⟩))), (4, .int .i64 0)] (by kernel_rfl) ?_
                  obtain ⟨y432, hp432, hfl432, hfr432⟩ := bndE hf
                  refine joinR 0 (fun (x : Unit) => [(1, .pointer (some (⟨g1, 0, none⟩)))]) (fun (x : Unit) (wj432 : World) => y432 = .inl () ∧ St w noF m m [blkI g1 [.int .i64 n_.Kind, .int .i64 n_.Mode, .int .i64 n_.Uid, .int .i64 n_.Gid, .int .i64 n_.Time, .int .i64 n_.Links, .int .i64 n_.Attrs, .int .i64 n_.Size, .int .i64 n_.Start, .slice A0_9 n_.Words.length c0_9, .int .i64 n_.Frag, .int .i64 n_.Off, .int .i64 n_.Tail, .int .i64 n_.Dir, .int .i64 n_.Bytes, .int .i64 n_.Parent, .string ⟨n_.Target.toArray⟩, .int .i64 n_.Dev] 46] wj432) (by kernel_rfl) ?_ ?_
                  · refine seg 1 [.co [1, 1, 1, 1, 1, 0, 1, 0, 1, 1, 0], .bl 2, .le 0, .co [1, 1, 1, 1, 1, 1]] [(1, .pointer (some (⟨g1, 0, none⟩))), (4, .int .i64 0)] (by kernel_rfl) ?_
                    obtain ⟨nn440, hR440⟩ := loopO_iff.1 hp432
                    refine loopR 1 (fun (x : Nat × Nat) => [(1, .pointer (some (⟨g1, 0, none⟩))), (4, .int .i64 (x.2 : Int))]) (fun (x : Nat × Nat) (wl440 : World) => iter (fun s => ref15_Check_l2 n_ s) x.1 x.2 = some y432 ∧ St w noF m m [blkI g1 [.int .i64 n_.Kind, .int .i64 n_.Mode, .int .i64 n_.Uid, .int .i64 n_.Gid, .int .i64 n_.Time, .int .i64 n_.Links, .int .i64 n_.Attrs, .int .i64 n_.Size, .int .i64 n_.Start, .slice A0_9 n_.Words.length c0_9, .int .i64 n_.Frag, .int .i64 n_.Off, .int .i64 n_.Tail, .int .i64 n_.Dir, .int .i64 n_.Bytes, .int .i64 n_.Parent, .string ⟨n_.Target.toArray⟩, .int .i64 n_.Dev] 46] wl440) (fun (x : Nat × Nat) => x.1) (nn440, 0) (by kernel_rfl) (by kernel_rfl) (by kernel_rfl) ?_ ?_
                    · exact ⟨hR440, H⟩
                    rintro ⟨n440, i1⟩ wl440 ⟨hR440, H⟩
                    try dsimp only at hR440
                    try dsimp only at H
                    obtain ⟨nk440, q440, rfl, hb_440, hnx440, hfin440⟩ := iterE hR440
                    replace hb_440 : ref15_Check_l2 n_ i1 = some q440 := hb_440
                    unfold ref15_Check_l2 at hb_440
                    refine seg 5 [.op [1, 1, 1, 1, 1, 0, 1, 0, 1, 1, 0, 0, 0, 0] 2, .co [1, 1, 1, 1, 1, 0, 1, 0, 1, 1, 0, 0, 0, 1], .co [1, 1, 1, 1, 1, 0, 1, 0, 1, 1, 0, 0, 1], .le 1, .bl 2, .le 0, .co [1, 1, 1, 1, 1, 1]] [(1, .pointer (some (⟨g1, 0, none⟩))), (4, .int .i64 (i1 : Int)), (188, .int .i64 (i1 : Int)), (189, .pointer (some (⟨g1, 16, none⟩)))] (by kernel_rfl) ?_
                    refine st (ldR (some 190) 9 (⟨g1, 16, none⟩) (.string ⟨n_.Target.toArray⟩) (by kernel_rfl) (by kernel_rfl) (H.cellB 0 rfl rfl) ?_)
                    refine seg 3 [.co [1, 1, 1, 1, 1, 0, 1, 0, 1, 1, 0, 0, 0, 1], .co [1, 1, 1, 1, 1, 0, 1, 0, 1, 1, 0, 0, 1], .le 1, .bl 2, .le 0, .co [1, 1, 1, 1, 1, 1]] [(1, .pointer (some (⟨g1, 0, none⟩))), (4, .int .i64 (i1 : Int)), (192, .bool (decide ((i1 : Int) < (n_.Target.length : Int))))] (by kernel_rfl) ?_
                    rcases condT hb_440 with ⟨hb442, hb_440⟩ | ⟨hb442, hb_440⟩
                    · rw [hb442]
                      have p442 := of_decide_eq_true hb442
                      refine seg 7 [.op [1, 1, 1, 1, 1, 0, 1, 0, 1, 1, 0, 0, 1, 0, 0, 0] 1, .co [1, 1, 1, 1, 1, 0, 1, 0, 1, 1, 0, 0, 1, 0, 0, 1], .bl 3, .co [1, 1, 1, 1, 1, 0, 1, 0, 1, 1, 0, 0, 1, 1], .le 1, .bl 2, .le 0, .co [1, 1, 1, 1, 1, 1]] [(1, .pointer (some (⟨g1, 0, none⟩))), (4, .int .i64 (i1 : Int)), (195, .pointer (some (⟨g1, 16, none⟩)))] (by kernel_rfl) ?_
                      refine st (ldR (some 196) 9 (⟨g1, 16, none⟩) (.string ⟨n_.Target.toArray⟩) (by kernel_rfl) (by kernel_rfl) (H.cellB 0 rfl rfl) ?_)
                      refine seg 1 [.op [1, 1, 1, 1, 1, 0, 1, 0, 1, 1, 0, 0, 1, 0, 0, 0] 3, .co [1, 1, 1, 1, 1, 0, 1, 0, 1, 1, 0, 0, 1, 0, 0, 1], .bl 3, .co [1, 1, 1, 1, 1, 0, 1, 0, 1, 1, 0, 0, 1, 1], .le 1, .bl 2, .le 0, .co [1, 1, 1, 1, 1, 1]] [(1, .pointer (some (⟨g1, 0, none⟩))), (4, .int .i64 (i1 : Int)), (196, .string ⟨n_.Target.toArray⟩), (197, .int .i64 (i1 : Int))] (by kernel_rfl) ?_
                      obtain ⟨c, h_c, hb_440⟩ := bindE hb_440
                      refine st (strS (some 198) 9 n_.Target .i64 (i1 : Int) c (by kernel_rfl) (by kernel_rfl) h_c ?_)
                      refine seg 2 [.co [1, 1, 1, 1, 1, 0, 1, 0, 1, 1, 0, 0, 1, 0, 0, 1], .bl 3, .co [1, 1, 1, 1, 1, 0, 1, 0, 1, 1, 0, 0, 1, 1], .le 1, .bl 2, .le 0, .co [1, 1, 1, 1, 1, 1]] [(1, .pointer (some (⟨g1, 0, none⟩))), (4, .int .i64 (i1 : Int)), (199, .bool ((c.toNat : Int) == 0))] (by kernel_rfl) ?_
                      rcases condT hb_440 with ⟨hb443, hb_440⟩ | ⟨hb443, hb_440⟩
                      · rw [hb443]
                        refine seg 5 [.co [1, 1, 1, 1, 1, 0, 1, 0, 1, 1, 0, 0, 1, 0, 0, 1, 0, 1], .bl 3, .co [1, 1, 1, 1, 1, 0, 1, 0, 1, 1, 0, 0, 1, 1], .le 1, .bl 2, .le 0, .co [1, 1, 1, 1, 1, 1]] [(2, .int .i64 1)] (by kernel_rfl) ?_
                        refine retR [2] [.int .i64 1] (by kernel_rfl) (by kernel_rfl) (by kernel_rfl) ?_
                        obtain rfl : 1 = r := (hfr432 _ (hfin440 _ (Option.some.inj hb_440).symm).symm)
                        exact ⟨_, rfl, rfl, H.scalar⟩
                      · rw [hb443]
                        refine seg 8 [.le 1, .bl 2, .le 0, .co [1, 1, 1, 1, 1, 1]] [(1, .pointer (some (⟨g1, 0, none⟩))), (4, .int .i64 (IntKind.i64.wrap ((i1 : Int) + 1)))] (by kernel_rfl) ?_
                        have := l0_16
                        rw [show IntKind.i64.wrap ((i1 : Int) + 1) = ((i1 : Int) + 1) from w64 (by omega)]
                        refine leR (nk440, (i1 + 1)) (Nat.lt_succ_self _) ⟨hnx440 _ (Option.some.inj hb_440).symm, H⟩ (by kernel_rfl)
                    · rw [hb442]
                      have p442 := of_decide_eq_false hb442
                      refine seg 2 [.le 0, .co [1, 1, 1, 1, 1, 1]] [(1, .pointer (some (⟨g1, 0, none⟩)))] (by kernel_rfl) ?_
                      refine leR_up (k' := []) (by rfl) ?_
                      refine leJ () ⟨(hfin440 _ (Option.some.inj hb_440).symm).symm, H⟩ (by kernel_rfl)
                  rintro _ wj432 ⟨hy432, H⟩
                  have hf := hfl432 _ hy432
                  try dsimp only at hf
                  refine seg 4 [.op [1, 1, 1, 1, 1, 1, 0, 0] 1, .co [1, 1, 1, 1, 1, 1, 0, 1], .co [1, 1, 1, 1, 1, 1, 1]] [(1, .pointer (some (⟨g1, 0, none⟩))), (203, .pointer (some (⟨g1, 0, none⟩)))] (by kernel_rfl) ?_
                  refine st (ldR (some 204) 3 (⟨g1, 0, none⟩) (.int .i64 n_.Kind) (by kernel_rfl) (by kernel_rfl) (H.cellB 0 rfl rfl) ?_)
                  refine seg 2 [.op [1, 1, 1, 1, 1, 1, 0, 0] 4, .co [1, 1, 1, 1, 1, 1, 0, 1], .co [1, 1, 1, 1, 1, 1, 1]] [(1, .pointer (some (⟨g1, 0, none⟩))), (206, .bool (decide (n_.Kind > 3)))] (by kernel_rfl) ?_
                  rcases condT hf with ⟨hb444, hf⟩ | ⟨hb444, hf⟩
                  · rw [hb444]
                    have p444 := of_decide_eq_true hb444
                    refine seg 1 [.op [1, 1, 1, 1, 1, 1, 0, 0] 5, .co [1, 1, 1, 1, 1, 1, 0, 1], .co [1, 1, 1, 1, 1, 1, 1]] [(1, .pointer (some (⟨g1, 0, none⟩))), (206, .bool true), (207, .pointer (some (⟨g1, 17, none⟩)))] (by kernel_rfl) ?_
                    refine st (ldR (some 208) 3 (⟨g1, 17, none⟩) (.int .i64 n_.Dev) (by kernel_rfl) (by kernel_rfl) (H.cellB 0 rfl rfl) ?_)
                    refine st (callR (some 209) 55 #[.int .i64 n_.Dev, .int .i64 0, .int .i64 4294967295] Try.call55 (ref15_in_c H.has n_.Dev 0 4294967295) (by kernel_rfl) ?_)
                    rintro _ w445 ⟨rfl, hx445⟩
                    replace H := H.ex hx445
                    refine seg 3 [.op [1, 1, 1, 1, 1, 1, 0, 0] 10, .co [1, 1, 1, 1, 1, 1, 0, 1], .co [1, 1, 1, 1, 1, 1, 1]] [(1, .pointer (some (⟨g1, 0, none⟩))), (212, .bool (!(ref15_in n_.Dev 0 4294967295)))] (by kernel_rfl) ?_
                    rcases condT hf with ⟨hb446, hf⟩ | ⟨hb446, hf⟩
                    · rw [hb446]
                      refine seg 1 [.op [1, 1, 1, 1, 1, 1, 0, 0] 11, .co [1, 1, 1, 1, 1, 1, 0, 1], .co [1, 1, 1, 1, 1, 1, 1]] [(1, .pointer (some (⟨g1, 0, none⟩))), (212, .bool false), (213, .pointer (some (⟨g1, 0, none⟩)))] (by kernel_rfl) ?_
                      refine st (ldR (some 214) 3 (⟨g1, 0, none⟩) (.int .i64 n_.Kind) (by kernel_rfl) (by kernel_rfl) (H.cellB 0 rfl rfl) ?_)
                      refine seg 2 [.op [1, 1, 1, 1, 1, 1, 0, 0] 14, .co [1, 1, 1, 1, 1, 1, 0, 1], .co [1, 1, 1, 1, 1, 1, 1]] [(1, .pointer (some (⟨g1, 0, none⟩))), (212, .bool false), (216, .bool (decide (n_.Kind < 4)))] (by kernel_rfl) ?_
                      rcases condT hf with ⟨hb447, hf⟩ | ⟨hb447, hf⟩
                      · rw [hb447]
                        have p447 := of_decide_eq_true hb447
                        refine seg 1 [.op [1, 1, 1, 1, 1, 1, 0, 0] 15, .co [1, 1, 1, 1, 1, 1, 0, 1], .co [1, 1, 1, 1, 1, 1, 1]] [(212, .bool false), (216, .bool true), (217, .pointer (some (⟨g1, 17, none⟩)))] (by kernel_rfl) ?_
                        refine st (ldR (some 218) 3 (⟨g1, 17, none⟩) (.int .i64 n_.Dev) (by kernel_rfl) (by kernel_rfl) (H.cellB 0 rfl rfl) ?_)
                        refine seg 4 [.co [1, 1, 1, 1, 1, 1, 0, 1], .co [1, 1, 1, 1, 1, 1, 1]] [(221, .bool (n_.Dev != 0))] (by kernel_rfl) ?_
                        rcases condT hf with ⟨hb448, hf⟩ | ⟨hb448, hf⟩
                        · rw [hb448]
                          refine seg 5 [.co [1, 1, 1, 1, 1, 1, 0, 1, 0, 1], .co [1, 1, 1, 1, 1, 1, 1]] [(2, .int .i64 1)] (by kernel_rfl) ?_
                          refine retR [2] [.int .i64 1] (by kernel_rfl) (by kernel_rfl) (by kernel_rfl) ?_
                          obtain rfl : 1 = r := (Option.some.inj hf)
                          exact ⟨_, rfl, rfl, H.scalar⟩
                        · rw [hb448]
                          refine seg 6 [.co [1, 1, 1, 1, 1, 1, 1, 1]] [(2, .int .i64 0)] (by kernel_rfl) ?_
                          refine retR [2] [.int .i64 0] (by kernel_rfl) (by kernel_rfl) (by kernel_rfl) ?_
                          obtain rfl : 0 = r := (Option.some.inj hf)
                          exact ⟨_, rfl, rfl, H.scalar⟩
                      · rw [hb447]
                        have p447 := of_decide_eq_false hb447
                        refine seg 12 [.co [1, 1, 1, 1, 1, 1, 1, 1]] [(2, .int .i64 0)] (by kernel_rfl) ?_
                        refine retR [2] [.int .i64 0] (by kernel_rfl) (by kernel_rfl) (by kernel_rfl) ?_
                        obtain rfl : 0 = r := (Option.some.inj hf)
                        exact ⟨_, rfl, rfl, H.scalar⟩
                    · rw [hb446]
                      refine seg 15 [.co [1, 1, 1, 1, 1, 1, 0, 1, 0, 1], .co [1, 1, 1, 1, 1, 1, 1]] [(2, .int .i64 1)] (by kernel_rfl) ?_
                      refine retR [2] [.int .i64 1] (by kernel_rfl) (by kernel_rfl) (by kernel_rfl) ?_
                      obtain rfl : 1 = r := (Option.some.inj hf)
                      exact ⟨_, rfl, rfl, H.scalar⟩
                  · rw [hb444]
                    have p444 := of_decide_eq_false hb444
                    refine seg 7 [.op [1, 1, 1, 1, 1, 1, 0, 0] 11, .co [1, 1, 1, 1, 1, 1, 0, 1], .co [1, 1, 1, 1, 1, 1, 1]] [(1, .pointer (some (⟨g1, 0, none⟩))), (212, .bool false), (213, .pointer (some (⟨g1, 0, none⟩)))] (by kernel_rfl) ?_
                    refine st (ldR (some 214) 3 (⟨g1, 0, none⟩) (.int .i64 n_.Kind) (by kernel_rfl) (by kernel_rfl) (H.cellB 0 rfl rfl) ?_)
                    refine seg 2 [.op [1, 1, 1, 1, 1, 1, 0, 0] 14, .co [1, 1, 1, 1, 1, 1, 0, 1], .co [1, 1, 1, 1, 1, 1, 1]] [(1, .pointer (some (⟨g1, 0, none⟩))), (212, .bool false), (216, .bool (decide (n_.Kind < 4)))] (by kernel_rfl) ?_
                    rcases condT hf with ⟨hb449, hf⟩ | ⟨hb449, hf⟩
                    · rw [hb449]
                      have p449 := of_decide_eq_true hb449
                      refine seg 1 [.op [1, 1, 1, 1, 1, 1, 0, 0] 15, .co [1, 1, 1, 1, 1, 1, 0, 1], .co [1, 1, 1, 1, 1, 1, 1]] [(212, .bool false), (216, .bool true), (217, .pointer (some (⟨g1, 17, none⟩)))] (by kernel_rfl) ?_
                      refine st (ldR (some 218) 3 (⟨g1, 17, none⟩) (.int .i64 n_.Dev) (by kernel_rfl) (by kernel_rfl) (H.cellB 0 rfl rfl) ?_)
                      refine seg 4 [.co [1, 1, 1, 1, 1, 1, 0, 1], .co [1, 1, 1, 1, 1, 1, 1]] [(221, .bool (n_.Dev != 0))] (by kernel_rfl) ?_
                      rcases condT hf with ⟨hb450, hf⟩ | ⟨hb450, hf⟩
                      · rw [hb450]
                        refine seg 5 [.co [1, 1, 1, 1, 1, 1, 0, 1, 0, 1], .co [1, 1, 1, 1, 1, 1, 1]] [(2, .int .i64 1)] (by kernel_rfl) ?_
                        refine retR [2] [.int .i64 1] (by kernel_rfl) (by kernel_rfl) (by kernel_rfl) ?_
                        obtain rfl : 1 = r := (Option.some.inj hf)
                        exact ⟨_, rfl, rfl, H.scalar⟩
                      · rw [hb450]
                        refine seg 6 [.co [1, 1, 1, 1, 1, 1, 1, 1]] [(2, .int .i64 0)] (by kernel_rfl) ?_
                        refine retR [2] [.int .i64 0] (by kernel_rfl) (by kernel_rfl) (by kernel_rfl) ?_
                        obtain rfl : 0 = r := (Option.some.inj hf)
                        exact ⟨_, rfl, rfl, H.scalar⟩
                    · rw [hb449]
                      have p449 := of_decide_eq_false hb449
                      refine seg 12 [.co [1, 1, 1, 1, 1, 1, 1, 1]] [(2, .int .i64 0)] (by kernel_rfl) ?_
                      refine retR [2] [.int .i64 0] (by kernel_rfl) (by kernel_rfl) (by kernel_rfl) ?_
                      obtain rfl : 0 = r := (Option.some.inj hf)
                      exact ⟨_, rfl, rfl, H.scalar⟩
                · rw [hb422]
                  refine seg 5 [.co [1, 1, 1, 1, 1, 0, 1, 0, 0, 1, 0, 1], .co [1, 1, 1, 1, 1, 0, 1, 0, 1], .co [1, 1, 1, 1, 1, 1]] [(2, .int .i64 1)] (by kernel_rfl) ?_
                  refine retR [2] [.int .i64 1] (by kernel_rfl) (by kernel_rfl) (by kernel_rfl) ?_
                  obtain rfl : 1 = r := (Option.some.inj hf)
                  exact ⟨_, rfl, rfl, H.scalar⟩
              · rw [hb420]
                refine seg 4 [.op [1, 1, 1, 1, 1, 0, 1, 1, 0] 1, .co [1, 1, 1, 1, 1, 0, 1, 1, 1], .co [1, 1, 1, 1, 1, 1]] [(1, .pointer (some (⟨g1, 0, none⟩))), (200, .pointer (some (⟨g1, 16, none⟩)))] (by kernel_rfl) ?_
                refine st (ldR (some 201) 9 (⟨g1, 16, none⟩) (.string ⟨n_.Target.toArray⟩) (by kernel_rfl) (by kernel_rfl) (H.cellB 0 rfl rfl) ?_)
                refine seg 2 [.co [1, 1, 1, 1, 1, 0, 1, 1, 1], .co [1, 1, 1, 1, 1, 1]] [(1, .pointer (some (⟨g1, 0, none⟩))), (202, .bool (!((ByteArray.toList ⟨n_.Target.toArray⟩) == (ByteArray.toList ⟨([] : List UInt8).toArray⟩))))] (by kernel_rfl) ?_
                rw [sne_raw n_.Target ([] : List UInt8)]
                rcases condT hf with ⟨hb451, hf⟩ | ⟨hb451, hf⟩
                · rw [hb451]
                  refine seg 5 [.co [1, 1, 1, 1, 1, 0, 1, 1, 1, 0, 1], .co [1, 1, 1, 1, 1, 1]] [(2, .int .i64 1)] (by kernel_rfl) ?_
                  refine retR [2] [.int .i64 1] (by kernel_rfl) (by kernel_rfl) (by kernel_rfl) ?_
                  obtain rfl : 1 = r := (Option.some.inj hf)
                  exact ⟨_, rfl, rfl, H.scalar⟩
                · rw [hb451]
                  refine seg 6 [.op [1, 1, 1, 1, 1, 1, 0, 0] 1, .co [1, 1, 1, 1, 1, 1, 0, 1], .co [1, 1, 1, 1, 1, 1, 1]] [(1, .pointer (some (⟨g1, 0, none⟩))), (203, .pointer (some (⟨g1, 0, none⟩)))] (by kernel_rfl) ?_
                  refine st (ldR (some 204) 3 (⟨g1, 0, none⟩) (.int .i64 n_.Kind) (by kernel_rfl) (by kernel_rfl) (H.cellB 0 rfl rfl) ?_)
                  refine seg 2 [.op [1, 1, 1, 1, 1, 1, 0, 0] 4, .co [1, 1, 1, 1, 1, 1, 0, 1], .co [1, 1, 1, 1, 1, 1, 1]] [(1, .pointer (some (⟨g1, 0, none⟩))), (206, .bool (decide (n_.Kind > 3)))] (by kernel_rfl) ?_
                  rcases condT hf with ⟨hb452, hf⟩ | ⟨hb452, hf⟩
                  · rw [hb452]
                    have p452 := of_decide_eq_true hb452
                    refine seg 1 [.op [1, 1, 1, 1, 1, 1, 0, 0] 5, .co [1, 1, 1, 1, 1, 1, 0, 1], .co [1, 1, 1, 1, 1, 1, 1]] [(1, .pointer (some (⟨g1, 0, none⟩))), (206, .bool true), (207, .pointer (some (⟨g1, 17, none⟩)))] (by kernel_rfl) ?_
                    refine st (ldR (some 208) 3 (⟨g1, 17, none⟩) (.int .i64 n_.Dev) (by kernel_rfl) (by kernel_rfl) (H.cellB 0 rfl rfl) ?_)
                    refine st (callR (some 209) 55 #[.int .i64 n_.Dev, .int .i64 0, .int .i64 4294967295] Try.call55 (ref15_in_c H.has n_.Dev 0 4294967295) (by kernel_rfl) ?_)
                    rintro _ w453 ⟨rfl, hx453⟩
                    replace H := H.ex hx453
                    refine seg 3 [.op [1, 1, 1, 1, 1, 1, 0, 0] 10, .co [1, 1, 1, 1, 1, 1, 0, 1], .co [1, 1, 1, 1, 1, 1, 1]] [(1, .pointer (some (⟨g1, 0, none⟩))), (212, .bool (!(ref15_in n_.Dev 0 4294967295)))] (by kernel_rfl) ?_
                    rcases condT hf with ⟨hb454, hf⟩ | ⟨hb454, hf⟩
                    · rw [hb454]
                      refine seg 1 [.op [1, 1, 1, 1, 1, 1, 0, 0] 11, .co [1, 1, 1, 1, 1, 1, 0, 1], .co [1, 1, 1, 1, 1, 1, 1]] [(1, .pointer (some (⟨g1, 0, none⟩))), (212, .bool false), (213, .pointer (some (⟨g1, 0, none⟩)))] (by kernel_rfl) ?_
                      replace H : St w noF m m [blkI g1 [.int .i64 n_.Kind, .int .i64 n_.Mode, .int .i64 n_.Uid, .int .i64 n_.Gid, .int .i64 n_.Time, .int .i64 n_.Links, .int .i64 n_.Attrs, .int .i64 n_.Size, .int .i64 n_.Start, .slice A0_9 n_.Words.length c0_9, .int .i64 n_.Frag, .int .i64 n_.Off, .int .i64 n_.Tail, .int .i64 n_.Dir, .int .i64 n_.Bytes, .int .i64 n_.Parent, .string ⟨n_.Target.toArray⟩, .int .i64 n_.Dev] 46] w453 := H
                      refine st (ldR (some 214) 3 (⟨g1, 0, none⟩) (.int .i64 n_.Kind) (by kernel_rfl) (by kernel_rfl) (H.cellB 0 rfl rfl) ?_)
                      refine seg 2 [.op [1, 1, 1, 1, 1, 1, 0, 0] 14, .co [1, 1, 1, 1, 1, 1, 0, 1], .co [1, 1, 1, 1, 1, 1, 1]] [(1, .pointer (some (⟨g1, 0, none⟩))), (212, .bool false), (216, .bool (decide (n_.Kind < 4)))] (by kernel_rfl) ?_
                      rcases condT hf with ⟨hb455, hf⟩ | ⟨hb455, hf⟩
                      · rw [hb455]
                        have p455 := of_decide_eq_true hb455
                        refine seg 1 [.op [1, 1, 1, 1, 1, 1, 0, 0] 15, .co [1, 1, 1, 1, 1, 1, 0, 1], .co [1, 1, 1, 1, 1, 1, 1]] [(212, .bool false), (216, .bool true), (217, .pointer (some (⟨g1, 17, none⟩)))] (by kernel_rfl) ?_
                        refine st (ldR (some 218) 3 (⟨g1, 17, none⟩) (.int .i64 n_.Dev) (by kernel_rfl) (by kernel_rfl) (H.cellB 0 rfl rfl) ?_)
                        refine seg 4 [.co [1, 1, 1, 1, 1, 1, 0, 1], .co [1, 1, 1, 1, 1, 1, 1]] [(221, .bool (n_.Dev != 0))] (by kernel_rfl) ?_
                        rcases condT hf with ⟨hb456, hf⟩ | ⟨hb456, hf⟩
                        · rw [hb456]
                          refine seg 5 [.co [1, 1, 1, 1, 1, 1, 0, 1, 0, 1], .co [1, 1, 1, 1, 1, 1, 1]] [(2, .int .i64 1)] (by kernel_rfl) ?_
                          refine retR [2] [.int .i64 1] (by kernel_rfl) (by kernel_rfl) (by kernel_rfl) ?_
                          obtain rfl : 1 = r := (Option.some.inj hf)
                          exact ⟨_, rfl, rfl, H.scalar⟩
                        · rw [hb456]
                          refine seg 6 [.co [1, 1, 1, 1, 1, 1, 1, 1]] [(2, .int .i64 0)] (by kernel_rfl) ?_
                          refine retR [2] [.int .i64 0] (by kernel_rfl) (by kernel_rfl) (by kernel_rfl) ?_
                          obtain rfl : 0 = r := (Option.some.inj hf)
                          exact ⟨_, rfl, rfl, H.scalar⟩
                      · rw [hb455]
                        have p455 := of_decide_eq_false hb455
                        refine seg 12 [.co [1, 1, 1, 1, 1, 1, 1, 1]] [(2, .int .i64 0)] (by kernel_rfl) ?_
                        refine retR [2] [.int .i64 0] (by kernel_rfl) (by kernel_rfl) (by kernel_rfl) ?_
                        obtain rfl : 0 = r := (Option.some.inj hf)
                        exact ⟨_, rfl, rfl, H.scalar⟩
                    · rw [hb454]
                      refine seg 15 [.co [1, 1, 1, 1, 1, 1, 0, 1, 0, 1], .co [1, 1, 1, 1, 1, 1, 1]] [(2, .int .i64 1)] (by kernel_rfl) ?_
                      refine retR [2] [.int .i64 1] (by kernel_rfl) (by kernel_rfl) (by kernel_rfl) ?_
                      obtain rfl : 1 = r := (Option.some.inj hf)
                      exact ⟨_, rfl, rfl, H.scalar⟩
                  · rw [hb452]
                    have p452 := of_decide_eq_false hb452
                    refine seg 7 [.op [1, 1, 1, 1, 1, 1, 0, 0] 11, .co [1, 1, 1, 1, 1, 1, 0, 1], .co [1, 1, 1, 1, 1, 1, 1]] [(1, .pointer (some (⟨g1, 0, none⟩))), (212, .bool false), (213, .pointer (some (⟨g1, 0, none⟩)))] (by kernel_rfl) ?_
                    refine st (ldR (some 214) 3 (⟨g1, 0, none⟩) (.int .i64 n_.Kind) (by kernel_rfl) (by kernel_rfl) (H.cellB 0 rfl rfl) ?_)
                    refine seg 2 [.op [1, 1, 1, 1, 1, 1, 0, 0] 14, .co [1, 1, 1, 1, 1, 1, 0, 1], .co [1, 1, 1, 1, 1, 1, 1]] [(1, .pointer (some (⟨g1, 0, none⟩))), (212, .bool false), (216, .bool (decide (n_.Kind < 4)))] (by kernel_rfl) ?_
                    rcases condT hf with ⟨hb457, hf⟩ | ⟨hb457, hf⟩
                    · rw [hb457]
                      have p457 := of_decide_eq_true hb457
                      refine seg 1 [.op [1, 1, 1, 1, 1, 1, 0, 0] 15, .co [1, 1, 1, 1, 1, 1, 0, 1], .co [1, 1, 1, 1, 1, 1, 1]] [(212, .bool false), (216, .bool true), (217, .pointer (some (⟨g1, 17, none⟩)))] (by kernel_rfl) ?_
                      refine st (ldR (some 218) 3 (⟨g1, 17, none⟩) (.int .i64 n_.Dev) (by kernel_rfl) (by kernel_rfl) (H.cellB 0 rfl rfl) ?_)
                      refine seg 4 [.co [1, 1, 1, 1, 1, 1, 0, 1], .co [1, 1, 1, 1, 1, 1, 1]] [(221, .bool (n_.Dev != 0))] (by kernel_rfl) ?_
                      rcases condT hf with ⟨hb458, hf⟩ | ⟨hb458, hf⟩
                      · rw [hb458]
                        refine seg 5 [.co [1, 1, 1, 1, 1, 1, 0, 1, 0, 1], .co [1, 1, 1, 1, 1, 1, 1]] [(2, .int .i64 1)] (by kernel_rfl) ?_
                        refine retR [2] [.int .i64 1] (by kernel_rfl) (by kernel_rfl) (by kernel_rfl) ?_
                        obtain rfl : 1 = r := (Option.some.inj hf)
                        exact ⟨_, rfl, rfl, H.scalar⟩
                      · rw [hb458]
                        refine seg 6 [.co [1, 1, 1, 1, 1, 1, 1, 1]] [(2, .int .i64 0)] (by kernel_rfl) ?_
                        refine retR [2] [.int .i64 0] (by kernel_rfl) (by kernel_rfl) (by kernel_rfl) ?_
                        obtain rfl : 0 = r := (Option.some.inj hf)
                        exact ⟨_, rfl, rfl, H.scalar⟩
                    · rw [hb457]
                      have p457 := of_decide_eq_false hb457
                      refine seg 12 [.co [1, 1, 1, 1, 1, 1, 1, 1]] [(2, .int .i64 0)] (by kernel_rfl) ?_
                      refine retR [2] [.int .i64 0] (by kernel_rfl) (by kernel_rfl) (by kernel_rfl) ?_
                      obtain rfl : 0 = r := (Option.some.inj hf)
                      exact ⟨_, rfl, rfl, H.scalar⟩
  · rw [hb4]
    refine seg 5 [.co [1, 0, 1, 0, 1], .co [1, 1]] [(2, .int .i64 8)] (by kernel_rfl) ?_
    refine retR [2] [.int .i64 8] (by kernel_rfl) (by kernel_rfl) (by kernel_rfl) ?_
    obtain rfl : 8 = r := (Option.some.inj hf)
    exact ⟨_, rfl, rfl, H.scalar⟩
theorem law15_InodePlains_c {m : Mem} {w : World} (hm : Has m w) (n_ : TApiInode) (A0_9 : Option Addr) (c0_9 : Nat) (s0_9 : SlI rI64 m A0_9 c0_9 n_.Words) (l0_16 : n_.Target.length ≤ 9223372036854775807) (log : Int) (i : Int) {r : Bool} (hf : law15_InodePlains n_ log i = some r) :
    Calls Try.prog 7 #[.agg #[.int .i64 n_.Kind, .int .i64 n_.Mode, .int .i64 n_.Uid, .int .i64 n_.Gid, .int .i64 n_.Time, .int .i64 n_.Links, .int .i64 n_.Attrs, .int .i64 n_.Size, .int .i64 n_.Start, .slice A0_9 n_.Words.length c0_9, .int .i64 n_.Frag, .int .i64 n_.Off, .int .i64 n_.Tail, .int .i64 n_.Dir, .int .i64 n_.Bytes, .int .i64 n_.Parent, .string ⟨n_.Target.toArray⟩, .int .i64 n_.Dev], .int .i64 log, .int .i64 i] w fun e w' => ∃ v, e = .returned v ∧ v = .bool r ∧ Ex w w' := by
  unfold law15_InodePlains at hf
  have H := St.start0 hm
  refine callsR Try.func7 (by kernel_rfl) (by kernel_rfl) ?_
  refine seg 2 [.op [0] 0, .co [1]] [(0, .agg #[.int .i64 n_.Kind, .int .i64 n_.Mode, .int .i64 n_.Uid, .int .i64 n_.Gid, .int .i64 n_.Time, .int .i64 n_.Links, .int .i64 n_.Attrs, .int .i64 n_.Size, .int .i64 n_.Start, .slice A0_9 n_.Words.length c0_9, .int .i64 n_.Frag, .int .i64 n_.Off, .int .i64 n_.Tail, .int .i64 n_.Dir, .int .i64 n_.Bytes, .int .i64 n_.Parent, .string ⟨n_.Target.toArray⟩, .int .i64 n_.Dev]), (1, .int .i64 log), (2, .int .i64 i)] (by kernel_rfl) ?_
  refine st (newS (some 3) (fun g => .pointer (some ⟨g, 0, none⟩)) [.int .i64 n_.Kind, .int .i64 n_.Mode, .int .i64 n_.Uid, .int .i64 n_.Gid, .int .i64 n_.Time, .int .i64 n_.Links, .int .i64 n_.Attrs, .int .i64 n_.Size, .int .i64 n_.Start, .slice A0_9 n_.Words.length c0_9, .int .i64 n_.Frag, .int .i64 n_.Off, .int .i64 n_.Tail, .int .i64 n_.Dir, .int .i64 n_.Bytes, .int .i64 n_.Parent, .string ⟨n_.Target.toArray⟩, .int .i64 n_.Dev] 46 H (by kernel_rfl) ?_)
  intro g1 w1 H
  refine seg 6 [.op [1, 0, 0] 1, .co [1, 0, 1], .co [1, 1]] [(1, .int .i64 log), (2, .int .i64 i), (3, .pointer (some (⟨g1, 0, none⟩))), (12, .pointer (some (⟨g1, 9, none⟩)))] (by kernel_rfl) ?_
  refine st (ldR (some 13) 44 (⟨g1, 9, none⟩) (.slice A0_9 n_.Words.length c0_9) (by kernel_rfl) (by kernel_rfl) (H.cellB 0 rfl rfl) ?_)
  refine seg 3 [.op [1, 0, 0] 5, .co [1, 0, 1], .co [1, 1]] [(1, .int .i64 log), (2, .int .i64 i), (3, .pointer (some (⟨g1, 0, none⟩))), (16, .bool (decide ((n_.Words.length : Int) > 1000)))] (by kernel_rfl) ?_
  rcases condT hf with ⟨hb4, hf⟩ | ⟨hb4, hf⟩
  · rw [hb4]
    have p4 := of_decide_eq_true hb4
    refine seg 9 [.op [1, 0, 1, 0, 0] 0, .co [1, 0, 1, 0, 1], .co [1, 1]] [] (by kernel_rfl) ?_
    obtain ⟨live, h_live, hf⟩ := bindE hf
    refine st (callR (some 22) 23 #[] Try.call23 (law15_live_c H.has  h_live) (by kernel_rfl) ?_)
    rintro _ w5 ⟨rfl, hx5⟩
    replace H := H.ex hx5
    refine seg 2 [.co [1, 0, 1, 0, 1], .co [1, 1]] [(6, .bool live)] (by kernel_rfl) ?_
    refine retR [6] [.bool live] (by kernel_rfl) (by kernel_rfl) (by kernel_rfl) ?_
    have hret := (Option.some.inj hf)
    subst hret
    exact ⟨_, rfl, rfl, H.scalar⟩
  · rw [hb4]
    have p4 := of_decide_eq_false hb4
    refine seg 1 [.op [1, 0, 0] 6, .co [1, 0, 1], .co [1, 1]] [(1, .int .i64 log), (2, .int .i64 i), (3, .pointer (some (⟨g1, 0, none⟩))), (16, .bool false), (17, .pointer (some (⟨g1, 16, none⟩)))] (by kernel_rfl) ?_
    refine st (ldR (some 18) 9 (⟨g1, 16, none⟩) (.string ⟨n_.Target.toArray⟩) (by kernel_rfl) (by kernel_rfl) (H.cellB 0 rfl rfl) ?_)
    refine seg 4 [.co [1, 0, 1], .co [1, 1]] [(1, .int .i64 log), (2, .int .i64 i), (3, .pointer (some (⟨g1, 0, none⟩))), (21, .bool (decide ((n_.Target.length : Int) > 5000)))] (by kernel_rfl) ?_
    rcases condT hf with ⟨hb8, hf⟩ | ⟨hb8, hf⟩
    · rw [hb8]
      have p8 := of_decide_eq_true hb8
      refine seg 3 [.op [1, 0, 1, 0, 0] 0, .co [1, 0, 1, 0, 1], .co [1, 1]] [] (by kernel_rfl) ?_
      replace H : St w noF m m [] w1 := (H.drop 0 rfl)
      obtain ⟨live1, h_live1, hf⟩ := bindE hf
      refine st (callR (some 22) 23 #[] Try.call23 (law15_live_c H.has  h_live1) (by kernel_rfl) ?_)
      rintro _ w9 ⟨rfl, hx9⟩
      replace H := H.ex hx9
      refine seg 2 [.co [1, 0, 1, 0, 1], .co [1, 1]] [(6, .bool live1)] (by kernel_rfl) ?_
      refine retR [6] [.bool live1] (by kernel_rfl) (by kernel_rfl) (by kernel_rfl) ?_
      have hret := (Option.some.inj hf)
      subst hret
      exact ⟨_, rfl, rfl, H.scalar⟩
    · rw [hb8]
      have p8 := of_decide_eq_false hb8
      refine seg 4 [.op [1, 1, 0] 0, .co [1, 1, 1]] [(1, .int .i64 log), (2, .int .i64 i), (3, .pointer (some (⟨g1, 0, none⟩)))] (by kernel_rfl) ?_
      refine st (ldAggR (some 24) 46 (⟨g1, 0, none⟩) [.int .i64 n_.Kind, .int .i64 n_.Mode, .int .i64 n_.Uid, .int .i64 n_.Gid, .int .i64 n_.Time, .int .i64 n_.Links, .int .i64 n_.Attrs, .int .i64 n_.Size, .int .i64 n_.Start, .slice A0_9 n_.Words.length c0_9, .int .i64 n_.Frag, .int .i64 n_.Off, .int .i64 n_.Tail, .int .i64 n_.Dir, .int .i64 n_.Bytes, .int .i64 n_.Parent, .string ⟨n_.Target.toArray⟩, .int .i64 n_.Dev] (by kernel_rfl) (by kernel_rfl) (H.cellsB 0 rfl (by rfl)) ?_)
      refine seg 2 [.op [1, 1, 0] 3, .co [1, 1, 1]] [(1, .int .i64 log), (2, .int .i64 i), (3, .pointer (some (⟨g1, 0, none⟩))), (24, .agg #[.int .i64 n_.Kind, .int .i64 n_.Mode, .int .i64 n_.Uid, .int .i64 n_.Gid, .int .i64 n_.Time, .int .i64 n_.Links, .int .i64 n_.Attrs, .int .i64 n_.Size, .int .i64 n_.Start, .slice A0_9 n_.Words.length c0_9, .int .i64 n_.Frag, .int .i64 n_.Off, .int .i64 n_.Tail, .int .i64 n_.Dir, .int .i64 n_.Bytes, .int .i64 n_.Parent, .string ⟨n_.Target.toArray⟩, .int .i64 n_.Dev]), (25, .int .i64 log), (26, .int .i64 i)] (by kernel_rfl) ?_
      obtain ⟨plain, h_plain, hf⟩ := bindE hf
      refine st (callR (some 27) 24 #[.agg #[.int .i64 n_.Kind, .int .i64 n_.Mode, .int .i64 n_.Uid, .int .i64 n_.Gid, .int .i64 n_.Time, .int .i64 n_.Links, .int .i64 n_.Attrs, .int .i64 n_.Size, .int .i64 n_.Start, .slice A0_9 n_.Words.length c0_9, .int .i64 n_.Frag, .int .i64 n_.Off, .int .i64 n_.Tail, .int .i64 n_.Dir, .int .i64 n_.Bytes, .int .i64 n_.Parent, .string ⟨n_.Target.toArray⟩, .int .i64 n_.Dev], .int .i64 log, .int .i64 i] Try.call24 (inode_Plain_c H.has n_ A0_9 c0_9 s0_9 l0_16 log i h_plain) (by kernel_rfl) ?_)
      rintro _ w10 ⟨rfl, hx10⟩
      replace H := H.ex hx10
      refine seg 8 [.co [1, 1, 1, 0, 0], .co [1, 1, 1, 0, 1], .co [1, 1, 1, 1]] [(1, .int .i64 log), (2, .int .i64 i), (3, .pointer (some (⟨g1, 0, none⟩))), (7, .int .i64 plain.1), (8, .int .i64 plain.2)] (by kernel_rfl) ?_
      obtain ⟨y27, hp27, hf⟩ := bindE hf
      refine joinR 0 (fun (x : Bool) => [(1, .int .i64 log), (2, .int .i64 i), (3, .pointer (some (⟨g1, 0, none⟩))), (7, .int .i64 plain.1), (8, .int .i64 plain.2), (45, .bool x)]) (fun (x : Bool) (wj27 : World) => y27 = x ∧ St w noF m m [blkI g1 [.int .i64 n_.Kind, .int .i64 n_.Mode, .int .i64 n_.Uid, .int .i64 n_.Gid, .int .i64 n_.Time, .int .i64 n_.Links, .int .i64 n_.Attrs, .int .i64 n_.Size, .int .i64 n_.Start, .slice A0_9 n_.Words.length c0_9, .int .i64 n_.Frag, .int .i64 n_.Off, .int .i64 n_.Tail, .int .i64 n_.Dir, .int .i64 n_.Bytes, .int .i64 n_.Parent, .string ⟨n_.Target.toArray⟩, .int .i64 n_.Dev] 46] wj27) (by kernel_rfl) ?_ ?_
      · refine seg 2 [.op [1, 1, 1, 0, 0] 1, .le 0, .co [1, 1, 1, 0, 1], .co [1, 1, 1, 1]] [(1, .int .i64 log), (2, .int .i64 i), (3, .pointer (some (⟨g1, 0, none⟩))), (7, .int .i64 plain.1), (8, .int .i64 plain.2), (30, .pointer (some (⟨g1, 0, none⟩)))] (by kernel_rfl) ?_
        replace H : St w noF m m [blkI g1 [.int .i64 n_.Kind, .int .i64 n_.Mode, .int .i64 n_.Uid, .int .i64 n_.Gid, .int .i64 n_.Time, .int .i64 n_.Links, .int .i64 n_.Attrs, .int .i64 n_.Size, .int .i64 n_.Start, .slice A0_9 n_.Words.length c0_9, .int .i64 n_.Frag, .int .i64 n_.Off, .int .i64 n_.Tail, .int .i64 n_.Dir, .int .i64 n_.Bytes, .int .i64 n_.Parent, .string ⟨n_.Target.toArray⟩, .int .i64 n_.Dev] 46] w10 := H
        refine st (ldR (some 31) 3 (⟨g1, 0, none⟩) (.int .i64 n_.Kind) (by kernel_rfl) (by kernel_rfl) (H.cellB 0 rfl rfl) ?_)
        refine seg 2 [.op [1, 1, 1, 0, 0] 4, .le 0, .co [1, 1, 1, 0, 1], .co [1, 1, 1, 1]] [(1, .int .i64 log), (2, .int .i64 i), (3, .pointer (some (⟨g1, 0, none⟩))), (7, .int .i64 plain.1), (8, .int .i64 plain.2), (33, .bool (n_.Kind != 1))] (by kernel_rfl) ?_
        rcases condT hp27 with ⟨hb29, hp27⟩ | ⟨hb29, hp27⟩
        · rw [hb29]
          refine seg 13 [.le 0, .co [1, 1, 1, 0, 1], .co [1, 1, 1, 1]] [(1, .int .i64 log), (2, .int .i64 i), (3, .pointer (some (⟨g1, 0, none⟩))), (7, .int .i64 plain.1), (8, .int .i64 plain.2), (45, .bool true)] (by kernel_rfl) ?_
          refine leJ (true) ⟨(Option.some.inj hp27).symm, H⟩ (by kernel_rfl)
        · rw [hb29]
          refine st (ldAggR (some 34) 46 (⟨g1, 0, none⟩) [.int .i64 n_.Kind, .int .i64 n_.Mode, .int .i64 n_.Uid, .int .i64 n_.Gid, .int .i64 n_.Time, .int .i64 n_.Links, .int .i64 n_.Attrs, .int .i64 n_.Size, .int .i64 n_.Start, .slice A0_9 n_.Words.length c0_9, .int .i64 n_.Frag, .int .i64 n_.Off, .int .i64 n_.Tail, .int .i64 n_.Dir, .int .i64 n_.Bytes, .int .i64 n_.Parent, .string ⟨n_.Target.toArray⟩, .int .i64 n_.Dev] (by kernel_rfl) (by kernel_rfl) (H.cellsB 0 rfl (by rfl)) ?_)
          obtain ⟨check, h_check, hp27⟩ := bindE hp27
          refine st (callR (some 35) 25 #[.agg #[.int .i64 n_.Kind, .int .i64 n_.Mode, .int .i64 n_.Uid, .int .i64 n_.Gid, .int .i64 n_.Time, .int .i64 n_.Links, .int .i64 n_.Attrs, .int .i64 n_.Size, .int .i64 n_.Start, .slice A0_9 n_.Words.length c0_9, .int .i64 n_.Frag, .int .i64 n_.Off, .int .i64 n_.Tail, .int .i64 n_.Dir, .int .i64 n_.Bytes, .int .i64 n_.Parent, .string ⟨n_.Target.toArray⟩, .int .i64 n_.Dev]] Try.call25 (ref15_Check_c H.has n_ A0_9 c0_9 s0_9 l0_16 h_check) (by kernel_rfl) ?_)
          rintro _ w30 ⟨rfl, hx30⟩
          replace H := H.ex hx30
          refine seg 3 [.op [1, 1, 1, 0, 0] 9, .le 0, .co [1, 1, 1, 0, 1], .co [1, 1, 1, 1]] [(1, .int .i64 log), (2, .int .i64 i), (3, .pointer (some (⟨g1, 0, none⟩))), (7, .int .i64 plain.1), (8, .int .i64 plain.2), (38, .bool (check != 0))] (by kernel_rfl) ?_
          rcases condT hp27 with ⟨hb31, hp27⟩ | ⟨hb31, hp27⟩
          · rw [hb31]
            refine seg 8 [.le 0, .co [1, 1, 1, 0, 1], .co [1, 1, 1, 1]] [(1, .int .i64 log), (2, .int .i64 i), (3, .pointer (some (⟨g1, 0, none⟩))), (7, .int .i64 plain.1), (8, .int .i64 plain.2), (45, .bool true)] (by kernel_rfl) ?_
            refine leJ (true) ⟨(Option.some.inj hp27).symm, H⟩ (by kernel_rfl)
          · rw [hb31]
            refine seg 4 [.op [1, 1, 1, 0, 0] 13, .le 0, .co [1, 1, 1, 0, 1], .co [1, 1, 1, 1]] [(1, .int .i64 log), (2, .int .i64 i), (3, .pointer (some (⟨g1, 0, none⟩))), (7, .int .i64 plain.1), (8, .int .i64 plain.2), (42, .bool (decide (log < 12)))] (by kernel_rfl) ?_
            rcases condT hp27 with ⟨hb32, hp27⟩ | ⟨hb32, hp27⟩
            · rw [hb32]
              have p32 := of_decide_eq_true hb32
              refine seg 4 [.le 0, .co [1, 1, 1, 0, 1], .co [1, 1, 1, 1]] [(1, .int .i64 log), (2, .int .i64 i), (3, .pointer (some (⟨g1, 0, none⟩))), (7, .int .i64 plain.1), (8, .int .i64 plain.2), (45, .bool true)] (by kernel_rfl) ?_
              refine leJ (true) ⟨(Option.some.inj hp27).symm, H⟩ (by kernel_rfl)
            · rw [hb32]
              have p32 := of_decide_eq_false hb32
              refine seg 4 [.le 0, .co [1, 1, 1, 0, 1], .co [1, 1, 1, 1]] [(1, .int .i64 log), (2, .int .i64 i), (3, .pointer (some (⟨g1, 0, none⟩))), (7, .int .i64 plain.1), (8, .int .i64 plain.2), (45, .bool (decide (log > 20)))] (by kernel_rfl) ?_
              refine leJ ((decide (log > 20))) ⟨(Option.some.inj hp27).symm, H⟩ (by kernel_rfl)
      rintro t wj27 ⟨hy27, H⟩
      rw [hy27] at hf
      rcases condT hf with ⟨hb38, hf⟩ | ⟨hb38, hf⟩
      · rw [hb38]
        refine seg 6 [.op [1, 1, 1, 0, 1, 0, 0] 3, .co [1, 1, 1, 0, 1, 0, 1], .co [1, 1, 1, 1]] [(8, .int .i64 plain.2), (48, .bool (plain.1 == 0))] (by kernel_rfl) ?_
        rcases condT hf with ⟨hb39, hf⟩ | ⟨hb39, hf⟩
        · rw [hb39]
          refine seg 1 [.op [1, 1, 1, 0, 1, 0, 0] 4, .co [1, 1, 1, 0, 1, 0, 1], .co [1, 1, 1, 1]] [(48, .bool true), (49, .int .i64 plain.2)] (by kernel_rfl) ?_
          refine st (callR (some 50) 26 #[.int .i64 plain.2] Try.call26 (law15_num_c H.has plain.2) (by kernel_rfl) ?_)
          rintro _ w40 ⟨rfl, hx40⟩
          replace H := H.ex hx40
          refine seg 3 [.op [1, 1, 1, 0, 1, 0, 0] 8, .co [1, 1, 1, 0, 1, 0, 1], .co [1, 1, 1, 1]] [(53, .bool ((law15_num plain.2) == 1))] (by kernel_rfl) ?_
          rcases condT hf with ⟨hb41, hf⟩ | ⟨hb41, hf⟩
          · rw [hb41]
            replace H : St w noF m m [] w40 := (H.drop 0 rfl)
            obtain ⟨live2, h_live2, hf⟩ := bindE hf
            refine st (callR (some 54) 23 #[] Try.call23 (law15_live_c H.has  h_live2) (by kernel_rfl) ?_)
            rintro _ w42 ⟨rfl, hx42⟩
            replace H := H.ex hx42
            refine seg 3 [.co [1, 1, 1, 0, 1, 0, 1], .co [1, 1, 1, 1]] [(6, .bool live2)] (by kernel_rfl) ?_
            refine retR [6] [.bool live2] (by kernel_rfl) (by kernel_rfl) (by kernel_rfl) ?_
            have hret := (Option.some.inj hf)
            subst hret
            exact ⟨_, rfl, rfl, H.scalar⟩
          · rw [hb41]
            refine seg 4 [.co [1, 1, 1, 0, 1, 0, 1], .co [1, 1, 1, 1]] [(6, .bool false)] (by kernel_rfl) ?_
            refine retR [6] [.bool false] (by kernel_rfl) (by kernel_rfl) (by kernel_rfl) ?_
            have hret := (Option.some.inj hf)
            subst hret
            exact ⟨_, rfl, rfl, H.scalar⟩
        · rw [hb39]
          refine seg 9 [.co [1, 1, 1, 0, 1, 0, 1], .co [1, 1, 1, 1]] [(6, .bool false)] (by kernel_rfl) ?_
          refine retR [6] [.bool false] (by kernel_rfl) (by kernel_rfl) (by kernel_rfl) ?_
          have hret := (Option.some.inj hf)
          subst hret
          exact ⟨_, rfl, rfl, H.scalar⟩
      · rw [hb38]
        refine seg 11 [.co [1, 1, 1, 1, 1, 0, 1], .co [1, 1, 1, 1, 1, 1]] [(1, .int .i64 log), (2, .int .i64 i), (3, .pointer (some (⟨g1, 0, none⟩))), (7, .int .i64 plain.1), (8, .int .i64 plain.2), (9, .int .i64 1), (10, .int .i64 0)] (by kernel_rfl) ?_
        obtain ⟨y60, hp60, hf⟩ := bindE hf
        refine joinR 0 (fun (x : Int) => [(2, .int .i64 i), (3, .pointer (some (⟨g1, 0, none⟩))), (7, .int .i64 plain.1), (8, .int .i64 plain.2), (9, .int .i64 x)]) (fun (x : Int) (wj60 : World) => y60 = x ∧ St w noF m m [blkI g1 [.int .i64 n_.Kind, .int .i64 n_.Mode, .int .i64 n_.Uid, .int .i64 n_.Gid, .int .i64 n_.Time, .int .i64 n_.Links, .int .i64 n_.Attrs, .int .i64 n_.Size, .int .i64 n_.Start, .slice A0_9 n_.Words.length c0_9, .int .i64 n_.Frag, .int .i64 n_.Off, .int .i64 n_.Tail, .int .i64 n_.Dir, .int .i64 n_.Bytes, .int .i64 n_.Parent, .string ⟨n_.Target.toArray⟩, .int .i64 n_.Dev] 46] wj60) (by kernel_rfl) ?_ ?_
        · refine seg 1 [.co [1, 1, 1, 1, 1, 0, 1, 0], .bl 0, .le 0, .co [1, 1, 1, 1, 1, 1]] [(1, .int .i64 log), (2, .int .i64 i), (3, .pointer (some (⟨g1, 0, none⟩))), (7, .int .i64 plain.1), (8, .int .i64 plain.2), (9, .int .i64 1), (10, .int .i64 0)] (by kernel_rfl) ?_
          obtain ⟨nn68, hR68⟩ := loopO_iff.1 hp60
          refine loopR 1 (fun (x : Nat × Int × Int) => [(1, .int .i64 log), (2, .int .i64 i), (3, .pointer (some (⟨g1, 0, none⟩))), (7, .int .i64 plain.1), (8, .int .i64 plain.2), (9, .int .i64 x.2.1), (10, .int .i64 x.2.2)]) (fun (x : Nat × Int × Int) (wl68 : World) => iter (fun s => law15_InodePlains_l1 log s.1 s.2) x.1 (x.2.1, x.2.2) = some y60 ∧ St w noF m m [blkI g1 [.int .i64 n_.Kind, .int .i64 n_.Mode, .int .i64 n_.Uid, .int .i64 n_.Gid, .int .i64 n_.Time, .int .i64 n_.Links, .int .i64 n_.Attrs, .int .i64 n_.Size, .int .i64 n_.Start, .slice A0_9 n_.Words.length c0_9, .int .i64 n_.Frag, .int .i64 n_.Off, .int .i64 n_.Tail, .int .i64 n_.Dir, .int .i64 n_.Bytes, .int .i64 n_.Parent, .string ⟨n_.Target.toArray⟩, .int .i64 n_.Dev] 46] wl68) (fun (x : Nat × Int × Int) => x.1) (nn68, 1, 0) (by kernel_rfl) (by kernel_rfl) (by kernel_rfl) ?_ ?_
          · exact ⟨hR68, H⟩
          rintro ⟨n68, size, j⟩ wl68 ⟨hR68, H⟩
          try dsimp only at hR68
          try dsimp only at H
          obtain ⟨nk68, q68, rfl, hb_68, hnx68, hfin68⟩ := iterE hR68
          replace hb_68 : law15_InodePlains_l1 log size j = some q68 := hb_68
          unfold law15_InodePlains_l1 at hb_68
          refine seg 7 [.co [1, 1, 1, 1, 1, 0, 1, 0, 0, 0, 1], .co [1, 1, 1, 1, 1, 0, 1, 0, 0, 1], .le 1, .bl 0, .le 0, .co [1, 1, 1, 1, 1, 1]] [(1, .int .i64 log), (2, .int .i64 i), (3, .pointer (some (⟨g1, 0, none⟩))), (7, .int .i64 plain.1), (8, .int .i64 plain.2), (9, .int .i64 size), (10, .int .i64 j), (58, .bool (decide (j < log)))] (by kernel_rfl) ?_
          rcases condT hb_68 with ⟨hb70, hb_68⟩ | ⟨hb70, hb_68⟩
          · rw [hb70]
            have p70 := of_decide_eq_true hb70
            refine seg 15 [.le 1, .bl 0, .le 0, .co [1, 1, 1, 1, 1, 1]] [(1, .int .i64 log), (2, .int .i64 i), (3, .pointer (some (⟨g1, 0, none⟩))), (7, .int .i64 plain.1), (8, .int .i64 plain.2), (9, .int .i64 (IntKind.i64.wrap (size * 2))), (10, .int .i64 (IntKind.i64.wrap (j + 1)))] (by kernel_rfl) ?_
            refine leR (nk68, (IntKind.i64.wrap (size * 2)), (IntKind.i64.wrap (j + 1))) (Nat.lt_succ_self _) ⟨hnx68 _ (Option.some.inj hb_68).symm, H⟩ (by kernel_rfl)
          · rw [hb70]
            have p70 := of_decide_eq_false hb70
            refine seg 2 [.le 0, .co [1, 1, 1, 1, 1, 1]] [(2, .int .i64 i), (3, .pointer (some (⟨g1, 0, none⟩))), (7, .int .i64 plain.1), (8, .int .i64 plain.2), (9, .int .i64 size)] (by kernel_rfl) ?_
            refine leR_up (k' := []) (by rfl) ?_
            refine leJ (size) ⟨(hfin68 _ (Option.some.inj hb_68).symm).symm, H⟩ (by kernel_rfl)
        rintro size wj60 ⟨hy60, H⟩
        rw [hy60] at hf
        refine seg 2 [.co [1, 1, 1, 1, 1, 1, 0, 0], .co [1, 1, 1, 1, 1, 1, 0, 1], .co [1, 1, 1, 1, 1, 1, 1]] [(2, .int .i64 i), (3, .pointer (some (⟨g1, 0, none⟩))), (7, .int .i64 plain.1), (8, .int .i64 plain.2), (9, .int .i64 size)] (by kernel_rfl) ?_
        obtain ⟨y83, hp83, hf⟩ := ltE hf
        refine joinR 0 (fun (x : Bool) => [(2, .int .i64 i), (3, .pointer (some (⟨g1, 0, none⟩))), (7, .int .i64 plain.1), (8, .int .i64 plain.2), (9, .int .i64 size), (79, .bool x)]) (fun (x : Bool) (wj83 : World) => y83 = x ∧ St w noF m m [blkI g1 [.int .i64 n_.Kind, .int .i64 n_.Mode, .int .i64 n_.Uid, .int .i64 n_.Gid, .int .i64 n_.Time, .int .i64 n_.Links, .int .i64 n_.Attrs, .int .i64 n_.Size, .int .i64 n_.Start, .slice A0_9 n_.Words.length c0_9, .int .i64 n_.Frag, .int .i64 n_.Off, .int .i64 n_.Tail, .int .i64 n_.Dir, .int .i64 n_.Bytes, .int .i64 n_.Parent, .string ⟨n_.Target.toArray⟩, .int .i64 n_.Dev] 46] wj83) (by kernel_rfl) ?_ ?_
        · refine seg 4 [.op [1, 1, 1, 1, 1, 1, 0, 0] 3, .le 0, .co [1, 1, 1, 1, 1, 1, 0, 1], .co [1, 1, 1, 1, 1, 1, 1]] [(2, .int .i64 i), (3, .pointer (some (⟨g1, 0, none⟩))), (7, .int .i64 plain.1), (8, .int .i64 plain.2), (9, .int .i64 size), (65, .bool (decide (i < 0)))] (by kernel_rfl) ?_
          rcases condT hp83 with ⟨hb85, hp83⟩ | ⟨hb85, hp83⟩
          · rw [hb85]
            have p85 := of_decide_eq_true hb85
            refine seg 15 [.le 0, .co [1, 1, 1, 1, 1, 1, 0, 1], .co [1, 1, 1, 1, 1, 1, 1]] [(2, .int .i64 i), (3, .pointer (some (⟨g1, 0, none⟩))), (7, .int .i64 plain.1), (8, .int .i64 plain.2), (9, .int .i64 size), (79, .bool true)] (by kernel_rfl) ?_
            refine leJ (true) ⟨hp83.symm, H⟩ (by kernel_rfl)
          · rw [hb85]
            have p85 := of_decide_eq_false hb85
            refine seg 2 [.op [1, 1, 1, 1, 1, 1, 0, 0] 5, .le 0, .co [1, 1, 1, 1, 1, 1, 0, 1], .co [1, 1, 1, 1, 1, 1, 1]] [(2, .int .i64 i), (3, .pointer (some (⟨g1, 0, none⟩))), (7, .int .i64 plain.1), (8, .int .i64 plain.2), (9, .int .i64 size), (65, .bool false), (66, .int .i64 i), (67, .pointer (some (⟨g1, 9, none⟩)))] (by kernel_rfl) ?_
            refine st (ldR (some 68) 44 (⟨g1, 9, none⟩) (.slice A0_9 n_.Words.length c0_9) (by kernel_rfl) (by kernel_rfl) (H.cellB 0 rfl rfl) ?_)
            refine seg 4 [.op [1, 1, 1, 1, 1, 1, 0, 0] 10, .le 0, .co [1, 1, 1, 1, 1, 1, 0, 1], .co [1, 1, 1, 1, 1, 1, 1]] [(2, .int .i64 i), (3, .pointer (some (⟨g1, 0, none⟩))), (7, .int .i64 plain.1), (8, .int .i64 plain.2), (9, .int .i64 size), (72, .bool (decide (i ≥ (n_.Words.length : Int))))] (by kernel_rfl) ?_
            rcases condT hp83 with ⟨hb86, hp83⟩ | ⟨hb86, hp83⟩
            · rw [hb86]
              have p86 := of_decide_eq_true hb86
              refine seg 8 [.le 0, .co [1, 1, 1, 1, 1, 1, 0, 1], .co [1, 1, 1, 1, 1, 1, 1]] [(2, .int .i64 i), (3, .pointer (some (⟨g1, 0, none⟩))), (7, .int .i64 plain.1), (8, .int .i64 plain.2), (9, .int .i64 size), (79, .bool true)] (by kernel_rfl) ?_
              refine leJ (true) ⟨hp83.symm, H⟩ (by kernel_rfl)
            · rw [hb86]
              have p86 := of_decide_eq_false hb86
              refine seg 4 [.op [1, 1, 1, 1, 1, 1, 0, 0] 14, .le 0, .co [1, 1, 1, 1, 1, 1, 0, 1], .co [1, 1, 1, 1, 1, 1, 1]] [(2, .int .i64 i), (3, .pointer (some (⟨g1, 0, none⟩))), (7, .int .i64 plain.1), (8, .int .i64 plain.2), (9, .int .i64 size), (72, .bool false), (75, .int .i64 (IntKind.i64.wrap (i * size))), (76, .pointer (some (⟨g1, 7, none⟩)))] (by kernel_rfl) ?_
              refine st (ldR (some 77) 3 (⟨g1, 7, none⟩) (.int .i64 n_.Size) (by kernel_rfl) (by kernel_rfl) (H.cellB 0 rfl rfl) ?_)
              refine seg 3 [.le 0, .co [1, 1, 1, 1, 1, 1, 0, 1], .co [1, 1, 1, 1, 1, 1, 1]] [(2, .int .i64 i), (3, .pointer (some (⟨g1, 0, none⟩))), (7, .int .i64 plain.1), (8, .int .i64 plain.2), (9, .int .i64 size), (79, .bool (decide ((IntKind.i64.wrap (i * size)) ≥ n_.Size)))] (by kernel_rfl) ?_
              refine leJ ((decide ((IntKind.i64.wrap (i * size)) ≥ n_.Size))) ⟨hp83.symm, H⟩ (by kernel_rfl)
        rintro t1 wj83 ⟨hy83, H⟩
        rw [hy83] at hf
        rcases condT hf with ⟨hb92, hf⟩ | ⟨hb92, hf⟩
        · rw [hb92]
          refine seg 6 [.op [1, 1, 1, 1, 1, 1, 0, 1, 0, 0] 3, .co [1, 1, 1, 1, 1, 1, 0, 1, 0, 1], .co [1, 1, 1, 1, 1, 1, 1]] [(8, .int .i64 plain.2), (82, .bool (plain.1 == 0))] (by kernel_rfl) ?_
          rcases condT hf with ⟨hb93, hf⟩ | ⟨hb93, hf⟩
          · rw [hb93]
            refine seg 1 [.op [1, 1, 1, 1, 1, 1, 0, 1, 0, 0] 4, .co [1, 1, 1, 1, 1, 1, 0, 1, 0, 1], .co [1, 1, 1, 1, 1, 1, 1]] [(82, .bool true), (83, .int .i64 plain.2)] (by kernel_rfl) ?_
            refine st (callR (some 84) 26 #[.int .i64 plain.2] Try.call26 (law15_num_c H.has plain.2) (by kernel_rfl) ?_)
            rintro _ w94 ⟨rfl, hx94⟩
            replace H := H.ex hx94
            refine seg 3 [.op [1, 1, 1, 1, 1, 1, 0, 1, 0, 0] 8, .co [1, 1, 1, 1, 1, 1, 0, 1, 0, 1], .co [1, 1, 1, 1, 1, 1, 1]] [(87, .bool ((law15_num plain.2) == 9))] (by kernel_rfl) ?_
            rcases condT hf with ⟨hb95, hf⟩ | ⟨hb95, hf⟩
            · rw [hb95]
              replace H : St w noF m m [] w94 := (H.drop 0 rfl)
              obtain ⟨live3, h_live3, hf⟩ := bindE hf
              refine st (callR (some 88) 23 #[] Try.call23 (law15_live_c H.has  h_live3) (by kernel_rfl) ?_)
              rintro _ w96 ⟨rfl, hx96⟩
              replace H := H.ex hx96
              refine seg 3 [.co [1, 1, 1, 1, 1, 1, 0, 1, 0, 1], .co [1, 1, 1, 1, 1, 1, 1]] [(6, .bool live3)] (by kernel_rfl) ?_
              refine retR [6] [.bool live3] (by kernel_rfl) (by kernel_rfl) (by kernel_rfl) ?_
              have hret := (Option.some.inj hf)
              subst hret
              exact ⟨_, rfl, rfl, H.scalar⟩
            · rw [hb95]
              refine seg 4 [.co [1, 1, 1, 1, 1, 1, 0, 1, 0, 1], .co [1, 1, 1, 1, 1, 1, 1]] [(6, .bool false)] (by kernel_rfl) ?_
              refine retR [6] [.bool false] (by kernel_rfl) (by kernel_rfl) (by kernel_rfl) ?_
              have hret := (Option.some.inj hf)
              subst hret
              exact ⟨_, rfl, rfl, H.scalar⟩
          · rw [hb93]
            refine seg 9 [.co [1, 1, 1, 1, 1, 1, 0, 1, 0, 1], .co [1, 1, 1, 1, 1, 1, 1]] [(6, .bool false)] (by kernel_rfl) ?_
            refine retR [6] [.bool false] (by kernel_rfl) (by kernel_rfl) (by kernel_rfl) ?_
            have hret := (Option.some.inj hf)
            subst hret
            exact ⟨_, rfl, rfl, H.scalar⟩
        · rw [hb92]
          refine seg 5 [.op [1, 1, 1, 1, 1, 1, 1, 0] 1, .co [1, 1, 1, 1, 1, 1, 1, 1]] [(2, .int .i64 i), (7, .int .i64 plain.1), (8, .int .i64 plain.2), (9, .int .i64 size), (90, .pointer (some (⟨g1, 7, none⟩)))] (by kernel_rfl) ?_
          refine st (ldR (some 91) 3 (⟨g1, 7, none⟩) (.int .i64 n_.Size) (by kernel_rfl) (by kernel_rfl) (H.cellB 0 rfl rfl) ?_)
          refine seg 13 [.co [1, 1, 1, 1, 1, 1, 1, 1, 0, 1], .co [1, 1, 1, 1, 1, 1, 1, 1, 1]] [(7, .int .i64 plain.1), (8, .int .i64 plain.2), (9, .int .i64 size), (11, .int .i64 (IntKind.i64.wrap (n_.Size - (IntKind.i64.wrap (i * size))))), (98, .bool (decide ((IntKind.i64.wrap (n_.Size - (IntKind.i64.wrap (i * size)))) > size)))] (by kernel_rfl) ?_
          rcases condT hf with ⟨hb106, hf⟩ | ⟨hb106, hf⟩
          · rw [hb106]
            have p106 := of_decide_eq_true hb106
            refine seg 11 [.op [1, 1, 1, 1, 1, 1, 1, 1, 1, 0] 4, .co [1, 1, 1, 1, 1, 1, 1, 1, 1, 1]] [(8, .int .i64 plain.2), (103, .bool (plain.1 == size))] (by kernel_rfl) ?_
            rcases condT hf with ⟨hb107, hf⟩ | ⟨hb107, hf⟩
            · rw [hb107]
              refine seg 1 [.op [1, 1, 1, 1, 1, 1, 1, 1, 1, 0] 5, .co [1, 1, 1, 1, 1, 1, 1, 1, 1, 1]] [(103, .bool true), (104, .int .i64 plain.2)] (by kernel_rfl) ?_
              refine st (callR (some 105) 26 #[.int .i64 plain.2] Try.call26 (law15_num_c H.has plain.2) (by kernel_rfl) ?_)
              rintro _ w108 ⟨rfl, hx108⟩
              replace H := H.ex hx108
              refine seg 3 [.op [1, 1, 1, 1, 1, 1, 1, 1, 1, 0] 9, .co [1, 1, 1, 1, 1, 1, 1, 1, 1, 1]] [(108, .bool ((law15_num plain.2) == 0))] (by kernel_rfl) ?_
              rcases condT hf with ⟨hb109, hf⟩ | ⟨hb109, hf⟩
              · rw [hb109]
                obtain ⟨live4, h_live4, hf⟩ := bindE hf
                refine st (callR (some 109) 23 #[] Try.call23 (law15_live_c H.has  h_live4) (by kernel_rfl) ?_)
                rintro _ w110 ⟨rfl, hx110⟩
                replace H := H.ex hx110
                refine seg 3 [.co [1, 1, 1, 1, 1, 1, 1, 1, 1, 1]] [(6, .bool live4)] (by kernel_rfl) ?_
                refine retR [6] [.bool live4] (by kernel_rfl) (by kernel_rfl) (by kernel_rfl) ?_
                have hret := (Option.some.inj hf)
                subst hret
                exact ⟨_, rfl, rfl, H.scalar⟩
              · rw [hb109]
                refine seg 4 [.co [1, 1, 1, 1, 1, 1, 1, 1, 1, 1]] [(6, .bool false)] (by kernel_rfl) ?_
                refine retR [6] [.bool false] (by kernel_rfl) (by kernel_rfl) (by kernel_rfl) ?_
                have hret := (Option.some.inj hf)
                subst hret
                exact ⟨_, rfl, rfl, H.scalar⟩
            · rw [hb107]
              refine seg 9 [.co [1, 1, 1, 1, 1, 1, 1, 1, 1, 1]] [(6, .bool false)] (by kernel_rfl) ?_
              refine retR [6] [.bool false] (by kernel_rfl) (by kernel_rfl) (by kernel_rfl) ?_
              have hret := (Option.some.inj hf)
              subst hret
              exact ⟨_, rfl, rfl, H.scalar⟩
          · rw [hb106]
            have p106 := of_decide_eq_false hb106
            refine seg 8 [.op [1, 1, 1, 1, 1, 1, 1, 1, 1, 0] 4, .co [1, 1, 1, 1, 1, 1, 1, 1, 1, 1]] [(8, .int .i64 plain.2), (103, .bool (plain.1 == (IntKind.i64.wrap (n_.Size - (IntKind.i64.wrap (i * size))))))] (by kernel_rfl) ?_
            rcases condT hf with ⟨hb111, hf⟩ | ⟨hb111, hf⟩
            · rw [hb111]
              refine seg 1 [.op [1, 1, 1, 1, 1, 1, 1, 1, 1, 0] 5, .co [1, 1, 1, 1, 1, 1, 1, 1, 1, 1]] [(103, .bool true), (104, .int .i64 plain.2)] (by kernel_rfl) ?_
              refine st (callR (some 105) 26 #[.int .i64 plain.2] Try.call26 (law15_num_c H.has plain.2) (by kernel_rfl) ?_)
              rintro _ w112 ⟨rfl, hx112⟩
              replace H := H.ex hx112
              refine seg 3 [.op [1, 1, 1, 1, 1, 1, 1, 1, 1, 0] 9, .co [1, 1, 1, 1, 1, 1, 1, 1, 1, 1]] [(108, .bool ((law15_num plain.2) == 0))] (by kernel_rfl) ?_
              rcases condT hf with ⟨hb113, hf⟩ | ⟨hb113, hf⟩
              · rw [hb113]
                replace H : St w noF m m [] w112 := (H.drop 0 rfl)
                obtain ⟨live5, h_live5, hf⟩ := bindE hf
                refine st (callR (some 109) 23 #[] Try.call23 (law15_live_c H.has  h_live5) (by kernel_rfl) ?_)
                rintro _ w114 ⟨rfl, hx114⟩
                replace H := H.ex hx114
                refine seg 3 [.co [1, 1, 1, 1, 1, 1, 1, 1, 1, 1]] [(6, .bool live5)] (by kernel_rfl) ?_
                refine retR [6] [.bool live5] (by kernel_rfl) (by kernel_rfl) (by kernel_rfl) ?_
                have hret := (Option.some.inj hf)
                subst hret
                exact ⟨_, rfl, rfl, H.scalar⟩
              · rw [hb113]
                refine seg 4 [.co [1, 1, 1, 1, 1, 1, 1, 1, 1, 1]] [(6, .bool false)] (by kernel_rfl) ?_
                refine retR [6] [.bool false] (by kernel_rfl) (by kernel_rfl) (by kernel_rfl) ?_
                have hret := (Option.some.inj hf)
                subst hret
                exact ⟨_, rfl, rfl, H.scalar⟩
            · rw [hb111]
              refine seg 9 [.co [1, 1, 1, 1, 1, 1, 1, 1, 1, 1]] [(6, .bool false)] (by kernel_rfl) ?_
              refine retR [6] [.bool false] (by kernel_rfl) (by kernel_rfl) (by kernel_rfl) ?_
              have hret := (Option.some.inj hf)
              subst hret
              exact ⟨_, rfl, rfl, H.scalar⟩
theorem inode_Size_c {m : Mem} {w : World} (hm : Has m w) (n_ : TApiInode) (A0_9 : Option Addr) (c0_9 : Nat) (s0_9 : SlI rI64 m A0_9 c0_9 n_.Words) (l0_16 : n_.Target.length ≤ 9223372036854775807) {r : Int} (hf : inode_Size n_ = some r) :
    Calls Try.prog 29 #[.agg #[.int .i64 n_.Kind, .int .i64 n_.Mode, .int .i64 n_.Uid, .int .i64 n_.Gid, .int .i64 n_.Time, .int .i64 n_.Links, .int .i64 n_.Attrs, .int .i64 n_.Size, .int .i64 n_.Start, .slice A0_9 n_.Words.length c0_9, .int .i64 n_.Frag, .int .i64 n_.Off, .int .i64 n_.Tail, .int .i64 n_.Dir, .int .i64 n_.Bytes, .int .i64 n_.Parent, .string ⟨n_.Target.toArray⟩, .int .i64 n_.Dev]] w fun e w' => ∃ v, e = .returned v ∧ v = .int .i64 r ∧ Ex w w' := by
  unfold inode_Size at hf
  have H := St.start0 hm
  refine callsR Try.func29 (by kernel_rfl) (by kernel_rfl) ?_
  refine seg 2 [.op [0] 0, .co [1]] [(0, .agg #[.int .i64 n_.Kind, .int .i64 n_.Mode, .int .i64 n_.Uid, .int .i64 n_.Gid, .int .i64 n_.Time, .int .i64 n_.Links, .int .i64 n_.Attrs, .int .i64 n_.Size, .int .i64 n_.Start, .slice A0_9 n_.Words.length c0_9, .int .i64 n_.Frag, .int .i64 n_.Off, .int .i64 n_.Tail, .int .i64 n_.Dir, .int .i64 n_.Bytes, .int .i64 n_.Parent, .string ⟨n_.Target.toArray⟩, .int .i64 n_.Dev])] (by kernel_rfl) ?_
  refine st (newS (some 1) (fun g => .pointer (some ⟨g, 0, none⟩)) [.int .i64 n_.Kind, .int .i64 n_.Mode, .int .i64 n_.Uid, .int .i64 n_.Gid, .int .i64 n_.Time, .int .i64 n_.Links, .int .i64 n_.Attrs, .int .i64 n_.Size, .int .i64 n_.Start, .slice A0_9 n_.Words.length c0_9, .int .i64 n_.Frag, .int .i64 n_.Off, .int .i64 n_.Tail, .int .i64 n_.Dir, .int .i64 n_.Bytes, .int .i64 n_.Parent, .string ⟨n_.Target.toArray⟩, .int .i64 n_.Dev] 46 H (by kernel_rfl) ?_)
  intro g1 w1 H
  refine seg 5 [.op [1, 0, 0] 0, .co [1, 0, 1], .co [1, 1]] [(1, .pointer (some (⟨g1, 0, none⟩)))] (by kernel_rfl) ?_
  refine st (ldAggR (some 3) 46 (⟨g1, 0, none⟩) [.int .i64 n_.Kind, .int .i64 n_.Mode, .int .i64 n_.Uid, .int .i64 n_.Gid, .int .i64 n_.Time, .int .i64 n_.Links, .int .i64 n_.Attrs, .int .i64 n_.Size, .int .i64 n_.Start, .slice A0_9 n_.Words.length c0_9, .int .i64 n_.Frag, .int .i64 n_.Off, .int .i64 n_.Tail, .int .i64 n_.Dir, .int .i64 n_.Bytes, .int .i64 n_.Parent, .string ⟨n_.Target.toArray⟩, .int .i64 n_.Dev] (by kernel_rfl) (by kernel_rfl) (H.cellsB 0 rfl (by rfl)) ?_)
  obtain ⟨check, h_check, hf⟩ := bindE hf
  refine st (callR (some 4) 28 #[.agg #[.int .i64 n_.Kind, .int .i64 n_.Mode, .int .i64 n_.Uid, .int .i64 n_.Gid, .int .i64 n_.Time, .int .i64 n_.Links, .int .i64 n_.Attrs, .int .i64 n_.Size, .int .i64 n_.Start, .slice A0_9 n_.Words.length c0_9, .int .i64 n_.Frag, .int .i64 n_.Off, .int .i64 n_.Tail, .int .i64 n_.Dir, .int .i64 n_.Bytes, .int .i64 n_.Parent, .string ⟨n_.Target.toArray⟩, .int .i64 n_.Dev]] Try.call28 (inode_Check_c H.has n_ A0_9 c0_9 s0_9 l0_16 h_check) (by kernel_rfl) ?_)
  rintro _ w2 ⟨rfl, hx2⟩
  replace H := H.ex hx2
  refine seg 2 [.co [1, 0, 1], .co [1, 1]] [(1, .pointer (some (⟨g1, 0, none⟩))), (5, .bool (check != 0))] (by kernel_rfl) ?_
  rcases condT hf with ⟨hb4, hf⟩ | ⟨hb4, hf⟩
  · rw [hb4]
    refine seg 5 [.co [1, 0, 1, 0, 1], .co [1, 1]] [(2, .int .i64 0)] (by kernel_rfl) ?_
    refine retR [2] [.int .i64 0] (by kernel_rfl) (by kernel_rfl) (by kernel_rfl) ?_
    obtain rfl : 0 = r := (Option.some.inj hf)
    exact ⟨_, rfl, rfl, H.scalar⟩
  · rw [hb4]
    refine seg 6 [.op [1, 1, 0, 0] 1, .co [1, 1, 0, 1], .co [1, 1, 1]] [(1, .pointer (some (⟨g1, 0, none⟩))), (6, .pointer (some (⟨g1, 0, none⟩)))] (by kernel_rfl) ?_
    refine st (ldR (some 7) 3 (⟨g1, 0, none⟩) (.int .i64 n_.Kind) (by kernel_rfl) (by kernel_rfl) (H.cellB 0 rfl rfl) ?_)
    refine seg 7 [.co [1, 1, 0, 1, 0, 1], .bl 0, .co [1, 1, 1]] [(1, .pointer (some (⟨g1, 0, none⟩))), (7, .int .i64 n_.Kind), (8, .bool (n_.Kind == 1))] (by kernel_rfl) ?_
    rcases condT hf with ⟨hb14, hf⟩ | ⟨hb14, hf⟩
    · rw [hb14]
      refine seg 4 [.op [1, 1, 0, 1, 0, 1, 0, 0] 1, .co [1, 1, 0, 1, 0, 1, 0, 1], .bl 0, .co [1, 1, 1]] [(10, .pointer (some (⟨g1, 9, none⟩)))] (by kernel_rfl) ?_
      refine st (ldR (some 11) 44 (⟨g1, 9, none⟩) (.slice A0_9 n_.Words.length c0_9) (by kernel_rfl) (by kernel_rfl) (H.cellB 0 rfl rfl) ?_)
      refine seg 5 [.co [1, 1, 0, 1, 0, 1, 0, 1], .bl 0, .co [1, 1, 1]] [(2, .int .i64 (IntKind.i64.wrap (48 + (IntKind.i64.wrap (4 * (n_.Words.length : Int))))))] (by kernel_rfl) ?_
      refine retR [2] [.int .i64 (IntKind.i64.wrap (48 + (IntKind.i64.wrap (4 * (n_.Words.length : Int)))))] (by kernel_rfl) (by kernel_rfl) (by kernel_rfl) ?_
      obtain rfl : (IntKind.i64.wrap (48 + (IntKind.i64.wrap (4 * (n_.Words.length : Int))))) = r := (Option.some.inj hf)
      exact ⟨_, rfl, rfl, H.scalar⟩
    · rw [hb14]
      refine seg 6 [.co [1, 1, 0, 1, 0, 1, 1, 1], .bl 0, .co [1, 1, 1]] [(1, .pointer (some (⟨g1, 0, none⟩))), (7, .int .i64 n_.Kind), (15, .bool (n_.Kind == 2))] (by kernel_rfl) ?_
      rcases condT hf with ⟨hb15, hf⟩ | ⟨hb15, hf⟩
      · rw [hb15]
        refine seg 5 [.co [1, 1, 0, 1, 0, 1, 1, 1, 0, 1], .bl 0, .co [1, 1, 1]] [(2, .int .i64 32)] (by kernel_rfl) ?_
        refine retR [2] [.int .i64 32] (by kernel_rfl) (by kernel_rfl) (by kernel_rfl) ?_
        obtain rfl : 32 = r := (Option.some.inj hf)
        exact ⟨_, rfl, rfl, H.scalar⟩
      · rw [hb15]
        refine seg 6 [.co [1, 1, 0, 1, 0, 1, 1, 1, 1, 1], .bl 0, .co [1, 1, 1]] [(1, .pointer (some (⟨g1, 0, none⟩))), (17, .bool (n_.Kind == 3))] (by kernel_rfl) ?_
        rcases condT hf with ⟨hb16, hf⟩ | ⟨hb16, hf⟩
        · rw [hb16]
          refine seg 4 [.op [1, 1, 0, 1, 0, 1, 1, 1, 1, 1, 0, 0] 1, .co [1, 1, 0, 1, 0, 1, 1, 1, 1, 1, 0, 1], .bl 0, .co [1, 1, 1]] [(19, .pointer (some (⟨g1, 16, none⟩)))] (by kernel_rfl) ?_
          refine st (ldR (some 20) 9 (⟨g1, 16, none⟩) (.string ⟨n_.Target.toArray⟩) (by kernel_rfl) (by kernel_rfl) (H.cellB 0 rfl rfl) ?_)
          refine seg 4 [.co [1, 1, 0, 1, 0, 1, 1, 1, 1, 1, 0, 1], .bl 0, .co [1, 1, 1]] [(2, .int .i64 (IntKind.i64.wrap (22 + (n_.Target.length : Int))))] (by kernel_rfl) ?_
          refine retR [2] [.int .i64 (IntKind.i64.wrap (22 + (n_.Target.length : Int)))] (by kernel_rfl) (by kernel_rfl) (by kernel_rfl) ?_
          obtain rfl : (IntKind.i64.wrap (22 + (n_.Target.length : Int))) = r := (Option.some.inj hf)
          exact ⟨_, rfl, rfl, H.scalar⟩
        · rw [hb16]
          refine seg 7 [.co [1, 1, 1, 1]] [(2, .int .i64 24)] (by kernel_rfl) ?_
          refine retR [2] [.int .i64 24] (by kernel_rfl) (by kernel_rfl) (by kernel_rfl) ?_
          obtain rfl : 24 = r := (Option.some.inj hf)
          exact ⟨_, rfl, rfl, H.scalar⟩
theorem ref01_Store_c {m : Mem} {w : World} (hm : Has m w) (n_ : UInt64) (w_ : Int) {r : (List UInt8)} (hf : ref01_Store n_ w_ = some r) :
    Calls Try.prog 46 #[.int .u64 (n_.toNat : Int), .int .i64 w_] w fun e w' => ∃ v, e = .returned v ∧ ∃ Az_0 : Option Addr, ∃ cz_0 : Nat, ∃ m' : Mem, v = .slice Az_0 r.length cz_0 ∧ St w noF m m' [rowI rU8 5 Az_0 cz_0 r] w' := by
  unfold ref01_Store at hf
  have H := St.start0 hm
  refine callsR Try.func46 (by kernel_rfl) (by kernel_rfl) ?_
  refine seg 13 [.co [1, 1, 0, 1], .co [1, 1, 1]] [(0, .int .u64 (n_.toNat : Int)), (1, .int .i64 w_), (5, .slice none 0 0), (6, .int .i64 0)] (by kernel_rfl) ?_
  obtain ⟨y36, hp36, hf⟩ := bindE hf
  refine joinR 0 (fun (x : (List UInt8) × Option Addr × Nat) => [(5, .slice (x.2.1) x.1.length (x.2.2))]) (fun (x : (List UInt8) × Option Addr × Nat) (wj36 : World) => y36 = x.1 ∧ St w noF m m [rowI rU8 5 (x.2.1) (x.2.2) x.1] wj36) (by kernel_rfl) ?_ ?_
  · refine seg 1 [.co [1, 1, 0, 1, 0], .bl 0, .le 0, .co [1, 1, 1]] [(0, .int .u64 (n_.toNat : Int)), (1, .int .i64 w_), (5, .slice none 0 0), (6, .int .i64 0)] (by kernel_rfl) ?_
    have H := H.nilR rU8 5
    obtain ⟨nn50, hR50⟩ := loopO_iff.1 hp36
    refine loopR 1 (fun (x : Nat × UInt64 × (List UInt8) × Int × Option Addr × Nat) => [(0, .int .u64 (x.2.1.toNat : Int)), (1, .int .i64 w_), (5, .slice (x.2.2.2.2.1) x.2.2.1.length (x.2.2.2.2.2)), (6, .int .i64 x.2.2.2.1)]) (fun (x : Nat × UInt64 × (List UInt8) × Int × Option Addr × Nat) (wl50 : World) => iter (fun s => ref01_Store_l1 w_ s.1 s.2.1 s.2.2) x.1 (x.2.1, x.2.2.1, x.2.2.2.1) = some y36 ∧ St w noF m m [rowI rU8 5 (x.2.2.2.2.1) (x.2.2.2.2.2) x.2.2.1] wl50) (fun (x : Nat × UInt64 × (List UInt8) × Int × Option Addr × Nat) => x.1) (nn50, n_, [], 0, none, 0) (by kernel_rfl) (by kernel_rfl) (by kernel_rfl) ?_ ?_
    · exact ⟨hR50, H⟩
    rintro ⟨n50, n_1, b, i, A_1_51, c_2_51⟩ wl50 ⟨hR50, H⟩
    try dsimp only at hR50
    try dsimp only at H
    obtain ⟨nk50, q50, rfl, hb_50, hnx50, hfin50⟩ := iterE hR50
    replace hb_50 : ref01_Store_l1 w_ n_1 b i = some q50 := hb_50
    unfold ref01_Store_l1 at hb_50
    refine seg 7 [.co [1, 1, 0, 1, 0, 0, 0, 1], .co [1, 1, 0, 1, 0, 0, 1], .le 1, .bl 0, .le 0, .co [1, 1, 1]] [(0, .int .u64 (n_1.toNat : Int)), (1, .int .i64 w_), (5, .slice A_1_51 b.length c_2_51), (6, .int .i64 i), (9, .bool (decide (i < w_)))] (by kernel_rfl) ?_
    rcases condT hb_50 with ⟨hb52, hb_50⟩ | ⟨hb52, hb_50⟩
    · rw [hb52]
      have p52 := of_decide_eq_true hb52
      refine seg 10 [.op [1, 1, 0, 1, 0, 0, 1, 0, 0, 0] 4, .co [1, 1, 0, 1, 0, 0, 1, 0, 0, 1], .bl 1, .co [1, 1, 0, 1, 0, 0, 1, 1], .le 1, .bl 0, .le 0, .co [1, 1, 1]] [(0, .int .u64 (n_1.toNat : Int)), (1, .int .i64 w_), (6, .int .i64 i), (12, .slice A_1_51 b.length c_2_51), (15, .int .u8 (IntKind.u8.wrap (Int.tmod (n_1.toNat : Int) 256)))] (by kernel_rfl) ?_
      rw [q64_rem n_1 (256 : UInt64) (n_1.toNat : Int) 256 (by rfl) (by rfl)]
      rw [q8_u64 (n_1 % (256 : UInt64))]
      replace H : St w noF m m [rowI rU8 5 A_1_51 c_2_51 b] wl50 := H
      refine st (newS (some 16) (fun g => .slice (some ⟨g, 0, none⟩) 1 1) [.int .u8 (((n_1 % (256 : UInt64)).toUInt8).toNat : Int)] 5 H (by kernel_rfl) ?_)
      intro g53 w53 H
      obtain ⟨b1, h_b1, hb_50⟩ := bindE hb_50
      refine st (appS (r := rU8) (some 17) 30 5 1 (.int .u8 0) 30 1 A_1_51 (some ⟨g53, 0, none⟩) c_2_51 1 1 b [(n_1 % (256 : UInt64)).toUInt8] b1 _ H rfl ⟨Try.underlying30, by kernel_rfl⟩ rfl (by decide) (by kernel_rfl) (Cs.of_blk (H.blk 0 rfl)) (Rows.u8.2 rfl) rfl h_b1 (by decide) (by decide) ?_)
      intro A54 c54 w54 H
      replace H := H.drop 0 rfl
      refine seg 13 [.le 1, .bl 0, .le 0, .co [1, 1, 1]] [(0, .int .u64 (IntKind.u64.wrap (Int.tdiv (n_1.toNat : Int) 256))), (1, .int .i64 w_), (5, .slice A54 b1.length c54), (6, .int .i64 (IntKind.i64.wrap (i + 1)))] (by kernel_rfl) ?_
      rw [q64_quo n_1 (256 : UInt64) (n_1.toNat : Int) 256 (by rfl) (by rfl)]
      refine leR (nk50, (n_1 / (256 : UInt64)), b1, (IntKind.i64.wrap (i + 1)), A54, c54) (Nat.lt_succ_self _) ⟨hnx50 _ (Option.some.inj hb_50).symm, H⟩ (by kernel_rfl)
    · rw [hb52]
      have p52 := of_decide_eq_false hb52
      refine seg 2 [.le 0, .co [1, 1, 1]] [(5, .slice A_1_51 b.length c_2_51)] (by kernel_rfl) ?_
      refine leR_up (k' := []) (by rfl) ?_
      refine leJ (b, A_1_51, c_2_51) ⟨(hfin50 _ (Option.some.inj hb_50).symm).symm, H⟩ (by kernel_rfl)
  rintro ⟨b, A_1_37, c_2_37⟩ wj36 ⟨hy36, H⟩
  try dsimp only at hy36
  try dsimp only at H
  rw [hy36] at hf
  refine seg 5 [.co [1, 1, 1, 1]] [(4, .slice A_1_37 b.length c_2_37)] (by kernel_rfl) ?_
  refine retR [4] [.slice A_1_37 b.length c_2_37] (by kernel_rfl) (by kernel_rfl) (by kernel_rfl) ?_
  have hret := (Option.some.inj hf)
  subst hret
  exact ⟨_, rfl, A_1_37, c_2_37, m, rfl, H⟩
theorem ref15_four_c {m : Mem} {w : World} (hm : Has m w) (n_ : Int) {r : (List UInt8)} (hf : ref15_four n_ = some r) :
    Calls Try.prog 66 #[.int .i64 n_] w fun e w' => ∃ v, e = .returned v ∧ ∃ Az_0 : Option Addr, ∃ cz_0 : Nat, ∃ m' : Mem, v = .slice Az_0 r.length cz_0 ∧ St w noF m m' [rowI rU8 5 Az_0 cz_0 r] w' := by
  unfold ref15_four at hf
  have H := St.start0 hm
  refine callsR Try.func66 (by kernel_rfl) (by kernel_rfl) ?_
  refine seg 10 [.co [1, 0, 1], .co [1, 1]] [(0, .int .i64 n_), (4, .bool (n_ == (-1)))] (by kernel_rfl) ?_
  rcases condT hf with ⟨hb3, hf⟩ | ⟨hb3, hf⟩
  · rw [hb3]
    refine seg 3 [.op [1, 0, 1, 0, 0] 0, .co [1, 0, 1, 0, 1], .co [1, 1]] [] (by kernel_rfl) ?_
    refine st (newS (some 5) (fun g => .slice (some ⟨g, 0, none⟩) 4 4) [.int .u8 255, .int .u8 255, .int .u8 255, .int .u8 255] 5 H (by kernel_rfl) ?_)
    intro g4 w4 H
    refine seg 2 [.co [1, 0, 1, 0, 1], .co [1, 1]] [(2, .slice (some ⟨g4, 0, none⟩) 4 4)] (by kernel_rfl) ?_
    have H := H.toRow (r := rU8) (l := [(255 : UInt8), (255 : UInt8), (255 : UInt8), (255 : UInt8)]) 0 rfl (Rows.u8.2 rfl) (Nat.le_of_ble_eq_true rfl)
    refine retR [2] [.slice (some ⟨g4, 0, none⟩) 4 4] (by kernel_rfl) (by kernel_rfl) (by kernel_rfl) ?_
    obtain rfl : [(255 : UInt8), (255 : UInt8), (255 : UInt8), (255 : UInt8)] = r := (Option.some.inj hf)
    exact ⟨_, rfl, (some ⟨g4, 0, none⟩), 4, m, rfl, H⟩
  · rw [hb3]
    refine seg 6 [.op [1, 1, 0] 2, .co [1, 1, 1]] [(7, .int .u64 (IntKind.u64.wrap n_))] (by kernel_rfl) ?_
    rw [q64_wrap n_]
    obtain ⟨store, h_store, hf⟩ := bindE hf
    refine st (callR (some 8) 46 #[.int .u64 ((UInt64.ofInt n_).toNat : Int), .int .i64 4] Try.call46 (ref01_Store_c H.has (UInt64.ofInt n_) 4 h_store) (by kernel_rfl) ?_)
    rintro _ w5 ⟨A5_0, c5_0, mk5, rfl, hS5⟩
    have hsub5 := hS5.sub
    replace H := H.call0 hS5
    refine seg 2 [.co [1, 1, 1]] [(2, .slice A5_0 store.length c5_0)] (by kernel_rfl) ?_
    refine retR [2] [.slice A5_0 store.length c5_0] (by kernel_rfl) (by kernel_rfl) (by kernel_rfl) ?_
    have hret := (Option.some.inj hf)
    subst hret
    exact ⟨_, rfl, A5_0, c5_0, mk5, rfl, H⟩
theorem ref15_Bytes_c {m : Mem} {w : World} (hm : Has m w) (n_ : TApiInode) (A0_9 : Option Addr) (c0_9 : Nat) (s0_9 : SlI rI64 m A0_9 c0_9 n_.Words) (l0_16 : n_.Target.length ≤ 9223372036854775807) {r : (List UInt8)} (hf : ref15_Bytes n_ = some r) :
    Calls Try.prog 30 #[.agg #[.int .i64 n_.Kind, .int .i64 n_.Mode, .int .i64 n_.Uid, .int .i64 n_.Gid, .int .i64 n_.Time, .int .i64 n_.Links, .int .i64 n_.Attrs, .int .i64 n_.Size, .int .i64 n_.Start, .slice A0_9 n_.Words.length c0_9, .int .i64 n_.Frag, .int .i64 n_.Off, .int .i64 n_.Tail, .int .i64 n_.Dir, .int .i64 n_.Bytes, .int .i64 n_.Parent, .string ⟨n_.Target.toArray⟩, .int .i64 n_.Dev]] w fun e w' => ∃ v, e = .returned v ∧ ∃ Az_0 : Option Addr, ∃ cz_0 : Nat, ∃ m' : Mem, v = .slice Az_0 r.length cz_0 ∧ St w noF m m' [rowI rU8 5 Az_0 cz_0 r] w' := by
  unfold ref15_Bytes at hf
  have H := St.start0 hm
  refine callsR Try.func30 (by kernel_rfl) (by kernel_rfl) ?_
  refine seg 2 [.op [0] 0, .co [1]] [(0, .agg #[.int .i64 n_.Kind, .int .i64 n_.Mode, .int .i64 n_.Uid, .int .i64 n_.Gid, .int .i64 n_.Time, .int .i64 n_.Links, .int .i64 n_.Attrs, .int .i64 n_.Size, .int .i64 n_.Start, .slice A0_9 n_.Words.length c0_9, .int .i64 n_.Frag, .int .i64 n_.Off, .int .i64 n_.Tail, .int .i64 n_.Dir, .int .i64 n_.Bytes, .int .i64 n_.Parent, .string ⟨n_.Target.toArray⟩, .int .i64 n_.Dev])] (by kernel_rfl) ?_
  refine st (newS (some 1) (fun g => .pointer (some ⟨g, 0, none⟩)) [.int .i64 n_.Kind, .int .i64 n_.Mode, .int .i64 n_.Uid, .int .i64 n_.Gid, .int .i64 n_.Time, .int .i64 n_.Links, .int .i64 n_.Attrs, .int .i64 n_.Size, .int .i64 n_.Start, .slice A0_9 n_.Words.length c0_9, .int .i64 n_.Frag, .int .i64 n_.Off, .int .i64 n_.Tail, .int .i64 n_.Dir, .int .i64 n_.Bytes, .int .i64 n_.Parent, .string ⟨n_.Target.toArray⟩, .int .i64 n_.Dev] 46 H (by kernel_rfl) ?_)
  intro g1 w1 H
  refine seg 5 [.op [1, 0] 1, .co [1, 1]] [(1, .pointer (some (⟨g1, 0, none⟩))), (5, .pointer (some (⟨g1, 0, none⟩)))] (by kernel_rfl) ?_
  refine st (ldR (some 6) 3 (⟨g1, 0, none⟩) (.int .i64 n_.Kind) (by kernel_rfl) (by kernel_rfl) (H.cellB 0 rfl rfl) ?_)
  refine seg 1 [.op [1, 0] 3, .co [1, 1]] [(1, .pointer (some (⟨g1, 0, none⟩))), (7, .int .u8 (IntKind.u8.wrap n_.Kind))] (by kernel_rfl) ?_
  rw [q8_wrap n_.Kind]
  refine st (newS (some 8) (fun g => .slice (some ⟨g, 0, none⟩) 2 2) [.int .u8 ((UInt8.ofInt n_.Kind).toNat : Int), .int .u8 0] 5 H (by kernel_rfl) ?_)
  intro g2 w2 H
  refine seg 6 [.op [1, 1, 0] 2, .co [1, 1, 1]] [(1, .pointer (some (⟨g1, 0, none⟩))), (9, .slice (some ⟨g2, 0, none⟩) 2 2), (10, .pointer (some (⟨g1, 1, none⟩)))] (by kernel_rfl) ?_
  refine st (ldR (some 11) 3 (⟨g1, 1, none⟩) (.int .i64 n_.Mode) (by kernel_rfl) (by kernel_rfl) (H.cellB 1 rfl rfl) ?_)
  refine seg 1 [.op [1, 1, 0] 4, .co [1, 1, 1]] [(1, .pointer (some (⟨g1, 0, none⟩))), (9, .slice (some ⟨g2, 0, none⟩) 2 2), (12, .int .u64 (IntKind.u64.wrap n_.Mode))] (by kernel_rfl) ?_
  rw [q64_wrap n_.Mode]
  obtain ⟨store, h_store, hf⟩ := bindE hf
  refine st (callR (some 13) 46 #[.int .u64 ((UInt64.ofInt n_.Mode).toNat : Int), .int .i64 2] Try.call46 (ref01_Store_c H.has (UInt64.ofInt n_.Mode) 2 h_store) (by kernel_rfl) ?_)
  rintro _ w3 ⟨A3_0, c3_0, mk3, rfl, hS3⟩
  have hsub3 := hS3.sub
  replace H := H.call0 hS3
  have H := H.toRow (r := rU8) (l := [(UInt8.ofInt n_.Kind), (0 : UInt8)]) 1 rfl (Rows.u8.2 rfl) (Nat.le_of_ble_eq_true rfl)
  obtain ⟨xs4, hr4, hx4⟩ := H.rowCs' 0 rfl
  obtain ⟨b, h_b, hf⟩ := bindE hf
  refine st (appS (r := rU8) (some 14) 30 5 1 (.int .u8 0) 30 1 (some ⟨g2, 0, none⟩) A3_0 2 store.length c3_0 [(UInt8.ofInt n_.Kind), (0 : UInt8)] store b _ H rfl ⟨Try.underlying30, by kernel_rfl⟩ rfl (by decide) (by kernel_rfl) hx4 hr4 rfl h_b (by decide) (by decide) ?_)
  intro A5 c5 w5 H
  refine seg 6 [.op [1, 1, 1, 0] 2, .co [1, 1, 1, 1]] [(1, .pointer (some (⟨g1, 0, none⟩))), (15, .slice A5 b.length c5), (16, .pointer (some (⟨g1, 2, none⟩)))] (by kernel_rfl) ?_
  replace H : St w noF m mk3 [rowI rU8 5 A5 c5 b, blkI g1 [.int .i64 n_.Kind, .int .i64 n_.Mode, .int .i64 n_.Uid, .int .i64 n_.Gid, .int .i64 n_.Time, .int .i64 n_.Links, .int .i64 n_.Attrs, .int .i64 n_.Size, .int .i64 n_.Start, .slice A0_9 n_.Words.length c0_9, .int .i64 n_.Frag, .int .i64 n_.Off, .int .i64 n_.Tail, .int .i64 n_.Dir, .int .i64 n_.Bytes, .int .i64 n_.Parent, .string ⟨n_.Target.toArray⟩, .int .i64 n_.Dev] 46] w5 := (H.drop 0 rfl)
  refine st (ldR (some 17) 3 (⟨g1, 2, none⟩) (.int .i64 n_.Uid) (by kernel_rfl) (by kernel_rfl) (H.cellB 1 rfl rfl) ?_)
  refine seg 1 [.op [1, 1, 1, 0] 4, .co [1, 1, 1, 1]] [(1, .pointer (some (⟨g1, 0, none⟩))), (15, .slice A5 b.length c5), (18, .int .u64 (IntKind.u64.wrap n_.Uid))] (by kernel_rfl) ?_
  rw [q64_wrap n_.Uid]
  obtain ⟨store1, h_store1, hf⟩ := bindE hf
  refine st (callR (some 19) 46 #[.int .u64 ((UInt64.ofInt n_.Uid).toNat : Int), .int .i64 2] Try.call46 (ref01_Store_c H.has (UInt64.ofInt n_.Uid) 2 h_store1) (by kernel_rfl) ?_)
  rintro _ w6 ⟨A6_0, c6_0, mk6, rfl, hS6⟩
  have hsub6 := hS6.sub
  replace H := H.call0 hS6
  obtain ⟨xs7, hr7, hx7⟩ := H.rowCs' 0 rfl
  obtain ⟨b1, h_b1, hf⟩ := bindE hf
  refine st (appS (r := rU8) (some 20) 30 5 1 (.int .u8 0) 30 1 A5 A6_0 c5 store1.length c6_0 b store1 b1 _ H rfl ⟨Try.underlying30, by kernel_rfl⟩ rfl (by decide) (by kernel_rfl) hx7 hr7 rfl h_b1 (by decide) (by decide) ?_)
  intro A8 c8 w8 H
  refine seg 6 [.op [1, 1, 1, 1, 0] 2, .co [1, 1, 1, 1, 1]] [(1, .pointer (some (⟨g1, 0, none⟩))), (21, .slice A8 b1.length c8), (22, .pointer (some (⟨g1, 3, none⟩)))] (by kernel_rfl) ?_
  refine st (ldR (some 23) 3 (⟨g1, 3, none⟩) (.int .i64 n_.Gid) (by kernel_rfl) (by kernel_rfl) (H.cellB 2 rfl rfl) ?_)
  refine seg 1 [.op [1, 1, 1, 1, 0] 4, .co [1, 1, 1, 1, 1]] [(1, .pointer (some (⟨g1, 0, none⟩))), (21, .slice A8 b1.length c8), (24, .int .u64 (IntKind.u64.wrap n_.Gid))] (by kernel_rfl) ?_
  rw [q64_wrap n_.Gid]
  obtain ⟨store2, h_store2, hf⟩ := bindE hf
  refine st (callR (some 25) 46 #[.int .u64 ((UInt64.ofInt n_.Gid).toNat : Int), .int .i64 2] Try.call46 (ref01_Store_c H.has (UInt64.ofInt n_.Gid) 2 h_store2) (by kernel_rfl) ?_)
  rintro _ w9 ⟨A9_0, c9_0, mk9, rfl, hS9⟩
  have hsub9 := hS9.sub
  replace H := H.call0 hS9
  obtain ⟨xs10, hr10, hx10⟩ := H.rowCs' 0 rfl
  obtain ⟨b2, h_b2, hf⟩ := bindE hf
  refine st (appS (r := rU8) (some 26) 30 5 1 (.int .u8 0) 30 2 A8 A9_0 c8 store2.length c9_0 b1 store2 b2 _ H rfl ⟨Try.underlying30, by kernel_rfl⟩ rfl (by decide) (by kernel_rfl) hx10 hr10 rfl h_b2 (by decide) (by decide) ?_)
  intro A11 c11 w11 H
  refine seg 3 [.co [1, 1, 1, 1, 1, 0], .co [1, 1, 1, 1, 1, 1]] [(1, .pointer (some (⟨g1, 0, none⟩))), (3, .slice A11 b2.length c11)] (by kernel_rfl) ?_
  obtain ⟨four, h_four, hf⟩ := bindE hf
  obtain ⟨b3, h_b3, hf⟩ := bindE hf
  obtain ⟨four1, h_four1, hf⟩ := bindE hf
  obtain ⟨b4, h_b4, hf⟩ := bindE hf
  obtain ⟨four2, h_four2, hf⟩ := bindE hf
  obtain ⟨b5, h_b5, hf⟩ := bindE hf
  have hst : statB (bodyOf Try.f30) [1, 1, 1, 1, 1, 0] = true := by kernel_rfl
  refine drawS (fun w' => Has mk9 w' ∧ w'.heap[g1]? = some (.cells [.int .i64 n_.Kind, .int .i64 n_.Mode, .int .i64 n_.Uid, .int .i64 n_.Gid, .int .i64 n_.Time, .int .i64 n_.Links, .int .i64 n_.Attrs, .int .i64 n_.Size, .int .i64 n_.Start, .slice A0_9 n_.Words.length c0_9, .int .i64 n_.Frag, .int .i64 n_.Off, .int .i64 n_.Tail, .int .i64 n_.Dir, .int .i64 n_.Bytes, .int .i64 n_.Parent, .string ⟨n_.Target.toArray⟩, .int .i64 n_.Dev].toArray 46 (0, 0))) H (by kernel_rfl) (by kernel_rfl) ?_
  intro w21 H
  refine segD2 hst [0, 1, 5, 9] [0, 1, 5, 9] [(1, .pointer (some (⟨g1, 0, none⟩))), (27, .slice A11 b2.length c11), (28, .pointer (some (⟨g1, 4, none⟩))), (32, .pointer (some (⟨g1, 5, none⟩))), (36, .pointer (some (⟨g1, 6, none⟩)))] (by kernel_rfl) ?_
  refine takeD2 (i := 2) (d := (some 29)) (s := vS (Instr.loadAt 3 (.pointer (some (⟨g1, 4, none⟩))))) (v := (.int .i64 n_.Time)) hst (by kernel_rfl) (by kernel_rfl) (fun w' hw' => ld_run _ _ _ (by kernel_rfl) (blk_cell hw'.2 rfl)) ?_
  refine takeD2 (i := 6) (d := (some 33)) (s := vS (Instr.loadAt 3 (.pointer (some (⟨g1, 5, none⟩))))) (v := (.int .i64 n_.Links)) hst (by kernel_rfl) (by kernel_rfl) (fun w' hw' => ld_run _ _ _ (by kernel_rfl) (blk_cell hw'.2 rfl)) ?_
  refine takeD2 (i := 10) (d := (some 37)) (s := vS (Instr.loadAt 3 (.pointer (some (⟨g1, 6, none⟩))))) (v := (.int .i64 n_.Attrs)) hst (by kernel_rfl) (by kernel_rfl) (fun w' hw' => ld_run _ _ _ (by kernel_rfl) (blk_cell hw'.2 rfl)) ?_
  replace H : St w noF m mk9 [rowI rU8 5 A11 c11 b2, blkI g1 [.int .i64 n_.Kind, .int .i64 n_.Mode, .int .i64 n_.Uid, .int .i64 n_.Gid, .int .i64 n_.Time, .int .i64 n_.Links, .int .i64 n_.Attrs, .int .i64 n_.Size, .int .i64 n_.Start, .slice A0_9 n_.Words.length c0_9, .int .i64 n_.Frag, .int .i64 n_.Off, .int .i64 n_.Tail, .int .i64 n_.Dir, .int .i64 n_.Bytes, .int .i64 n_.Parent, .string ⟨n_.Target.toArray⟩, .int .i64 n_.Dev] 46] w21 := ((H.drop 1 rfl).drop 0 rfl)
  refine stD2 (i := 3) (by kernel_rfl) ⟨H.has, H.blk 1 rfl⟩ (callR (some 30) 66 #[.int .i64 n_.Time] Try.call66 (ref15_four_c H.has n_.Time h_four) (by kernel_rfl) ?_)
  rintro _ w22 ⟨A22_0, c22_0, mk22, rfl, hS22⟩
  have hsub22 := hS22.sub
  replace H := H.call0 hS22
  obtain ⟨xs23, hr23, hx23⟩ := H.rowCs' 0 rfl
  refine stD2 (i := 4) (by kernel_rfl) ⟨(H.has.sub hsub22), H.blk 2 rfl⟩ (appS (r := rU8) (some 31) 30 5 1 (.int .u8 0) 30 1 A11 A22_0 c11 four.length c22_0 b2 four b3 _ H rfl ⟨Try.underlying30, by kernel_rfl⟩ rfl (by decide) (by kernel_rfl) hx23 hr23 rfl h_b3 (by decide) (by decide) ?_)
  intro A24 c24 w24 H
  refine stD2 (i := 7) (by kernel_rfl) ⟨(H.has.sub hsub22), H.blk 2 rfl⟩ (callR (some 34) 66 #[.int .i64 n_.Links] Try.call66 (ref15_four_c H.has n_.Links h_four1) (by kernel_rfl) ?_)
  rintro _ w25 ⟨A25_0, c25_0, mk25, rfl, hS25⟩
  have hsub25 := hS25.sub
  replace H := H.call0 hS25
  obtain ⟨xs26, hr26, hx26⟩ := H.rowCs' 0 rfl
  refine stD2 (i := 8) (by kernel_rfl) ⟨(H.has.sub (hsub22.trans hsub25)), H.blk 3 rfl⟩ (appS (r := rU8) (some 35) 30 5 1 (.int .u8 0) 30 2 A24 A25_0 c24 four1.length c25_0 b3 four1 b4 _ H rfl ⟨Try.underlying30, by kernel_rfl⟩ rfl (by decide) (by kernel_rfl) hx26 hr26 rfl h_b4 (by decide) (by decide) ?_)
  intro A27 c27 w27 H
  replace H : St w noF m mk25 [rowI rU8 5 A27 c27 b4, blkI g1 [.int .i64 n_.Kind, .int .i64 n_.Mode, .int .i64 n_.Uid, .int .i64 n_.Gid, .int .i64 n_.Time, .int .i64 n_.Links, .int .i64 n_.Attrs, .int .i64 n_.Size, .int .i64 n_.Start, .slice A0_9 n_.Words.length c0_9, .int .i64 n_.Frag, .int .i64 n_.Off, .int .i64 n_.Tail, .int .i64 n_.Dir, .int .i64 n_.Bytes, .int .i64 n_.Parent, .string ⟨n_.Target.toArray⟩, .int .i64 n_.Dev] 46] w27 := ((H.drop 1 rfl).drop 0 rfl)
  refine stD2 (i := 11) (by kernel_rfl) ⟨(H.has.sub (hsub22.trans hsub25)), H.blk 1 rfl⟩ (callR (some 38) 66 #[.int .i64 n_.Attrs] Try.call66 (ref15_four_c H.has n_.Attrs h_four2) (by kernel_rfl) ?_)
  rintro _ w28 ⟨A28_0, c28_0, mk28, rfl, hS28⟩
  have hsub28 := hS28.sub
  replace H := H.call0 hS28
  obtain ⟨xs29, hr29, hx29⟩ := H.rowCs' 0 rfl
  refine stD2 (i := 12) (by kernel_rfl) ⟨(H.has.sub ((hsub22.trans hsub25).trans hsub28)), H.blk 2 rfl⟩ (appS (r := rU8) (some 39) 30 5 1 (.int .u8 0) 30 1 A27 A28_0 c27 four2.length c28_0 b4 four2 b5 _ H rfl ⟨Try.underlying30, by kernel_rfl⟩ rfl (by decide) (by kernel_rfl) hx29 hr29 rfl h_b5 (by decide) (by decide) ?_)
  intro A30 c30 w30 H
  refine segD2 hst [13] [0, 1, 5, 9, 2, 6, 10, 3, 4, 7, 8, 11, 12, 13] [(1, .pointer (some (⟨g1, 0, none⟩))), (3, .slice A30 b5.length c30)] (by kernel_rfl) ?_
  refine endD2 (by kernel_rfl) ⟨(H.has.sub ((hsub22.trans hsub25).trans hsub28)), H.blk 2 rfl⟩ ?_
  refine seg 4 [.op [1, 1, 1, 1, 1, 1, 0, 0] 1, .co [1, 1, 1, 1, 1, 1, 0, 1], .co [1, 1, 1, 1, 1, 1, 1]] [(1, .pointer (some (⟨g1, 0, none⟩))), (3, .slice A30 b5.length c30), (40, .pointer (some (⟨g1, 0, none⟩)))] (by kernel_rfl) ?_
  refine st (ldR (some 41) 3 (⟨g1, 0, none⟩) (.int .i64 n_.Kind) (by kernel_rfl) (by kernel_rfl) (H.cellB 2 rfl rfl) ?_)
  refine seg 7 [.co [1, 1, 1, 1, 1, 1, 0, 1, 0, 1], .bl 0, .co [1, 1, 1, 1, 1, 1, 1]] [(1, .pointer (some (⟨g1, 0, none⟩))), (3, .slice A30 b5.length c30), (41, .int .i64 n_.Kind), (47, .bool (n_.Kind == 1))] (by kernel_rfl) ?_
  rcases condT hf with ⟨hb202, hf⟩ | ⟨hb202, hf⟩
  · rw [hb202]
    refine seg 5 [.op [1, 1, 1, 1, 1, 1, 0, 1, 0, 1, 0, 0] 2, .co [1, 1, 1, 1, 1, 1, 0, 1, 0, 1, 0, 1], .bl 0, .co [1, 1, 1, 1, 1, 1, 1]] [(1, .pointer (some (⟨g1, 0, none⟩))), (49, .slice A30 b5.length c30), (50, .pointer (some (⟨g1, 7, none⟩)))] (by kernel_rfl) ?_
    refine st (ldR (some 51) 3 (⟨g1, 7, none⟩) (.int .i64 n_.Size) (by kernel_rfl) (by kernel_rfl) (H.cellB 2 rfl rfl) ?_)
    refine seg 1 [.op [1, 1, 1, 1, 1, 1, 0, 1, 0, 1, 0, 0] 4, .co [1, 1, 1, 1, 1, 1, 0, 1, 0, 1, 0, 1], .bl 0, .co [1, 1, 1, 1, 1, 1, 1]] [(1, .pointer (some (⟨g1, 0, none⟩))), (49, .slice A30 b5.length c30), (52, .int .u64 (IntKind.u64.wrap n_.Size))] (by kernel_rfl) ?_
    rw [q64_wrap n_.Size]
    obtain ⟨store3, h_store3, hf⟩ := bindE hf
    refine st (callR (some 53) 46 #[.int .u64 ((UInt64.ofInt n_.Size).toNat : Int), .int .i64 8] Try.call46 (ref01_Store_c H.has (UInt64.ofInt n_.Size) 8 h_store3) (by kernel_rfl) ?_)
    rintro _ w203 ⟨A203_0, c203_0, mk203, rfl, hS203⟩
    have hsub203 := hS203.sub
    replace H := H.call0 hS203
    obtain ⟨xs204, hr204, hx204⟩ := H.rowCs' 0 rfl
    obtain ⟨b6, h_b6, hf⟩ := bindE hf
    refine st (appS (r := rU8) (some 54) 30 5 1 (.int .u8 0) 30 2 A30 A203_0 c30 store3.length c203_0 b5 store3 b6 _ H rfl ⟨Try.underlying30, by kernel_rfl⟩ rfl (by decide) (by kernel_rfl) hx204 hr204 rfl h_b6 (by decide) (by decide) ?_)
    intro A205 c205 w205 H
    refine seg 3 [.co [1, 1, 1, 1, 1, 1, 0, 1, 0, 1, 0, 1, 0], .co [1, 1, 1, 1, 1, 1, 0, 1, 0, 1, 0, 1, 1], .bl 0, .co [1, 1, 1, 1, 1, 1, 1]] [(1, .pointer (some (⟨g1, 0, none⟩))), (3, .slice A205 b6.length c205)] (by kernel_rfl) ?_
    obtain ⟨four3, h_four3, hf⟩ := bindE hf
    obtain ⟨b7, h_b7, hf⟩ := bindE hf
    obtain ⟨four4, h_four4, hf⟩ := bindE hf
    obtain ⟨b8, h_b8, hf⟩ := bindE hf
    obtain ⟨four5, h_four5, hf⟩ := bindE hf
    obtain ⟨b9, h_b9, hf⟩ := bindE hf
    obtain ⟨four6, h_four6, hf⟩ := bindE hf
    obtain ⟨b10, h_b10, hf⟩ := bindE hf
    obtain ⟨four7, h_four7, hf⟩ := bindE hf
    obtain ⟨b11, h_b11, hf⟩ := bindE hf
    have hst : statB (bodyOf Try.f30) [1, 1, 1, 1, 1, 1, 0, 1, 0, 1, 0, 1, 0] = true := by kernel_rfl
    refine drawS (fun w' => Has mk203 w' ∧ w'.heap[g1]? = some (.cells [.int .i64 n_.Kind, .int .i64 n_.Mode, .int .i64 n_.Uid, .int .i64 n_.Gid, .int .i64 n_.Time, .int .i64 n_.Links, .int .i64 n_.Attrs, .int .i64 n_.Size, .int .i64 n_.Start, .slice A0_9 n_.Words.length c0_9, .int .i64 n_.Frag, .int .i64 n_.Off, .int .i64 n_.Tail, .int .i64 n_.Dir, .int .i64 n_.Bytes, .int .i64 n_.Parent, .string ⟨n_.Target.toArray⟩, .int .i64 n_.Dev].toArray 46 (0, 0))) H (by kernel_rfl) (by kernel_rfl) ?_
    intro w221 H
    refine segD2 hst [0, 1, 5, 9, 13, 17] [0, 1, 5, 9, 13, 17] [(1, .pointer (some (⟨g1, 0, none⟩))), (55, .slice A205 b6.length c205), (56, .pointer (some (⟨g1, 8, none⟩))), (60, .pointer (some (⟨g1, 10, none⟩))), (64, .pointer (some (⟨g1, 11, none⟩))), (68, .pointer (some (⟨g1, 12, none⟩))), (72, .pointer (some (⟨g1, 9, none⟩)))] (by kernel_rfl) ?_
    refine takeD2 (i := 2) (d := (some 57)) (s := vS (Instr.loadAt 3 (.pointer (some (⟨g1, 8, none⟩))))) (v := (.int .i64 n_.Start)) hst (by kernel_rfl) (by kernel_rfl) (fun w' hw' => ld_run _ _ _ (by kernel_rfl) (blk_cell hw'.2 rfl)) ?_
    refine takeD2 (i := 6) (d := (some 61)) (s := vS (Instr.loadAt 3 (.pointer (some (⟨g1, 10, none⟩))))) (v := (.int .i64 n_.Frag)) hst (by kernel_rfl) (by kernel_rfl) (fun w' hw' => ld_run _ _ _ (by kernel_rfl) (blk_cell hw'.2 rfl)) ?_
    refine takeD2 (i := 10) (d := (some 65)) (s := vS (Instr.loadAt 3 (.pointer (some (⟨g1, 11, none⟩))))) (v := (.int .i64 n_.Off)) hst (by kernel_rfl) (by kernel_rfl) (fun w' hw' => ld_run _ _ _ (by kernel_rfl) (blk_cell hw'.2 rfl)) ?_
    refine takeD2 (i := 14) (d := (some 69)) (s := vS (Instr.loadAt 3 (.pointer (some (⟨g1, 12, none⟩))))) (v := (.int .i64 n_.Tail)) hst (by kernel_rfl) (by kernel_rfl) (fun w' hw' => ld_run _ _ _ (by kernel_rfl) (blk_cell hw'.2 rfl)) ?_
    refine takeD2 (i := 18) (d := (some 73)) (s := vS (Instr.loadAt 44 (.pointer (some (⟨g1, 9, none⟩))))) (v := (.slice A0_9 n_.Words.length c0_9)) hst (by kernel_rfl) (by kernel_rfl) (fun w' hw' => ld_run _ _ _ (by kernel_rfl) (blk_cell hw'.2 rfl)) ?_
    refine segD2 hst [19] [0, 1, 5, 9, 13, 17, 2, 6, 10, 14, 18, 19] [(1, .pointer (some (⟨g1, 0, none⟩))), (55, .slice A205 b6.length c205), (57, .int .i64 n_.Start), (61, .int .i64 n_.Frag), (65, .int .i64 n_.Off), (69, .int .i64 n_.Tail), (74, .int .i64 (n_.Words.length : Int))] (by kernel_rfl) ?_
    replace H : St w noF m mk203 [rowI rU8 5 A205 c205 b6, blkI g1 [.int .i64 n_.Kind, .int .i64 n_.Mode, .int .i64 n_.Uid, .int .i64 n_.Gid, .int .i64 n_.Time, .int .i64 n_.Links, .int .i64 n_.Attrs, .int .i64 n_.Size, .int .i64 n_.Start, .slice A0_9 n_.Words.length c0_9, .int .i64 n_.Frag, .int .i64 n_.Off, .int .i64 n_.Tail, .int .i64 n_.Dir, .int .i64 n_.Bytes, .int .i64 n_.Parent, .string ⟨n_.Target.toArray⟩, .int .i64 n_.Dev] 46] w221 := ((H.drop 1 rfl).drop 0 rfl)
    refine stD2 (i := 3) (by kernel_rfl) ⟨H.has, H.blk 1 rfl⟩ (callR (some 58) 66 #[.int .i64 n_.Start] Try.call66 (ref15_four_c H.has n_.Start h_four3) (by kernel_rfl) ?_)
    rintro _ w222 ⟨A222_0, c222_0, mk222, rfl, hS222⟩
    have hsub222 := hS222.sub
    replace H := H.call0 hS222
    obtain ⟨xs223, hr223, hx223⟩ := H.rowCs' 0 rfl
    refine stD2 (i := 4) (by kernel_rfl) ⟨(H.has.sub hsub222), H.blk 2 rfl⟩ (appS (r := rU8) (some 59) 30 5 1 (.int .u8 0) 30 1 A205 A222_0 c205 four3.length c222_0 b6 four3 b7 _ H rfl ⟨Try.underlying30, by kernel_rfl⟩ rfl (by decide) (by kernel_rfl) hx223 hr223 rfl h_b7 (by decide) (by decide) ?_)
    intro A224 c224 w224 H
    refine stD2 (i := 7) (by kernel_rfl) ⟨(H.has.sub hsub222), H.blk 2 rfl⟩ (callR (some 62) 66 #[.int .i64 n_.Frag] Try.call66 (ref15_four_c H.has n_.Frag h_four4) (by kernel_rfl) ?_)
    rintro _ w225 ⟨A225_0, c225_0, mk225, rfl, hS225⟩
    have hsub225 := hS225.sub
    replace H := H.call0 hS225
    obtain ⟨xs226, hr226, hx226⟩ := H.rowCs' 0 rfl
    refine stD2 (i := 8) (by kernel_rfl) ⟨(H.has.sub (hsub222.trans hsub225)), H.blk 3 rfl⟩ (appS (r := rU8) (some 63) 30 5 1 (.int .u8 0) 30 2 A224 A225_0 c224 four4.length c225_0 b7 four4 b8 _ H rfl ⟨Try.underlying30, by kernel_rfl⟩ rfl (by decide) (by kernel_rfl) hx226 hr226 rfl h_b8 (by decide) (by decide) ?_)
    intro A227 c227 w227 H
    replace H : St w noF m mk225 [rowI rU8 5 A227 c227 b8, blkI g1 [.int .i64 n_.Kind, .int .i64 n_.Mode, .int .i64 n_.Uid, .int .i64 n_.Gid, .int .i64 n_.Time, .int .i64 n_.Links, .int .i64 n_.Attrs, .int .i64 n_.Size, .int .i64 n_.Start, .slice A0_9 n_.Words.length c0_9, .int .i64 n_.Frag, .int .i64 n_.Off, .int .i64 n_.Tail, .int .i64 n_.Dir, .int .i64 n_.Bytes, .int .i64 n_.Parent, .string ⟨n_.Target.toArray⟩, .int .i64 n_.Dev] 46] w227 := ((H.drop 1 rfl).drop 0 rfl)
    refine stD2 (i := 11) (by kernel_rfl) ⟨(H.has.sub (hsub222.trans hsub225)), H.blk 1 rfl⟩ (callR (some 66) 66 #[.int .i64 n_.Off] Try.call66 (ref15_four_c H.has n_.Off h_four5) (by kernel_rfl) ?_)
    rintro _ w228 ⟨A228_0, c228_0, mk228, rfl, hS228⟩
    have hsub228 := hS228.sub
    replace H := H.call0 hS228
    obtain ⟨xs229, hr229, hx229⟩ := H.rowCs' 0 rfl
    refine stD2 (i := 12) (by kernel_rfl) ⟨(H.has.sub ((hsub222.trans hsub225).trans hsub228)), H.blk 2 rfl⟩ (appS (r := rU8) (some 67) 30 5 1 (.int .u8 0) 30 1 A227 A228_0 c227 four5.length c228_0 b8 four5 b9 _ H rfl ⟨Try.underlying30, by kernel_rfl⟩ rfl (by decide) (by kernel_rfl) hx229 hr229 rfl h_b9 (by decide) (by decide) ?_)
    intro A230 c230 w230 H
    refine stD2 (i := 15) (by kernel_rfl) ⟨(H.has.sub ((hsub222.trans hsub225).trans hsub228)), H.blk 2 rfl⟩ (callR (some 70) 66 #[.int .i64 n_.Tail] Try.call66 (ref15_four_c H.has n_.Tail h_four6) (by kernel_rfl) ?_)
    rintro _ w231 ⟨A231_0, c231_0, mk231, rfl, hS231⟩
    have hsub231 := hS231.sub
    replace H := H.call0 hS231
    obtain ⟨xs232, hr232, hx232⟩ := H.rowCs' 0 rfl
    refine stD2 (i := 16) (by kernel_rfl) ⟨(H.has.sub (((hsub222.trans hsub225).trans hsub228).trans hsub231)), H.blk 3 rfl⟩ (appS (r := rU8) (some 71) 30 5 1 (.int .u8 0) 30 2 A230 A231_0 c230 four6.length c231_0 b9 four6 b10 _ H rfl ⟨Try.underlying30, by kernel_rfl⟩ rfl (by decide) (by kernel_rfl) hx232 hr232 rfl h_b10 (by decide) (by decide) ?_)
    intro A233 c233 w233 H
    replace H : St w noF m mk231 [rowI rU8 5 A233 c233 b10, blkI g1 [.int .i64 n_.Kind, .int .i64 n_.Mode, .int .i64 n_.Uid, .int .i64 n_.Gid, .int .i64 n_.Time, .int .i64 n_.Links, .int .i64 n_.Attrs, .int .i64 n_.Size, .int .i64 n_.Start, .slice A0_9 n_.Words.length c0_9, .int .i64 n_.Frag, .int .i64 n_.Off, .int .i64 n_.Tail, .int .i64 n_.Dir, .int .i64 n_.Bytes, .int .i64 n_.Parent, .string ⟨n_.Target.toArray⟩, .int .i64 n_.Dev] 46] w233 := ((H.drop 1 rfl).drop 0 rfl)
    refine stD2 (i := 20) (by kernel_rfl) ⟨(H.has.sub (((hsub222.trans hsub225).trans hsub228).trans hsub231)), H.blk 1 rfl⟩ (callR (some 75) 66 #[.int .i64 (n_.Words.length : Int)] Try.call66 (ref15_four_c H.has (n_.Words.length : Int) h_four7) (by kernel_rfl) ?_)
    rintro _ w234 ⟨A234_0, c234_0, mk234, rfl, hS234⟩
    have hsub234 := hS234.sub
    replace H := H.call0 hS234
    obtain ⟨xs235, hr235, hx235⟩ := H.rowCs' 0 rfl
    refine stD2 (i := 21) (by kernel_rfl) ⟨(H.has.sub ((((hsub222.trans hsub225).trans hsub228).trans hsub231).trans hsub234)), H.blk 2 rfl⟩ (appS (r := rU8) (some 76) 30 5 1 (.int .u8 0) 30 1 A233 A234_0 c233 four7.length c234_0 b10 four7 b11 _ H rfl ⟨Try.underlying30, by kernel_rfl⟩ rfl (by decide) (by kernel_rfl) hx235 hr235 rfl h_b11 (by decide) (by decide) ?_)
    intro A236 c236 w236 H
    refine segD2 hst [22] [0, 1, 5, 9, 13, 17, 2, 6, 10, 14, 18, 19, 3, 4, 7, 8, 11, 12, 15, 16, 20, 21, 22] [(1, .pointer (some (⟨g1, 0, none⟩))), (3, .slice A236 b11.length c236)] (by kernel_rfl) ?_
    refine endD2 (by kernel_rfl) ⟨(H.has.sub ((((hsub222.trans hsub225).trans hsub228).trans hsub231).trans hsub234)), H.blk 2 rfl⟩ ?_
    refine seg 4 [.co [1, 1, 1, 1, 1, 1, 0, 1, 0, 1, 0, 1, 1, 1], .bl 0, .co [1, 1, 1, 1, 1, 1, 1]] [(1, .pointer (some (⟨g1, 0, none⟩))), (3, .slice A236 b11.length c236), (4, .int .i64 0)] (by kernel_rfl) ?_
    obtain ⟨y258, hp258, hf⟩ := bindE hf
    refine joinR 0 (fun (x : (List UInt8) × Option Addr × Nat × Mem) => [(3, .slice (x.2.1) x.1.length (x.2.2.1))]) (fun (x : (List UInt8) × Option Addr × Nat × Mem) (wj258 : World) => y258 = x.1 ∧ St w noF m x.2.2.2 [rowI rU8 5 (x.2.1) (x.2.2.1) x.1] wj258 ∧ Sub mk234 x.2.2.2) (by kernel_rfl) ?_ ?_
    · refine seg 1 [.co [1, 1, 1, 1, 1, 1, 0, 1, 0, 1, 0, 1, 1, 1, 0], .bl 1, .le 0, .bl 0, .co [1, 1, 1, 1, 1, 1, 1]] [(1, .pointer (some (⟨g1, 0, none⟩))), (3, .slice A236 b11.length c236), (4, .int .i64 0)] (by kernel_rfl) ?_
      obtain ⟨nn274, hR274⟩ := loopO_iff.1 hp258
      refine loopR 1 (fun (x : Nat × (List UInt8) × Nat × Option Addr × Nat × Mem) => [(1, .pointer (some (⟨g1, 0, none⟩))), (3, .slice (x.2.2.2.1) x.2.1.length (x.2.2.2.2.1)), (4, .int .i64 (x.2.2.1 : Int))]) (fun (x : Nat × (List UInt8) × Nat × Option Addr × Nat × Mem) (wl274 : World) => iter (fun s => ref15_Bytes_l1 n_ s.1 s.2) x.1 (x.2.1, x.2.2.1) = some y258 ∧ St w noF m x.2.2.2.2.2 [blkI g1 [.int .i64 n_.Kind, .int .i64 n_.Mode, .int .i64 n_.Uid, .int .i64 n_.Gid, .int .i64 n_.Time, .int .i64 n_.Links, .int .i64 n_.Attrs, .int .i64 n_.Size, .int .i64 n_.Start, .slice A0_9 n_.Words.length c0_9, .int .i64 n_.Frag, .int .i64 n_.Off, .int .i64 n_.Tail, .int .i64 n_.Dir, .int .i64 n_.Bytes, .int .i64 n_.Parent, .string ⟨n_.Target.toArray⟩, .int .i64 n_.Dev] 46, rowI rU8 5 (x.2.2.2.1) (x.2.2.2.2.1) x.2.1] wl274 ∧ Sub mk234 x.2.2.2.2.2) (fun (x : Nat × (List UInt8) × Nat × Option Addr × Nat × Mem) => x.1) (nn274, b11, 0, A236, c236, mk234) (by kernel_rfl) (by kernel_rfl) (by kernel_rfl) ?_ ?_
      · exact ⟨hR274, (St.takeN 2 ((H.pull 1 rfl).pull 2 rfl)), (Sub.refl _)⟩
      rintro ⟨n274, b12, i, A_1_275, c_2_275, mm275⟩ wl274 ⟨hR274, H, hsub275⟩
      try dsimp only at hR274
      try dsimp only at H
      try dsimp only at hsub275
      obtain ⟨nk274, q274, rfl, hb_274, hnx274, hfin274⟩ := iterE hR274
      replace hb_274 : ref15_Bytes_l1 n_ b12 i = some q274 := hb_274
      unfold ref15_Bytes_l1 at hb_274
      refine seg 5 [.op [1, 1, 1, 1, 1, 1, 0, 1, 0, 1, 0, 1, 1, 1, 0, 0, 0, 0] 2, .co [1, 1, 1, 1, 1, 1, 0, 1, 0, 1, 0, 1, 1, 1, 0, 0, 0, 1], .co [1, 1, 1, 1, 1, 1, 0, 1, 0, 1, 0, 1, 1, 1, 0, 0, 1], .le 1, .bl 1, .le 0, .bl 0, .co [1, 1, 1, 1, 1, 1, 1]] [(1, .pointer (some (⟨g1, 0, none⟩))), (3, .slice A_1_275 b12.length c_2_275), (4, .int .i64 (i : Int)), (77, .int .i64 (i : Int)), (78, .pointer (some (⟨g1, 9, none⟩)))] (by kernel_rfl) ?_
      replace H : St w noF m mm275 [blkI g1 [.int .i64 n_.Kind, .int .i64 n_.Mode, .int .i64 n_.Uid, .int .i64 n_.Gid, .int .i64 n_.Time, .int .i64 n_.Links, .int .i64 n_.Attrs, .int .i64 n_.Size, .int .i64 n_.Start, .slice A0_9 n_.Words.length c0_9, .int .i64 n_.Frag, .int .i64 n_.Off, .int .i64 n_.Tail, .int .i64 n_.Dir, .int .i64 n_.Bytes, .int .i64 n_.Parent, .string ⟨n_.Target.toArray⟩, .int .i64 n_.Dev] 46, rowI rU8 5 A_1_275 c_2_275 b12] wl274 := H
      refine st (ldR (some 79) 44 (⟨g1, 9, none⟩) (.slice A0_9 n_.Words.length c0_9) (by kernel_rfl) (by kernel_rfl) (H.cellB 0 rfl rfl) ?_)
      refine seg 3 [.co [1, 1, 1, 1, 1, 1, 0, 1, 0, 1, 0, 1, 1, 1, 0, 0, 0, 1], .co [1, 1, 1, 1, 1, 1, 0, 1, 0, 1, 0, 1, 1, 1, 0, 0, 1], .le 1, .bl 1, .le 0, .bl 0, .co [1, 1, 1, 1, 1, 1, 1]] [(1, .pointer (some (⟨g1, 0, none⟩))), (3, .slice A_1_275 b12.length c_2_275), (4, .int .i64 (i : Int)), (81, .bool (decide ((i : Int) < (n_.Words.length : Int))))] (by kernel_rfl) ?_
      rcases condT hb_274 with ⟨hb276, hb_274⟩ | ⟨hb276, hb_274⟩
      · rw [hb276]
        have p276 := of_decide_eq_true hb276
        refine seg 7 [.op [1, 1, 1, 1, 1, 1, 0, 1, 0, 1, 0, 1, 1, 1, 0, 0, 1, 0, 0] 2, .bl 2, .co [1, 1, 1, 1, 1, 1, 0, 1, 0, 1, 0, 1, 1, 1, 0, 0, 1, 1], .le 1, .bl 1, .le 0, .bl 0, .co [1, 1, 1, 1, 1, 1, 1]] [(1, .pointer (some (⟨g1, 0, none⟩))), (4, .int .i64 (i : Int)), (84, .slice A_1_275 b12.length c_2_275), (85, .pointer (some (⟨g1, 9, none⟩)))] (by kernel_rfl) ?_
        refine st (ldR (some 86) 44 (⟨g1, 9, none⟩) (.slice A0_9 n_.Words.length c0_9) (by kernel_rfl) (by kernel_rfl) (H.cellB 0 rfl rfl) ?_)
        refine seg 1 [.op [1, 1, 1, 1, 1, 1, 0, 1, 0, 1, 0, 1, 1, 1, 0, 0, 1, 0, 0] 4, .bl 2, .co [1, 1, 1, 1, 1, 1, 0, 1, 0, 1, 0, 1, 1, 1, 0, 0, 1, 1], .le 1, .bl 1, .le 0, .bl 0, .co [1, 1, 1, 1, 1, 1, 1]] [(1, .pointer (some (⟨g1, 0, none⟩))), (4, .int .i64 (i : Int)), (84, .slice A_1_275 b12.length c_2_275), (86, .slice A0_9 n_.Words.length c0_9), (87, .int .i64 (i : Int))] (by kernel_rfl) ?_
        obtain ⟨x_, h_x_, hb_274⟩ := bindE hb_274
        obtain ⟨ad278, _, ea278, rfl, hc278⟩ := (s0_9.mono ((((((((((((hsub3.trans hsub6).trans hsub9).trans hsub22).trans hsub25).trans hsub28).trans hsub203).trans hsub222).trans hsub225).trans hsub228).trans hsub231).trans hsub234).trans hsub275)).at_ h_x_ (by decide)
        refine st (idxS (some 88) 44 3 1 A0_9 ad278 n_.Words.length c0_9 .i64 (i : Int) ea278 (by kernel_rfl) (by kernel_rfl) (by omega) (by have := (List.getElem?_eq_some_iff.1 h_x_).1; omega) ?_)
        refine st (ldR (some 89) 3 (ad278.add (i * 1)) (.int .i64 x_) (by kernel_rfl) (by kernel_rfl) (H.cellI (mc0 (hc278 0 _ rfl))) ?_)
        obtain ⟨four8, h_four8, hb_274⟩ := bindE hb_274
        refine st (callR (some 90) 66 #[.int .i64 x_] Try.call66 (ref15_four_c H.has x_ h_four8) (by kernel_rfl) ?_)
        rintro _ w279 ⟨A279_0, c279_0, mk279, rfl, hS279⟩
        have hsub279 := hS279.sub
        replace H := H.call0 hS279
        obtain ⟨xs280, hr280, hx280⟩ := H.rowCs' 0 rfl
        obtain ⟨b13, h_b13, hb_274⟩ := bindE hb_274
        refine st (appS (r := rU8) (some 91) 30 5 1 (.int .u8 0) 30 2 A_1_275 A279_0 c_2_275 four8.length c279_0 b12 four8 b13 _ H rfl ⟨Try.underlying30, by kernel_rfl⟩ rfl (by decide) (by kernel_rfl) hx280 hr280 rfl h_b13 (by decide) (by decide) ?_)
        intro A281 c281 w281 H
        refine seg 8 [.le 1, .bl 1, .le 0, .bl 0, .co [1, 1, 1, 1, 1, 1, 1]] [(1, .pointer (some (⟨g1, 0, none⟩))), (3, .slice A281 b13.length c281), (4, .int .i64 (IntKind.i64.wrap ((i : Int) + 1)))] (by kernel_rfl) ?_
        have := s0_9.bound
        rw [show IntKind.i64.wrap ((i : Int) + 1) = ((i : Int) + 1) from w64 (by omega)]
        refine leR (nk274, b13, (i + 1), A281, c281, mk279) (Nat.lt_succ_self _) ⟨hnx274 _ (Option.some.inj hb_274).symm, (St.takeN 2 ((H.pull 2 rfl).pull 2 rfl)), (hsub275.trans hsub279)⟩ (by kernel_rfl)
      · rw [hb276]
        have p276 := of_decide_eq_false hb276
        refine seg 2 [.le 0, .bl 0, .co [1, 1, 1, 1, 1, 1, 1]] [(3, .slice A_1_275 b12.length c_2_275)] (by kernel_rfl) ?_
        refine leR_up (k' := []) (by rfl) ?_
        refine leJ (b12, A_1_275, c_2_275, mm275) ⟨(hfin274 _ (Option.some.inj hb_274).symm).symm, (St.takeN 1 (H.pull 1 rfl)), hsub275⟩ (by kernel_rfl)
    rintro ⟨b12, A_1_259, c_2_259, mm259⟩ wj258 ⟨hy258, H, hsub259⟩
    try dsimp only at hy258
    try dsimp only at H
    try dsimp only at hsub259
    rw [hy258] at hf
    refine seg 6 [.co [1, 1, 1, 1, 1, 1, 1, 1]] [(2, .slice A_1_259 b12.length c_2_259)] (by kernel_rfl) ?_
    refine retR [2] [.slice A_1_259 b12.length c_2_259] (by kernel_rfl) (by kernel_rfl) (by kernel_rfl) ?_
    have hret := (Option.some.inj hf)
    subst hret
    exact ⟨_, rfl, A_1_259, c_2_259, mm259, rfl, H⟩
  · rw [hb202]
    refine seg 6 [.co [1, 1, 1, 1, 1, 1, 0, 1, 0, 1, 1, 1], .bl 0, .co [1, 1, 1, 1, 1, 1, 1]] [(1, .pointer (some (⟨g1, 0, none⟩))), (3, .slice A30 b5.length c30), (41, .int .i64 n_.Kind), (92, .bool (n_.Kind == 2))] (by kernel_rfl) ?_
    rcases condT hf with ⟨hb282, hf⟩ | ⟨hb282, hf⟩
    · rw [hb282]
      refine seg 1 [.co [1, 1, 1, 1, 1, 1, 0, 1, 0, 1, 1, 1, 0], .bl 0, .co [1, 1, 1, 1, 1, 1, 1]] [(1, .pointer (some (⟨g1, 0, none⟩))), (3, .slice A30 b5.length c30)] (by kernel_rfl) ?_
      obtain ⟨four9, h_four9, hf⟩ := bindE hf
      obtain ⟨b14, h_b14, hf⟩ := bindE hf
      obtain ⟨four10, h_four10, hf⟩ := bindE hf
      obtain ⟨b15, h_b15, hf⟩ := bindE hf
      obtain ⟨four11, h_four11, hf⟩ := bindE hf
      obtain ⟨b16, h_b16, hf⟩ := bindE hf
      have hst : statB (bodyOf Try.f30) [1, 1, 1, 1, 1, 1, 0, 1, 0, 1, 1, 1, 0] = true := by kernel_rfl
      refine drawS (fun w' => Has mk28 w' ∧ w'.heap[g1]? = some (.cells [.int .i64 n_.Kind, .int .i64 n_.Mode, .int .i64 n_.Uid, .int .i64 n_.Gid, .int .i64 n_.Time, .int .i64 n_.Links, .int .i64 n_.Attrs, .int .i64 n_.Size, .int .i64 n_.Start, .slice A0_9 n_.Words.length c0_9, .int .i64 n_.Frag, .int .i64 n_.Off, .int .i64 n_.Tail, .int .i64 n_.Dir, .int .i64 n_.Bytes, .int .i64 n_.Parent, .string ⟨n_.Target.toArray⟩, .int .i64 n_.Dev].toArray 46 (0, 0))) H (by kernel_rfl) (by kernel_rfl) ?_
      intro w292 H
      refine segD2 hst [0, 1, 5, 9] [0, 1, 5, 9] [(94, .slice A30 b5.length c30), (95, .pointer (some (⟨g1, 13, none⟩))), (99, .pointer (some (⟨g1, 14, none⟩))), (103, .pointer (some (⟨g1, 15, none⟩)))] (by kernel_rfl) ?_
      refine takeD2 (i := 2) (d := (some 96)) (s := vS (Instr.loadAt 3 (.pointer (some (⟨g1, 13, none⟩))))) (v := (.int .i64 n_.Dir)) hst (by kernel_rfl) (by kernel_rfl) (fun w' hw' => ld_run _ _ _ (by kernel_rfl) (blk_cell hw'.2 rfl)) ?_
      refine takeD2 (i := 6) (d := (some 100)) (s := vS (Instr.loadAt 3 (.pointer (some (⟨g1, 14, none⟩))))) (v := (.int .i64 n_.Bytes)) hst (by kernel_rfl) (by kernel_rfl) (fun w' hw' => ld_run _ _ _ (by kernel_rfl) (blk_cell hw'.2 rfl)) ?_
      refine takeD2 (i := 10) (d := (some 104)) (s := vS (Instr.loadAt 3 (.pointer (some (⟨g1, 15, none⟩))))) (v := (.int .i64 n_.Parent)) hst (by kernel_rfl) (by kernel_rfl) (fun w' hw' => ld_run _ _ _ (by kernel_rfl) (blk_cell hw'.2 rfl)) ?_
      replace H : St w noF m mk28 [rowI rU8 5 A30 c30 b5, blkI g1 [.int .i64 n_.Kind, .int .i64 n_.Mode, .int .i64 n_.Uid, .int .i64 n_.Gid, .int .i64 n_.Time, .int .i64 n_.Links, .int .i64 n_.Attrs, .int .i64 n_.Size, .int .i64 n_.Start, .slice A0_9 n_.Words.length c0_9, .int .i64 n_.Frag, .int .i64 n_.Off, .int .i64 n_.Tail, .int .i64 n_.Dir, .int .i64 n_.Bytes, .int .i64 n_.Parent, .string ⟨n_.Target.toArray⟩, .int .i64 n_.Dev] 46] w292 := (H.drop 0 rfl)
      refine stD2 (i := 3) (by kernel_rfl) ⟨H.has, H.blk 1 rfl⟩ (callR (some 97) 66 #[.int .i64 n_.Dir] Try.call66 (ref15_four_c H.has n_.Dir h_four9) (by kernel_rfl) ?_)
      rintro _ w293 ⟨A293_0, c293_0, mk293, rfl, hS293⟩
      have hsub293 := hS293.sub
      replace H := H.call0 hS293
      obtain ⟨xs294, hr294, hx294⟩ := H.rowCs' 0 rfl
      refine stD2 (i := 4) (by kernel_rfl) ⟨(H.has.sub hsub293), H.blk 2 rfl⟩ (appS (r := rU8) (some 98) 30 5 1 (.int .u8 0) 30 1 A30 A293_0 c30 four9.length c293_0 b5 four9 b14 _ H rfl ⟨Try.underlying30, by kernel_rfl⟩ rfl (by decide) (by kernel_rfl) hx294 hr294 rfl h_b14 (by decide) (by decide) ?_)
      intro A295 c295 w295 H
      refine stD2 (i := 7) (by kernel_rfl) ⟨(H.has.sub hsub293), H.blk 2 rfl⟩ (callR (some 101) 66 #[.int .i64 n_.Bytes] Try.call66 (ref15_four_c H.has n_.Bytes h_four10) (by kernel_rfl) ?_)
      rintro _ w296 ⟨A296_0, c296_0, mk296, rfl, hS296⟩
      have hsub296 := hS296.sub
      replace H := H.call0 hS296
      obtain ⟨xs297, hr297, hx297⟩ := H.rowCs' 0 rfl
      refine stD2 (i := 8) (by kernel_rfl) ⟨(H.has.sub (hsub293.trans hsub296)), H.blk 3 rfl⟩ (appS (r := rU8) (some 102) 30 5 1 (.int .u8 0) 30 2 A295 A296_0 c295 four10.length c296_0 b14 four10 b15 _ H rfl ⟨Try.underlying30, by kernel_rfl⟩ rfl (by decide) (by kernel_rfl) hx297 hr297 rfl h_b15 (by decide) (by decide) ?_)
      intro A298 c298 w298 H
      replace H : St w noF m mk296 [rowI rU8 5 A298 c298 b15, blkI g1 [.int .i64 n_.Kind, .int .i64 n_.Mode, .int .i64 n_.Uid, .int .i64 n_.Gid, .int .i64 n_.Time, .int .i64 n_.Links, .int .i64 n_.Attrs, .int .i64 n_.Size, .int .i64 n_.Start, .slice A0_9 n_.Words.length c0_9, .int .i64 n_.Frag, .int .i64 n_.Off, .int .i64 n_.Tail, .int .i64 n_.Dir, .int .i64 n_.Bytes, .int .i64 n_.Parent, .string ⟨n_.Target.toArray⟩, .int .i64 n_.Dev] 46] w298 := ((H.drop 1 rfl).drop 0 rfl)
      refine stD2 (i := 11) (by kernel_rfl) ⟨(H.has.sub (hsub293.trans hsub296)), H.blk 1 rfl⟩ (callR (some 105) 66 #[.int .i64 n_.Parent] Try.call66 (ref15_four_c H.has n_.Parent h_four11) (by kernel_rfl) ?_)
      rintro _ w299 ⟨A299_0, c299_0, mk299, rfl, hS299⟩
      have hsub299 := hS299.sub
      replace H := H.call0 hS299
      obtain ⟨xs300, hr300, hx300⟩ := H.rowCs' 0 rfl
      refine stD2 (i := 12) (by kernel_rfl) ⟨(H.has.sub ((hsub293.trans hsub296).trans hsub299)), H.blk 2 rfl⟩ (appS (r := rU8) (some 106) 30 5 1 (.int .u8 0) 30 1 A298 A299_0 c298 four11.length c299_0 b15 four11 b16 _ H rfl ⟨Try.underlying30, by kernel_rfl⟩ rfl (by decide) (by kernel_rfl) hx300 hr300 rfl h_b16 (by decide) (by decide) ?_)
      intro A301 c301 w301 H
      refine segD2 hst [13] [0, 1, 5, 9, 2, 6, 10, 3, 4, 7, 8, 11, 12, 13] [(3, .slice A301 b16.length c301)] (by kernel_rfl) ?_
      refine endD2 (by kernel_rfl) ⟨(H.has.sub ((hsub293.trans hsub296).trans hsub299)), H.blk 2 rfl⟩ ?_
      refine seg 6 [.co [1, 1, 1, 1, 1, 1, 1, 1]] [(2, .slice A301 b16.length c301)] (by kernel_rfl) ?_
      refine retR [2] [.slice A301 b16.length c301] (by kernel_rfl) (by kernel_rfl) (by kernel_rfl) ?_
      have hret := (Option.some.inj hf)
      subst hret
      exact ⟨_, rfl, A301, c301, mk299, rfl, (St.takeN 1 (H.pull 1 rfl))⟩
    · rw [hb282]
      refine seg 6 [.co [1, 1, 1, 1, 1, 1, 0, 1, 0, 1, 1, 1, 1, 1], .bl 0, .co [1, 1, 1, 1, 1, 1, 1]] [(1, .pointer (some (⟨g1, 0, none⟩))), (3, .slice A30 b5.length c30), (107, .bool (n_.Kind == 3))] (by kernel_rfl) ?_
      rcases condT hf with ⟨hb302, hf⟩ | ⟨hb302, hf⟩
      · rw [hb302]
        refine seg 1 [.co [1, 1, 1, 1, 1, 1, 0, 1, 0, 1, 1, 1, 1, 1, 0], .bl 0, .co [1, 1, 1, 1, 1, 1, 1]] [(1, .pointer (some (⟨g1, 0, none⟩))), (3, .slice A30 b5.length c30)] (by kernel_rfl) ?_
        obtain ⟨store4, h_store4, hf⟩ := bindE hf
        obtain ⟨b17, h_b17, hf⟩ := bindE hf
        obtain ⟨b18, h_b18, hf⟩ := bindE hf
        have hst : statB (bodyOf Try.f30) [1, 1, 1, 1, 1, 1, 0, 1, 0, 1, 1, 1, 1, 1, 0] = true := by kernel_rfl
        refine drawS (fun w' => Has mk28 w' ∧ w'.heap[g1]? = some (.cells [.int .i64 n_.Kind, .int .i64 n_.Mode, .int .i64 n_.Uid, .int .i64 n_.Gid, .int .i64 n_.Time, .int .i64 n_.Links, .int .i64 n_.Attrs, .int .i64 n_.Size, .int .i64 n_.Start, .slice A0_9 n_.Words.length c0_9, .int .i64 n_.Frag, .int .i64 n_.Off, .int .i64 n_.Tail, .int .i64 n_.Dir, .int .i64 n_.Bytes, .int .i64 n_.Parent, .string ⟨n_.Target.toArray⟩, .int .i64 n_.Dev].toArray 46 (0, 0))) H (by kernel_rfl) (by kernel_rfl) ?_
        intro w307 H
        refine segD2 hst [0, 1, 7] [0, 1, 7] [(109, .slice A30 b5.length c30), (110, .pointer (some (⟨g1, 16, none⟩))), (116, .pointer (some (⟨g1, 16, none⟩)))] (by kernel_rfl) ?_
        refine takeD2 (i := 2) (d := (some 111)) (s := vS (Instr.loadAt 9 (.pointer (some (⟨g1, 16, none⟩))))) (v := (.string ⟨n_.Target.toArray⟩)) hst (by kernel_rfl) (by kernel_rfl) (fun w' hw' => ld_run _ _ _ (by kernel_rfl) (blk_cell hw'.2 rfl)) ?_
        refine segD2 hst [3, 4] [0, 1, 7, 2, 3, 4] [(109, .slice A30 b5.length c30), (113, .int .u64 (IntKind.u64.wrap (n_.Target.length : Int))), (116, .pointer (some (⟨g1, 16, none⟩)))] (by kernel_rfl) ?_
        rw [q64_wrap (n_.Target.length : Int)]
        refine takeD2 (i := 8) (d := (some 117)) (s := vS (Instr.loadAt 9 (.pointer (some (⟨g1, 16, none⟩))))) (v := (.string ⟨n_.Target.toArray⟩)) hst (by kernel_rfl) (by kernel_rfl) (fun w' hw' => ld_run _ _ _ (by kernel_rfl) (blk_cell hw'.2 rfl)) ?_
        replace H : St w noF m mk28 [rowI rU8 5 A30 c30 b5, blkI g1 [.int .i64 n_.Kind, .int .i64 n_.Mode, .int .i64 n_.Uid, .int .i64 n_.Gid, .int .i64 n_.Time, .int .i64 n_.Links, .int .i64 n_.Attrs, .int .i64 n_.Size, .int .i64 n_.Start, .slice A0_9 n_.Words.length c0_9, .int .i64 n_.Frag, .int .i64 n_.Off, .int .i64 n_.Tail, .int .i64 n_.Dir, .int .i64 n_.Bytes, .int .i64 n_.Parent, .string ⟨n_.Target.toArray⟩, .int .i64 n_.Dev] 46] w307 := (H.drop 0 rfl)
        refine stD2 (i := 5) (by kernel_rfl) ⟨H.has, H.blk 1 rfl⟩ (callR (some 114) 46 #[.int .u64 ((UInt64.ofInt (n_.Target.length : Int)).toNat : Int), .int .i64 2] Try.call46 (ref01_Store_c H.has (UInt64.ofInt (n_.Target.length : Int)) 2 h_store4) (by kernel_rfl) ?_)
        rintro _ w308 ⟨A308_0, c308_0, mk308, rfl, hS308⟩
        have hsub308 := hS308.sub
        replace H := H.call0 hS308
        obtain ⟨xs309, hr309, hx309⟩ := H.rowCs' 0 rfl
        refine stD2 (i := 6) (by kernel_rfl) ⟨(H.has.sub hsub308), H.blk 2 rfl⟩ (appS (r := rU8) (some 115) 30 5 1 (.int .u8 0) 30 1 A30 A308_0 c30 store4.length c308_0 b5 store4 b17 _ H rfl ⟨Try.underlying30, by kernel_rfl⟩ rfl (by decide) (by kernel_rfl) hx309 hr309 rfl h_b17 (by decide) (by decide) ?_)
        intro A310 c310 w310 H
        refine stD2 (i := 9) (by kernel_rfl) ⟨(H.has.sub hsub308), H.blk 2 rfl⟩ (appstrS (some 118) 30 9 5 30 1 A310 c310 b17 n_.Target b18 H rfl ⟨Try.underlying30, by kernel_rfl⟩ Try.underlying9 (by kernel_rfl) h_b18 ?_)
        intro A311 c311 w311 H
        refine segD2 hst [10] [0, 1, 7, 2, 3, 4, 8, 5, 6, 9, 10] [(3, .slice A311 b18.length c311)] (by kernel_rfl) ?_
        refine endD2 (by kernel_rfl) ⟨(H.has.sub hsub308), H.blk 2 rfl⟩ ?_
        refine seg 6 [.co [1, 1, 1, 1, 1, 1, 1, 1]] [(2, .slice A311 b18.length c311)] (by kernel_rfl) ?_
        refine retR [2] [.slice A311 b18.length c311] (by kernel_rfl) (by kernel_rfl) (by kernel_rfl) ?_
        have hret := (Option.some.inj hf)
        subst hret
        exact ⟨_, rfl, A311, c311, mk308, rfl, (St.takeN 1 (H.pull 1 rfl))⟩
      · rw [hb302]
        refine seg 4 [.op [1, 1, 1, 1, 1, 1, 0, 1, 0, 1, 1, 1, 1, 1, 1] 2, .bl 0, .co [1, 1, 1, 1, 1, 1, 1]] [(42, .slice A30 b5.length c30), (43, .pointer (some (⟨g1, 17, none⟩)))] (by kernel_rfl) ?_
        refine st (ldR (some 44) 3 (⟨g1, 17, none⟩) (.int .i64 n_.Dev) (by kernel_rfl) (by kernel_rfl) (H.cellB 2 rfl rfl) ?_)
        obtain ⟨four12, h_four12, hf⟩ := bindE hf
        refine st (callR (some 45) 66 #[.int .i64 n_.Dev] Try.call66 (ref15_four_c H.has n_.Dev h_four12) (by kernel_rfl) ?_)
        rintro _ w312 ⟨A312_0, c312_0, mk312, rfl, hS312⟩
        have hsub312 := hS312.sub
        replace H := H.call0 hS312
        replace H : St w noF m mk312 [rowI rU8 5 A312_0 c312_0 four12, rowI rU8 5 A30 c30 b5] w312 := ((H.drop 3 rfl).drop 1 rfl)
        obtain ⟨xs313, hr313, hx313⟩ := H.rowCs' 0 rfl
        obtain ⟨b19, h_b19, hf⟩ := bindE hf
        refine st (appS (r := rU8) (some 46) 30 5 1 (.int .u8 0) 30 1 A30 A312_0 c30 four12.length c312_0 b5 four12 b19 _ H rfl ⟨Try.underlying30, by kernel_rfl⟩ rfl (by decide) (by kernel_rfl) hx313 hr313 rfl h_b19 (by decide) (by decide) ?_)
        intro A314 c314 w314 H
        refine seg 8 [.co [1, 1, 1, 1, 1, 1, 1, 1]] [(2, .slice A314 b19.length c314)] (by kernel_rfl) ?_
        refine retR [2] [.slice A314 b19.length c314] (by kernel_rfl) (by kernel_rfl) (by kernel_rfl) ?_
        have hret := (Option.some.inj hf)
        subst hret
        exact ⟨_, rfl, A314, c314, mk312, rfl, (St.takeN 1 (H.pull 1 rfl))⟩
end Go.Proofs.Ytebbaokcgnjfiaa.F
