/- The code computes them: printed by lift.py, part 2. -/
import Derived.Test.YtebbaokcgnjfiaaProg
import Derived.Test.YtebbaokcgnjfiaaLDP
import Derived.Test.YtebbaokcgnjfiaaLD1
set_option linter.unusedVariables false
set_option linter.unusedSimpArgs false
namespace Go.Proofs.Ytebbaokcgnjfiaa.F
open Go Go.RowKit Go.Proofs.Ytebbaokcgnjfiaa Go.Proofs.Ytebbaokcgnjfiaa.K
set_option maxRecDepth 100000
theorem field_Reader_Left_c {m : Mem} {w : World} (hm : Has m w) (g0 : Nat) (r_ : TFieldReader) (A0_0 : Option Addr) (c0_0 : Nat) (s0_0 : SlI rU8 m A0_0 c0_0 r_.f_b) {F : Nat → Prop} (hsep : Sep m w [blkI g0 [.slice A0_0 r_.f_b.length c0_0, .int .i64 r_.f_at, .int .i64 r_.f_e] 117] F) (hF : ∀ k, F k → m k = none) {r : Int} (hf : field_Reader_Left r_ = some r) :
    Calls Try.prog 48 #[.pointer (some (⟨g0, 0, none⟩))] w fun e w' => ∃ v, e = .returned v ∧ ∃ m' : Mem, v = .int .i64 r ∧ St w F m m' [blkI g0 [.slice A0_0 r_.f_b.length c0_0, .int .i64 r_.f_at, .int .i64 r_.f_e] 117] w' := by
  unfold field_Reader_Left at hf
  have H := St.start hm hsep hF
  refine callsR Try.func48 (by kernel_rfl) (by kernel_rfl) ?_
  refine seg 13 [.co [1, 1, 0], .co [1, 1, 1]] [(0, .pointer (some (⟨g0, 0, none⟩)))] (by kernel_rfl) ?_
  have hst : statB (bodyOf Try.f48) [1, 1, 0] = true := by kernel_rfl
  refine drawS (fun w' => Has m w' ∧ w'.heap[g0]? = some (.cells [.slice A0_0 r_.f_b.length c0_0, .int .i64 r_.f_at, .int .i64 r_.f_e].toArray 117 (0, 0))) H (by kernel_rfl) (by kernel_rfl) ?_
  intro w1 H
  refine segD2 hst [0, 1, 2, 5, 6, 7] [0, 1, 2, 5, 6, 7] [(7, .pointer (some (⟨g0, 0, none⟩))), (12, .pointer (some (⟨g0, 1, none⟩)))] (by kernel_rfl) ?_
  refine takeD2 (i := 3) (d := (some 8)) (s := vS (Instr.loadAt 30 (.pointer (some (⟨g0, 0, none⟩))))) (v := (.slice A0_0 r_.f_b.length c0_0)) hst (by kernel_rfl) (by kernel_rfl) (fun w' hw' => ld_run _ _ _ (by kernel_rfl) (blk_cell hw'.2 rfl)) ?_
  refine segD2 hst [4] [0, 1, 2, 5, 6, 7, 3, 4] [(9, .int .i64 (r_.f_b.length : Int)), (12, .pointer (some (⟨g0, 1, none⟩)))] (by kernel_rfl) ?_
  refine stD2 (i := 8) (by kernel_rfl) ⟨H.has, H.blk 0 rfl⟩ (ldR (some 13) 3 (⟨g0, 1, none⟩) (.int .i64 r_.f_at) (by kernel_rfl) (by kernel_rfl) (H.cellB 0 rfl rfl) ?_)
  refine segD2 hst [9] [0, 1, 2, 5, 6, 7, 3, 4, 8, 9] [(14, .int .i64 (IntKind.i64.wrap ((r_.f_b.length : Int) - r_.f_at)))] (by kernel_rfl) ?_
  refine segD2 hst [10] [0, 1, 2, 5, 6, 7, 3, 4, 8, 9, 10] [(2, .int .i64 (IntKind.i64.wrap ((r_.f_b.length : Int) - r_.f_at)))] (by kernel_rfl) ?_
  refine endD2 (by kernel_rfl) ⟨H.has, H.blk 0 rfl⟩ ?_
  refine retR [2] [.int .i64 (IntKind.i64.wrap ((r_.f_b.length : Int) - r_.f_at))] (by kernel_rfl) (by kernel_rfl) (by kernel_rfl) ?_
  obtain rfl : (IntKind.i64.wrap ((r_.f_b.length : Int) - r_.f_at)) = r := (Option.some.inj hf)
  exact ⟨_, rfl, m, rfl, H⟩
theorem field_within_c {m : Mem} {w : World} (hm : Has m w) (b : (List UInt8)) (A0_0 : Option Addr) (c0_0 : Nat) (s0_0 : SlI rU8 m A0_0 c0_0 b) (at_ : Int) (n_ : Int) :
    Calls Try.prog 98 #[.slice A0_0 b.length c0_0, .int .i64 at_, .int .i64 n_] w fun e w' => ∃ v, e = .returned v ∧ v = .bool (field_within b at_ n_) ∧ Ex w w' := by
  generalize hf : field_within b at_ n_ = r
  unfold field_within at hf
  have H := St.start0 hm
  refine callsR Try.func98 (by kernel_rfl) (by kernel_rfl) ?_
  refine seg 9 [.op [1, 0] 3, .co [1, 1]] [(0, .slice A0_0 b.length c0_0), (1, .int .i64 at_), (2, .int .i64 n_), (9, .bool (decide (at_ ≥ 0)))] (by kernel_rfl) ?_
  rcases condT hf with ⟨hb4, hf⟩ | ⟨hb4, hf⟩
  · rw [hb4]
    have p4 := of_decide_eq_true hb4
    refine seg 4 [.op [1, 0] 7, .co [1, 1]] [(0, .slice A0_0 b.length c0_0), (1, .int .i64 at_), (2, .int .i64 n_), (13, .bool (decide (n_ ≥ 0)))] (by kernel_rfl) ?_
    rcases condT hf with ⟨hb5, hf⟩ | ⟨hb5, hf⟩
    · rw [hb5]
      have p5 := of_decide_eq_true hb5
      refine seg 6 [.op [1, 0] 13, .co [1, 1]] [(0, .slice A0_0 b.length c0_0), (1, .int .i64 at_), (2, .int .i64 n_), (19, .bool (decide (n_ ≤ (b.length : Int))))] (by kernel_rfl) ?_
      rcases condT hf with ⟨hb6, hf⟩ | ⟨hb6, hf⟩
      · rw [hb6]
        have p6 := of_decide_eq_true hb6
        refine seg 9 [.co [1, 1]] [(6, .bool (decide (at_ ≤ (IntKind.i64.wrap ((b.length : Int) - n_)))))] (by kernel_rfl) ?_
        have := s0_0.bound
        rw [show IntKind.i64.wrap ((b.length : Int) - n_) = ((b.length : Int) - n_) from w64 (by omega)]
        refine retR [6] [.bool (decide (at_ ≤ ((b.length : Int) - n_)))] (by kernel_rfl) (by kernel_rfl) (by kernel_rfl) ?_
        obtain rfl : (decide (at_ ≤ ((b.length : Int) - n_))) = r := hf
        exact ⟨_, rfl, rfl, H.scalar⟩
      · rw [hb6]
        have p6 := of_decide_eq_false hb6
        refine seg 9 [.co [1, 1]] [(6, .bool false)] (by kernel_rfl) ?_
        refine retR [6] [.bool false] (by kernel_rfl) (by kernel_rfl) (by kernel_rfl) ?_
        have hret := hf
        subst hret
        exact ⟨_, rfl, rfl, H.scalar⟩
    · rw [hb5]
      have p5 := of_decide_eq_false hb5
      refine seg 15 [.co [1, 1]] [(6, .bool false)] (by kernel_rfl) ?_
      refine retR [6] [.bool false] (by kernel_rfl) (by kernel_rfl) (by kernel_rfl) ?_
      have hret := hf
      subst hret
      exact ⟨_, rfl, rfl, H.scalar⟩
  · rw [hb4]
    have p4 := of_decide_eq_false hb4
    refine seg 19 [.co [1, 1]] [(6, .bool false)] (by kernel_rfl) ?_
    refine retR [6] [.bool false] (by kernel_rfl) (by kernel_rfl) (by kernel_rfl) ?_
    have hret := hf
    subst hret
    exact ⟨_, rfl, rfl, H.scalar⟩
theorem field_Reader_take_c {m : Mem} {w : World} (hm : Has m w) (g0 : Nat) (r_ : TFieldReader) (A0_0 : Option Addr) (c0_0 : Nat) (s0_0 : SlI rU8 m A0_0 c0_0 r_.f_b) (n_ : Int) {F : Nat → Prop} (hsep : Sep m w [blkI g0 [.slice A0_0 r_.f_b.length c0_0, .int .i64 r_.f_at, .int .i64 r_.f_e] 117] F) (hF : ∀ k, F k → m k = none) {r : ((List UInt8) × TFieldReader)} (hf : field_Reader_take r_ n_ = some r) :
    Calls Try.prog 84 #[.pointer (some (⟨g0, 0, none⟩)), .int .i64 n_] w fun e w' => ∃ v, e = .returned v ∧ ∃ Az_0 : Option Addr, ∃ cz_0 : Nat, ∃ Az_o0_0 : Option Addr, ∃ cz_o0_0 : Nat, ∃ m' : Mem, v = .slice Az_0 r.1.length cz_0 ∧ St w F m m' [blkI g0 [.slice Az_o0_0 r.2.f_b.length cz_o0_0, .int .i64 r.2.f_at, .int .i64 r.2.f_e] 117] w' ∧ SlI rU8 m' Az_0 cz_0 r.1 ∧ SlI rU8 m' Az_o0_0 cz_o0_0 r.2.f_b := by
  unfold field_Reader_take at hf
  have H := St.start hm hsep hF
  refine callsR Try.func84 (by kernel_rfl) (by kernel_rfl) ?_
  refine seg 13 [.op [1, 0, 0] 6, .co [1, 0, 1], .co [1, 1]] [(0, .pointer (some (⟨g0, 0, none⟩))), (1, .int .i64 n_), (7, .bool false), (10, .pointer (some (⟨g0, 2, none⟩)))] (by kernel_rfl) ?_
  refine st (ldR (some 11) 31 (⟨g0, 2, none⟩) (.int .i64 r_.f_e) (by kernel_rfl) (by kernel_rfl) (H.cellB 0 rfl rfl) ?_)
  refine seg 3 [.co [1, 0, 1], .co [1, 1]] [(0, .pointer (some (⟨g0, 0, none⟩))), (1, .int .i64 n_), (13, .bool (r_.f_e != 0))] (by kernel_rfl) ?_
  rcases condT hf with ⟨hb2, hf⟩ | ⟨hb2, hf⟩
  · rw [hb2]
    refine seg 5 [.co [1, 0, 1, 0, 1], .co [1, 1]] [(4, .slice none 0 0)] (by kernel_rfl) ?_
    refine retR [4] [.slice none 0 0] (by kernel_rfl) (by kernel_rfl) (by kernel_rfl) ?_
    obtain rfl : ([], r_) = r := (Option.some.inj hf)
    exact ⟨_, rfl, none, 0, A0_0, c0_0, m, rfl, H, (SlI.nil _ _), s0_0⟩
  · rw [hb2]
    refine seg 10 [.co [1, 1, 0, 0, 1], .bl 0, .co [1, 1, 1]] [(0, .pointer (some (⟨g0, 0, none⟩))), (1, .int .i64 n_), (14, .bool (decide (n_ < 0)))] (by kernel_rfl) ?_
    rcases condT hf with ⟨hb15, hf⟩ | ⟨hb15, hf⟩
    · rw [hb15]
      have p15 := of_decide_eq_true hb15
      refine seg 6 [.op [1, 1, 0, 0, 1, 0, 0] 3, .co [1, 1, 0, 0, 1, 0, 1], .bl 0, .co [1, 1, 1]] [(19, .pointer (some (⟨g0, 2, none⟩)))] (by kernel_rfl) ?_
      refine st (stS none 31 0 g0 2 (.int .i64 1) [.slice A0_0 r_.f_b.length c0_0, .int .i64 r_.f_at, .int .i64 r_.f_e] 117 H rfl (by kernel_rfl) (by kernel_rfl) rfl (of_decide_eq_true rfl) ?_)
      intro w16 H
      refine seg 5 [.co [1, 1, 0, 0, 1, 0, 1, 1], .bl 0, .co [1, 1, 1]] [(4, .slice none 0 0)] (by kernel_rfl) ?_
      refine retR [4] [.slice none 0 0] (by kernel_rfl) (by kernel_rfl) (by kernel_rfl) ?_
      obtain rfl : ([], ({ f_b := r_.f_b, f_at := r_.f_at, f_e := 1 } : TFieldReader)) = r := (Option.some.inj hf)
      exact ⟨_, rfl, none, 0, A0_0, c0_0, m, rfl, H, (SlI.nil _ _), s0_0⟩
    · rw [hb15]
      have p15 := of_decide_eq_false hb15
      refine seg 2 [.co [1, 1, 0, 0, 1, 1, 0], .co [1, 1, 0, 0, 1, 1, 1], .bl 0, .co [1, 1, 1]] [(0, .pointer (some (⟨g0, 0, none⟩))), (1, .int .i64 n_)] (by kernel_rfl) ?_
      have hst : statB (bodyOf Try.f84) [1, 1, 0, 0, 1, 1, 0] = true := by kernel_rfl
      refine drawS (fun w' => Has m w' ∧ w'.heap[g0]? = some (.cells [.slice A0_0 r_.f_b.length c0_0, .int .i64 r_.f_at, .int .i64 r_.f_e].toArray 117 (0, 0))) H (by kernel_rfl) (by kernel_rfl) ?_
      intro w18 H
      refine segD2 hst [0, 1, 2, 4, 5, 6, 8] [0, 1, 2, 4, 5, 6, 8] [(0, .pointer (some (⟨g0, 0, none⟩))), (1, .int .i64 n_), (23, .pointer (some (⟨g0, 0, none⟩))), (27, .pointer (some (⟨g0, 1, none⟩))), (29, .int .i64 n_)] (by kernel_rfl) ?_
      refine takeD2 (i := 3) (d := (some 24)) (s := vS (Instr.loadAt 30 (.pointer (some (⟨g0, 0, none⟩))))) (v := (.slice A0_0 r_.f_b.length c0_0)) hst (by kernel_rfl) (by kernel_rfl) (fun w' hw' => ld_run _ _ _ (by kernel_rfl) (blk_cell hw'.2 rfl)) ?_
      replace H : St w F m m [blkI g0 [.slice A0_0 r_.f_b.length c0_0, .int .i64 r_.f_at, .int .i64 r_.f_e] 117] w18 := H
      refine stD2 (i := 7) (by kernel_rfl) ⟨H.has, H.blk 0 rfl⟩ (ldR (some 28) 3 (⟨g0, 1, none⟩) (.int .i64 r_.f_at) (by kernel_rfl) (by kernel_rfl) (H.cellB 0 rfl rfl) ?_)
      refine stD2 (i := 9) (by kernel_rfl) ⟨H.has, H.blk 0 rfl⟩ (callR (some 30) 98 #[.slice A0_0 r_.f_b.length c0_0, .int .i64 r_.f_at, .int .i64 n_] Try.call98 (field_within_c H.has r_.f_b A0_0 c0_0 s0_0 r_.f_at n_) (by kernel_rfl) ?_)
      rintro _ w19 ⟨rfl, hx19⟩
      replace H := H.ex hx19
      refine segD2 hst [10] [0, 1, 2, 4, 5, 6, 8, 3, 7, 9, 10] [(0, .pointer (some (⟨g0, 0, none⟩))), (1, .int .i64 n_), (31, .bool (!(field_within r_.f_b r_.f_at n_)))] (by kernel_rfl) ?_
      refine segD2 hst [11] [0, 1, 2, 4, 5, 6, 8, 3, 7, 9, 10, 11] [(0, .pointer (some (⟨g0, 0, none⟩))), (1, .int .i64 n_), (20, .bool (!(field_within r_.f_b r_.f_at n_)))] (by kernel_rfl) ?_
      refine endD2 (by kernel_rfl) ⟨H.has, H.blk 0 rfl⟩ ?_
      rcases condT hf with ⟨hb20, hf⟩ | ⟨hb20, hf⟩
      · rw [hb20]
        refine seg 8 [.op [1, 1, 1, 0] 3, .co [1, 1, 1, 1]] [(0, .pointer (some (⟨g0, 0, none⟩))), (1, .int .i64 n_), (35, .pointer (some (⟨g0, 0, none⟩))), (37, .pointer (some (⟨g0, 1, none⟩)))] (by kernel_rfl) ?_
        refine st (ldR (some 38) 3 (⟨g0, 1, none⟩) (.int .i64 r_.f_at) (by kernel_rfl) (by kernel_rfl) (H.cellB 0 rfl rfl) ?_)
        refine seg 4 [.op [1, 1, 1, 0] 8, .co [1, 1, 1, 1]] [(0, .pointer (some (⟨g0, 0, none⟩))), (1, .int .i64 n_), (40, .int .i64 (IntKind.i64.wrap (r_.f_at + n_))), (42, .pointer (some (⟨g0, 1, none⟩)))] (by kernel_rfl) ?_
        refine st (stS none 3 0 g0 1 (.int .i64 (IntKind.i64.wrap (r_.f_at + n_))) [.slice A0_0 r_.f_b.length c0_0, .int .i64 r_.f_at, .int .i64 r_.f_e] 117 H rfl (by kernel_rfl) (by kernel_rfl) rfl (of_decide_eq_true rfl) ?_)
        intro w21 H
        refine seg 2 [.co [1, 1, 1, 1, 0], .co [1, 1, 1, 1, 1]] [(0, .pointer (some (⟨g0, 0, none⟩))), (1, .int .i64 n_)] (by kernel_rfl) ?_
        obtain ⟨y_, h_y_, hf⟩ := bindE hf
        have hst : statB (bodyOf Try.f84) [1, 1, 1, 1, 0] = true := by kernel_rfl
        refine drawS (fun w' => Has m w' ∧ w'.heap[g0]? = some (.cells [.slice A0_0 r_.f_b.length c0_0, .int .i64 (IntKind.i64.wrap (r_.f_at + n_)), .int .i64 r_.f_e].toArray 117 (0, 0))) H (by kernel_rfl) (by kernel_rfl) ?_
        intro w23 H
        refine segD2 hst [0, 1, 2, 4, 5, 6, 8, 10, 11, 12] [0, 1, 2, 4, 5, 6, 8, 10, 11, 12] [(45, .pointer (some (⟨g0, 0, none⟩))), (49, .pointer (some (⟨g0, 1, none⟩))), (51, .int .i64 n_), (55, .pointer (some (⟨g0, 1, none⟩)))] (by kernel_rfl) ?_
        refine takeD2 (i := 3) (d := (some 46)) (s := vS (Instr.loadAt 30 (.pointer (some (⟨g0, 0, none⟩))))) (v := (.slice A0_0 r_.f_b.length c0_0)) hst (by kernel_rfl) (by kernel_rfl) (fun w' hw' => ld_run _ _ _ (by kernel_rfl) (blk_cell hw'.2 rfl)) ?_
        refine takeD2 (i := 7) (d := (some 50)) (s := vS (Instr.loadAt 3 (.pointer (some (⟨g0, 1, none⟩))))) (v := (.int .i64 (IntKind.i64.wrap (r_.f_at + n_)))) hst (by kernel_rfl) (by kernel_rfl) (fun w' hw' => ld_run _ _ _ (by kernel_rfl) (blk_cell hw'.2 rfl)) ?_
        refine segD2 hst [9] [0, 1, 2, 4, 5, 6, 8, 10, 11, 12, 3, 7, 9] [(46, .slice A0_0 r_.f_b.length c0_0), (52, .int .i64 (IntKind.i64.wrap ((IntKind.i64.wrap (r_.f_at + n_)) - n_))), (55, .pointer (some (⟨g0, 1, none⟩)))] (by kernel_rfl) ?_
        refine stD2 (i := 13) (by kernel_rfl) ⟨H.has, H.blk 0 rfl⟩ (ldR (some 56) 3 (⟨g0, 1, none⟩) (.int .i64 (IntKind.i64.wrap (r_.f_at + n_))) (by kernel_rfl) (by kernel_rfl) (H.cellB 0 rfl rfl) ?_)
        refine stD2 (i := 14) (by kernel_rfl) ⟨H.has, H.blk 0 rfl⟩ (sliS (r := rU8) (some 57) 30 5 A0_0 c0_0 r_.f_b y_ (some (.int .i64 (IntKind.i64.wrap ((IntKind.i64.wrap (r_.f_at + n_)) - n_)))) (some (.int .i64 (IntKind.i64.wrap (r_.f_at + n_)))) (IntKind.i64.wrap ((IntKind.i64.wrap (r_.f_at + n_)) - n_)) (IntKind.i64.wrap (r_.f_at + n_)) s0_0 (by kernel_rfl) (by kernel_rfl) (.inr ⟨_, rfl⟩) (.inr ⟨_, rfl⟩) h_y_ ?_)
        intro A24 c24 hs24
        refine segD2 hst [15] [0, 1, 2, 4, 5, 6, 8, 10, 11, 12, 3, 7, 9, 13, 14, 15] [(4, .slice A24 y_.length c24)] (by kernel_rfl) ?_
        refine endD2 (by kernel_rfl) ⟨H.has, H.blk 0 rfl⟩ ?_
        refine retR [4] [.slice A24 y_.length c24] (by kernel_rfl) (by kernel_rfl) (by kernel_rfl) ?_
        obtain rfl : (y_, ({ f_b := r_.f_b, f_at := (IntKind.i64.wrap (r_.f_at + n_)), f_e := r_.f_e } : TFieldReader)) = r := (Option.some.inj hf)
        exact ⟨_, rfl, A24, c24, A0_0, c0_0, m, rfl, H, hs24, s0_0⟩
      · rw [hb20]
        refine seg 6 [.op [1, 1, 0, 0, 1, 1, 1, 0, 0] 3, .co [1, 1, 0, 0, 1, 1, 1, 0, 1], .bl 0, .co [1, 1, 1]] [(34, .pointer (some (⟨g0, 2, none⟩)))] (by kernel_rfl) ?_
        refine st (stS none 31 0 g0 2 (.int .i64 6) [.slice A0_0 r_.f_b.length c0_0, .int .i64 r_.f_at, .int .i64 r_.f_e] 117 H rfl (by kernel_rfl) (by kernel_rfl) rfl (of_decide_eq_true rfl) ?_)
        intro w25 H
        refine seg 5 [.co [1, 1, 0, 0, 1, 1, 1, 0, 1, 1], .bl 0, .co [1, 1, 1]] [(4, .slice none 0 0)] (by kernel_rfl) ?_
        refine retR [4] [.slice none 0 0] (by kernel_rfl) (by kernel_rfl) (by kernel_rfl) ?_
        obtain rfl : ([], ({ f_b := r_.f_b, f_at := r_.f_at, f_e := 6 } : TFieldReader)) = r := (Option.some.inj hf)
        exact ⟨_, rfl, none, 0, A0_0, c0_0, m, rfl, H, (SlI.nil _ _), s0_0⟩
theorem field_load_c {m : Mem} {w : World} (hm : Has m w) (b : (List UInt8)) (A0_0 : Option Addr) (c0_0 : Nat) (s0_0 : SlI rU8 m A0_0 c0_0 b) {r : UInt64} (hf : field_load b = some r) :
    Calls Try.prog 83 #[.slice A0_0 b.length c0_0] w fun e w' => ∃ v, e = .returned v ∧ v = .int .u64 (r.toNat : Int) ∧ Ex w w' := by
  unfold field_load at hf
  have H := St.start0 hm
  refine callsR Try.func83 (by kernel_rfl) (by kernel_rfl) ?_
  refine seg 15 [.co [1, 1, 0, 1], .co [1, 1, 1]] [(0, .slice A0_0 b.length c0_0), (3, .int .u64 0), (6, .int .i64 (b.length : Int)), (7, .int .i64 0)] (by kernel_rfl) ?_
  obtain ⟨y32, hp32, hf⟩ := bindE hf
  refine joinR 0 (fun (x : UInt64) => [(3, .int .u64 (x.toNat : Int))]) (fun (x : UInt64) (wj32 : World) => y32 = x ∧ St w noF m m [] wj32) (by kernel_rfl) ?_ ?_
  · refine seg 1 [.co [1, 1, 0, 1, 0], .bl 0, .le 0, .co [1, 1, 1]] [(0, .slice A0_0 b.length c0_0), (3, .int .u64 0), (6, .int .i64 (b.length : Int)), (7, .int .i64 0)] (by kernel_rfl) ?_
    obtain ⟨nn43, hR43⟩ := loopO_iff.1 hp32
    refine loopR 1 (fun (x : Nat × UInt64 × Nat) => [(0, .slice A0_0 b.length c0_0), (3, .int .u64 (x.2.1.toNat : Int)), (6, .int .i64 (b.length : Int)), (7, .int .i64 (x.2.2 : Int))]) (fun (x : Nat × UInt64 × Nat) (wl43 : World) => iter (fun s => field_load_l1 b s.1 s.2) x.1 (x.2.1, x.2.2) = some y32 ∧ St w noF m m [] wl43) (fun (x : Nat × UInt64 × Nat) => x.1) (nn43, (0 : UInt64), 0) (by kernel_rfl) (by kernel_rfl) (by kernel_rfl) ?_ ?_
    · exact ⟨hR43, H⟩
    rintro ⟨n43, n_, t⟩ wl43 ⟨hR43, H⟩
    try dsimp only at hR43
    try dsimp only at H
    obtain ⟨nk43, q43, rfl, hb_43, hnx43, hfin43⟩ := iterE hR43
    replace hb_43 : field_load_l1 b n_ t = some q43 := hb_43
    unfold field_load_l1 at hb_43
    refine seg 5 [.co [1, 1, 0, 1, 0, 0, 1, 0], .co [1, 1, 0, 1, 0, 0, 1, 1], .le 1, .bl 0, .le 0, .co [1, 1, 1]] [(0, .slice A0_0 b.length c0_0), (3, .int .u64 (n_.toNat : Int)), (6, .int .i64 (b.length : Int)), (7, .int .i64 (t : Int)), (8, .bool (decide ((t : Int) < (b.length : Int))))] (by kernel_rfl) ?_
    rcases condT hb_43 with ⟨hb45, hb_43⟩ | ⟨hb45, hb_43⟩
    · rw [hb45]
      have p45 := of_decide_eq_true hb45
      refine seg 13 [.op [1, 1, 0, 1, 0, 0, 1, 1, 0, 0, 1] 3, .bl 1, .co [1, 1, 0, 1, 0, 0, 1, 1, 1], .le 1, .bl 0, .le 0, .co [1, 1, 1]] [(0, .slice A0_0 b.length c0_0), (4, .int .i64 (t : Int)), (6, .int .i64 (b.length : Int)), (7, .int .i64 (t : Int)), (10, .int .u64 (n_.toNat : Int)), (11, .slice A0_0 b.length c0_0), (12, .int .i64 (t : Int))] (by kernel_rfl) ?_
      obtain ⟨x_, h_x_, hb_43⟩ := bindE hb_43
      obtain ⟨ad47, _, ea47, rfl, hc47⟩ := s0_0.at_ h_x_ (by decide)
      refine st (idxS (some 13) 30 5 1 A0_0 ad47 b.length c0_0 .i64 (t : Int) ea47 (by kernel_rfl) (by kernel_rfl) (by omega) (by have := (List.getElem?_eq_some_iff.1 h_x_).1; omega) ?_)
      refine st (ldR (some 14) 5 (ad47.add (t * 1)) (.int .u8 (x_.toNat : Int)) (by kernel_rfl) (by kernel_rfl) (H.cellI (mc0 (hc47 0 _ rfl))) ?_)
      refine seg 3 [.op [1, 1, 0, 1, 0, 0, 1, 1, 0, 0, 1] 8, .bl 1, .co [1, 1, 0, 1, 0, 0, 1, 1, 1], .le 1, .bl 0, .le 0, .co [1, 1, 1]] [(0, .slice A0_0 b.length c0_0), (6, .int .i64 (b.length : Int)), (7, .int .i64 (t : Int)), (10, .int .u64 (n_.toNat : Int)), (15, .int .u64 (IntKind.u64.wrap (x_.toNat : Int))), (17, .int .i64 (IntKind.i64.wrap (8 * (t : Int))))] (by kernel_rfl) ?_
      rw [q64_u8 x_]
      obtain ⟨hc48, hb_43⟩ := chkE hb_43
      refine st (runR (by kernel_rfl : fetch _ _ _ _ _ = some ((some 18), vS (Op.shift .shl .u64 (x_.toUInt64.toNat : Int) .i64 (IntKind.i64.wrap (8 * (t : Int)))))) (shl64_run _ _ (of_decide_eq_true hc48)) ?_)
      refine seg 8 [.le 1, .bl 0, .le 0, .co [1, 1, 1]] [(0, .slice A0_0 b.length c0_0), (3, .int .u64 (Go.bits .or .u64 (n_.toNat : Int) ((shl64 x_.toUInt64 (IntKind.i64.wrap (8 * (t : Int)))).toNat : Int))), (6, .int .i64 (b.length : Int)), (7, .int .i64 (IntKind.i64.wrap ((t : Int) + 1)))] (by kernel_rfl) ?_
      rw [q64_or n_ (shl64 x_.toUInt64 (IntKind.i64.wrap (8 * (t : Int)))) (n_.toNat : Int) ((shl64 x_.toUInt64 (IntKind.i64.wrap (8 * (t : Int)))).toNat : Int) (by rfl) (by rfl)]
      have := s0_0.bound
      rw [show IntKind.i64.wrap ((t : Int) + 1) = ((t : Int) + 1) from w64 (by omega)]
      refine leR (nk43, (n_ ||| (shl64 x_.toUInt64 (IntKind.i64.wrap (8 * (t : Int))))), (t + 1)) (Nat.lt_succ_self _) ⟨hnx43 _ (Option.some.inj hb_43).symm, H⟩ (by kernel_rfl)
    · rw [hb45]
      have p45 := of_decide_eq_false hb45
      refine seg 2 [.le 0, .co [1, 1, 1]] [(3, .int .u64 (n_.toNat : Int))] (by kernel_rfl) ?_
      refine leR_up (k' := []) (by rfl) ?_
      refine leJ (n_) ⟨(hfin43 _ (Option.some.inj hb_43).symm).symm, H⟩ (by kernel_rfl)
  rintro n_ wj32 ⟨hy32, H⟩
  rw [hy32] at hf
  refine seg 5 [.co [1, 1, 1, 1]] [(2, .int .u64 (n_.toNat : Int))] (by kernel_rfl) ?_
  refine retR [2] [.int .u64 (n_.toNat : Int)] (by kernel_rfl) (by kernel_rfl) (by kernel_rfl) ?_
  have hret := (Option.some.inj hf)
  subst hret
  exact ⟨_, rfl, rfl, H.scalar⟩
theorem field_Reader_Num_c {m : Mem} {w : World} (hm : Has m w) (g0 : Nat) (r_ : TFieldReader) (A0_0 : Option Addr) (c0_0 : Nat) (s0_0 : SlI rU8 m A0_0 c0_0 r_.f_b) (width : Int) {F : Nat → Prop} (hsep : Sep m w [blkI g0 [.slice A0_0 r_.f_b.length c0_0, .int .i64 r_.f_at, .int .i64 r_.f_e] 117] F) (hF : ∀ k, F k → m k = none) {r : (UInt64 × TFieldReader)} (hf : field_Reader_Num r_ width = some r) :
    Calls Try.prog 49 #[.pointer (some (⟨g0, 0, none⟩)), .int .i64 width] w fun e w' => ∃ v, e = .returned v ∧ ∃ Az_o0_0 : Option Addr, ∃ cz_o0_0 : Nat, ∃ m' : Mem, v = .int .u64 (r.1.toNat : Int) ∧ St w F m m' [blkI g0 [.slice Az_o0_0 r.2.f_b.length cz_o0_0, .int .i64 r.2.f_at, .int .i64 r.2.f_e] 117] w' ∧ SlI rU8 m' Az_o0_0 cz_o0_0 r.2.f_b := by
  unfold field_Reader_Num at hf
  have H := St.start hm hsep hF
  refine callsR Try.func49 (by kernel_rfl) (by kernel_rfl) ?_
  refine seg 8 [.op [1, 0, 0] 1, .co [1, 0, 1], .co [1, 1]] [(0, .pointer (some (⟨g0, 0, none⟩))), (1, .int .i64 width), (5, .int .i64 width)] (by kernel_rfl) ?_
  refine st (callR (some 6) 77 #[.int .i64 width] Try.call77 (field_wide_c H.has width) (by kernel_rfl) ?_)
  rintro _ w1 ⟨rfl, hx1⟩
  replace H := H.ex hx1
  refine seg 2 [.co [1, 0, 1], .co [1, 1]] [(0, .pointer (some (⟨g0, 0, none⟩))), (1, .int .i64 width), (7, .bool (!(field_wide width)))] (by kernel_rfl) ?_
  rcases condT hf with ⟨hb5, hf⟩ | ⟨hb5, hf⟩
  · rw [hb5]
    refine seg 6 [.op [1, 1, 0] 2, .co [1, 1, 1]] [(8, .pointer (some (⟨g0, 0, none⟩))), (9, .int .i64 width)] (by kernel_rfl) ?_
    obtain ⟨take, h_take, hf⟩ := bindE hf
    obtain ⟨F6, hse6, hFn6, hcl6⟩ := St.call [blkI g0 [.slice A0_0 r_.f_b.length c0_0, .int .i64 r_.f_at, .int .i64 r_.f_e] 117] H
    refine st (callR (some 10) 84 #[.pointer (some (⟨g0, 0, none⟩)), .int .i64 width] Try.call84 (field_Reader_take_c H.has g0 r_ A0_0 c0_0 s0_0 width hse6 hFn6 h_take) (by kernel_rfl) ?_)
    rintro _ w6 ⟨A6_0, c6_0, A6_o0_0, c6_o0_0, mk6, rfl, hS6, hs6_0, hs6_1⟩
    have hsub6 := hS6.sub
    replace H := hcl6 _ _ _ hS6
    replace H : St w F m mk6 [blkI g0 [.slice A6_o0_0 take.2.f_b.length c6_o0_0, .int .i64 take.2.f_at, .int .i64 take.2.f_e] 117] w6 := H
    obtain ⟨load, h_load, hf⟩ := bindE hf
    refine st (callR (some 11) 83 #[.slice A6_0 take.1.length c6_0] Try.call83 (field_load_c H.has take.1 A6_0 c6_0 hs6_0 h_load) (by kernel_rfl) ?_)
    rintro _ w7 ⟨rfl, hx7⟩
    replace H := H.ex hx7
    refine seg 2 [.co [1, 1, 1]] [(4, .int .u64 (load.toNat : Int))] (by kernel_rfl) ?_
    refine retR [4] [.int .u64 (load.toNat : Int)] (by kernel_rfl) (by kernel_rfl) (by kernel_rfl) ?_
    obtain rfl : (load, take.2) = r := (Option.some.inj hf)
    exact ⟨_, rfl, A6_o0_0, c6_o0_0, mk6, rfl, H, hs6_1⟩
  · rw [hb5]
    refine seg 8 [.op [1, 1, 0] 2, .co [1, 1, 1]] [(8, .pointer (some (⟨g0, 0, none⟩))), (9, .int .i64 (-1))] (by kernel_rfl) ?_
    obtain ⟨take1, h_take1, hf⟩ := bindE hf
    obtain ⟨F8, hse8, hFn8, hcl8⟩ := St.call [blkI g0 [.slice A0_0 r_.f_b.length c0_0, .int .i64 r_.f_at, .int .i64 r_.f_e] 117] H
    refine st (callR (some 10) 84 #[.pointer (some (⟨g0, 0, none⟩)), .int .i64 (-1)] Try.call84 (field_Reader_take_c H.has g0 r_ A0_0 c0_0 s0_0 (-1) hse8 hFn8 h_take1) (by kernel_rfl) ?_)
    rintro _ w8 ⟨A8_0, c8_0, A8_o0_0, c8_o0_0, mk8, rfl, hS8, hs8_0, hs8_1⟩
    have hsub8 := hS8.sub
    replace H := hcl8 _ _ _ hS8
    obtain ⟨load1, h_load1, hf⟩ := bindE hf
    refine st (callR (some 11) 83 #[.slice A8_0 take1.1.length c8_0] Try.call83 (field_load_c H.has take1.1 A8_0 c8_0 hs8_0 h_load1) (by kernel_rfl) ?_)
    rintro _ w9 ⟨rfl, hx9⟩
    replace H := H.ex hx9
    refine seg 2 [.co [1, 1, 1]] [(4, .int .u64 (load1.toNat : Int))] (by kernel_rfl) ?_
    refine retR [4] [.int .u64 (load1.toNat : Int)] (by kernel_rfl) (by kernel_rfl) (by kernel_rfl) ?_
    obtain rfl : (load1, take1.2) = r := (Option.some.inj hf)
    exact ⟨_, rfl, A8_o0_0, c8_o0_0, mk8, rfl, H, hs8_1⟩
theorem field_Reader_Bytes_c {m : Mem} {w : World} (hm : Has m w) (g0 : Nat) (r_ : TFieldReader) (A0_0 : Option Addr) (c0_0 : Nat) (s0_0 : SlI rU8 m A0_0 c0_0 r_.f_b) (n_ : Int) {F : Nat → Prop} (hsep : Sep m w [blkI g0 [.slice A0_0 r_.f_b.length c0_0, .int .i64 r_.f_at, .int .i64 r_.f_e] 117] F) (hF : ∀ k, F k → m k = none) {r : ((List UInt8) × TFieldReader)} (hf : field_Reader_Bytes r_ n_ = some r) :
    Calls Try.prog 50 #[.pointer (some (⟨g0, 0, none⟩)), .int .i64 n_] w fun e w' => ∃ v, e = .returned v ∧ ∃ Az_0 : Option Addr, ∃ cz_0 : Nat, ∃ Az_o0_0 : Option Addr, ∃ cz_o0_0 : Nat, ∃ m' : Mem, v = .slice Az_0 r.1.length cz_0 ∧ St w F m m' [rowI rU8 5 Az_0 cz_0 r.1, blkI g0 [.slice Az_o0_0 r.2.f_b.length cz_o0_0, .int .i64 r.2.f_at, .int .i64 r.2.f_e] 117] w' ∧ SlI rU8 m' Az_o0_0 cz_o0_0 r.2.f_b := by
  unfold field_Reader_Bytes at hf
  have H := St.start hm hsep hF
  refine callsR Try.func50 (by kernel_rfl) (by kernel_rfl) ?_
  refine seg 8 [.op [1, 0] 2, .co [1, 1]] [(5, .pointer (some (⟨g0, 0, none⟩))), (6, .int .i64 n_)] (by kernel_rfl) ?_
  obtain ⟨take, h_take, hf⟩ := bindE hf
  obtain ⟨F1, hse1, hFn1, hcl1⟩ := St.call [blkI g0 [.slice A0_0 r_.f_b.length c0_0, .int .i64 r_.f_at, .int .i64 r_.f_e] 117] H
  refine st (callR (some 7) 84 #[.pointer (some (⟨g0, 0, none⟩)), .int .i64 n_] Try.call84 (field_Reader_take_c H.has g0 r_ A0_0 c0_0 s0_0 n_ hse1 hFn1 h_take) (by kernel_rfl) ?_)
  rintro _ w1 ⟨A1_0, c1_0, A1_o0_0, c1_o0_0, mk1, rfl, hS1, hs1_0, hs1_1⟩
  have hsub1 := hS1.sub
  replace H := hcl1 _ _ _ hS1
  obtain ⟨copied, h_copied, hf⟩ := bindE hf
  refine st (callR (some 8) 80 #[.slice A1_0 take.1.length c1_0] Try.call80 (field_copied_c H.has take.1 A1_0 c1_0 hs1_0 h_copied) (by kernel_rfl) ?_)
  rintro _ w2 ⟨A2_0, c2_0, mk2, rfl, hS2⟩
  have hsub2 := hS2.sub
  replace H := H.call0 hS2
  refine seg 2 [.co [1, 1]] [(4, .slice A2_0 copied.length c2_0)] (by kernel_rfl) ?_
  refine retR [4] [.slice A2_0 copied.length c2_0] (by kernel_rfl) (by kernel_rfl) (by kernel_rfl) ?_
  obtain rfl : (copied, take.2) = r := (Option.some.inj hf)
  exact ⟨_, rfl, A2_0, c2_0, A1_o0_0, c1_o0_0, mk2, rfl, H, (hs1_1.mono hsub2)⟩
theorem field_Reader_Err_c {m : Mem} {w : World} (hm : Has m w) (g0 : Nat) (r_ : TFieldReader) (A0_0 : Option Addr) (c0_0 : Nat) (s0_0 : SlI rU8 m A0_0 c0_0 r_.f_b) {F : Nat → Prop} (hsep : Sep m w [blkI g0 [.slice A0_0 r_.f_b.length c0_0, .int .i64 r_.f_at, .int .i64 r_.f_e] 117] F) (hF : ∀ k, F k → m k = none) {r : (Int × Int)} (hf : field_Reader_Err r_ = some r) :
    Calls Try.prog 51 #[.pointer (some (⟨g0, 0, none⟩))] w fun e w' => ∃ v, e = .returned v ∧ ∃ m' : Mem, v = .tuple #[.int .i64 r.1, .int .i64 r.2] ∧ St w F m m' [blkI g0 [.slice A0_0 r_.f_b.length c0_0, .int .i64 r_.f_at, .int .i64 r_.f_e] 117] w' := by
  unfold field_Reader_Err at hf
  have H := St.start hm hsep hF
  refine callsR Try.func51 (by kernel_rfl) (by kernel_rfl) ?_
  refine seg 14 [.co [1, 1, 0], .co [1, 1, 1]] [(0, .pointer (some (⟨g0, 0, none⟩)))] (by kernel_rfl) ?_
  have hst : statB (bodyOf Try.f51) [1, 1, 0] = true := by kernel_rfl
  refine drawS (fun w' => Has m w' ∧ w'.heap[g0]? = some (.cells [.slice A0_0 r_.f_b.length c0_0, .int .i64 r_.f_at, .int .i64 r_.f_e].toArray 117 (0, 0))) H (by kernel_rfl) (by kernel_rfl) ?_
  intro w1 H
  refine segD2 hst [0, 1, 2, 4, 5, 6] [0, 1, 2, 4, 5, 6] [(8, .pointer (some (⟨g0, 1, none⟩))), (12, .pointer (some (⟨g0, 2, none⟩)))] (by kernel_rfl) ?_
  refine takeD2 (i := 3) (d := (some 9)) (s := vS (Instr.loadAt 3 (.pointer (some (⟨g0, 1, none⟩))))) (v := (.int .i64 r_.f_at)) hst (by kernel_rfl) (by kernel_rfl) (fun w' hw' => ld_run _ _ _ (by kernel_rfl) (blk_cell hw'.2 rfl)) ?_
  refine segD2 hst [8] [0, 1, 2, 4, 5, 6, 3, 8] [(2, .int .i64 r_.f_at), (12, .pointer (some (⟨g0, 2, none⟩)))] (by kernel_rfl) ?_
  refine stD2 (i := 7) (by kernel_rfl) ⟨H.has, H.blk 0 rfl⟩ (ldR (some 13) 31 (⟨g0, 2, none⟩) (.int .i64 r_.f_e) (by kernel_rfl) (by kernel_rfl) (H.cellB 0 rfl rfl) ?_)
  refine segD2 hst [9] [0, 1, 2, 4, 5, 6, 3, 8, 7, 9] [(2, .int .i64 r_.f_at), (3, .int .i64 r_.f_e)] (by kernel_rfl) ?_
  refine endD2 (by kernel_rfl) ⟨H.has, H.blk 0 rfl⟩ ?_
  refine retR [2, 3] [.int .i64 r_.f_at, .int .i64 r_.f_e] (by kernel_rfl) (by kernel_rfl) (by kernel_rfl) ?_
  obtain rfl : (r_.f_at, r_.f_e) = r := (Option.some.inj hf)
  exact ⟨_, rfl, m, rfl, H⟩
theorem bytes_Equal_c {m : Mem} {w : World} (hm : Has m w) (a : (List UInt8)) (A0_0 : Option Addr) (c0_0 : Nat) (s0_0 : SlI rU8 m A0_0 c0_0 a) (b : (List UInt8)) (A1_0 : Option Addr) (c1_0 : Nat) (s1_0 : SlI rU8 m A1_0 c1_0 b) :
    Calls Try.prog 52 #[.slice A0_0 a.length c0_0, .slice A1_0 b.length c1_0] w fun e w' => ∃ v, e = .returned v ∧ v = .bool (bytes_Equal a b) ∧ Ex w w' := by
  generalize hf : bytes_Equal a b = r
  unfold bytes_Equal at hf
  have H := St.start0 hm
  refine callsR Try.func52 (by kernel_rfl) (by kernel_rfl) ?_
  refine seg 7 [.op [1, 0] 1, .co [1, 1]] [(1, .slice A1_0 b.length c1_0), (5, .slice A0_0 a.length c0_0)] (by kernel_rfl) ?_
  refine st (b2sS (some 6) 30 9 5 A0_0 c0_0 a Try.underlying30 Try.underlying5 Try.underlying9 (by kernel_rfl) (s0_0.bytes.cs H.has) ?_)
  have hl1 : a.length ≤ 9223372036854775807 := s0_0.bound
  refine seg 1 [.op [1, 0] 3, .co [1, 1]] [(6, .string ⟨a.toArray⟩), (7, .slice A1_0 b.length c1_0)] (by kernel_rfl) ?_
  refine st (b2sS (some 8) 30 9 5 A1_0 c1_0 b Try.underlying30 Try.underlying5 Try.underlying9 (by kernel_rfl) (s1_0.bytes.cs H.has) ?_)
  have hl2 : b.length ≤ 9223372036854775807 := s1_0.bound
  refine seg 3 [.co [1, 1]] [(4, .bool ((ByteArray.toList ⟨a.toArray⟩) == (ByteArray.toList ⟨b.toArray⟩)))] (by kernel_rfl) ?_
  rw [seq_raw a b]
  refine retR [4] [.bool (a == b)] (by kernel_rfl) (by kernel_rfl) (by kernel_rfl) ?_
  obtain rfl : (a == b) = r := hf
  exact ⟨_, rfl, rfl, H.scalar⟩
theorem dirent_Decode_c {m : Mem} {w : World} (hm : Has m w) (b : (List UInt8)) (A0_0 : Option Addr) (c0_0 : Nat) (s0_0 : SlI rU8 m A0_0 c0_0 b) {r : ((List TApiKid) × Int)} (hf : dirent_Decode b = some r) :
    Calls Try.prog 20 #[.slice A0_0 b.length c0_0] w fun e w' => ∃ v, e = .returned v ∧ ∃ Az_0 : Option Addr, ∃ cz_0 : Nat, ∃ m' : Mem, v = .tuple #[.slice Az_0 r.1.length cz_0, .int .i64 r.2] ∧ St w noF m m' [rowI rApiKid 28 Az_0 cz_0 r.1] w' := by
  unfold dirent_Decode at hf
  have H := St.start0 hm
  refine callsR Try.func20 (by kernel_rfl) (by kernel_rfl) ?_
  refine seg 8 [.op [1, 0] 1, .co [1, 1]] [(0, .slice A0_0 b.length c0_0), (16, .slice A0_0 b.length c0_0)] (by kernel_rfl) ?_
  obtain ⟨newRea, h_newRea, hf⟩ := bindE hf
  refine st (callR (some 17) 47 #[.slice A0_0 b.length c0_0] Try.call47 (field_NewReader_c H.has b A0_0 c0_0 s0_0 h_newRea) (by kernel_rfl) ?_)
  rintro _ w1 ⟨g1_0, A1_0_0, c1_0_0, mk1, rfl, hS1, hs1_0⟩
  have hsub1 := hS1.sub
  replace H := H.call0 hS1
  refine seg 7 [.co [1, 1, 1, 0], .co [1, 1, 1, 1]] [(0, .slice A0_0 b.length c0_0), (4, .pointer (some (⟨g1_0, 0, none⟩))), (5, .slice none 0 0)] (by kernel_rfl) ?_
  obtain ⟨y307, hp307, hfl307, hfr307⟩ := bndE hf
  refine joinR 0 (fun (x : (List TApiKid) × Option Addr × Nat × Mem) => [(0, .slice A0_0 b.length c0_0), (5, .slice (x.2.1) x.1.length (x.2.2.1))]) (fun (x : (List TApiKid) × Option Addr × Nat × Mem) (wj307 : World) => y307 = .inl x.1 ∧ St w noF m x.2.2.2 [rowI rApiKid 28 (x.2.1) (x.2.2.1) x.1] wj307 ∧ Sub mk1 x.2.2.2) (by kernel_rfl) ?_ ?_
  · refine seg 1 [.co [1, 1, 1, 0, 0], .bl 0, .le 0, .co [1, 1, 1, 1]] [(0, .slice A0_0 b.length c0_0), (4, .pointer (some (⟨g1_0, 0, none⟩))), (5, .slice none 0 0)] (by kernel_rfl) ?_
    have H := H.nilR rApiKid 28
    obtain ⟨nn385, hR385⟩ := loopO_iff.1 hp307
    refine loopR 1 (fun (x : Nat × (List UInt8) × Int × Int × (List TApiKid) × Option Addr × Nat × Option Addr × Nat × Mem) => [(0, .slice A0_0 b.length c0_0), (4, .pointer (some (⟨g1_0, 0, none⟩))), (5, .slice (x.2.2.2.2.2.2.2.1) x.2.2.2.2.1.length (x.2.2.2.2.2.2.2.2.1))]) (fun (x : Nat × (List UInt8) × Int × Int × (List TApiKid) × Option Addr × Nat × Option Addr × Nat × Mem) (wl385 : World) => iter (fun s => dirent_Decode_l1 s.1 s.2.1 s.2.2.1 s.2.2.2) x.1 (x.2.1, x.2.2.1, x.2.2.2.1, x.2.2.2.2.1) = some y307 ∧ St w noF m x.2.2.2.2.2.2.2.2.2 [blkI g1_0 [.slice (x.2.2.2.2.2.1) x.2.1.length (x.2.2.2.2.2.2.1), .int .i64 x.2.2.1, .int .i64 x.2.2.2.1] 117, rowI rApiKid 28 (x.2.2.2.2.2.2.2.1) (x.2.2.2.2.2.2.2.2.1) x.2.2.2.2.1] wl385 ∧ Sub mk1 x.2.2.2.2.2.2.2.2.2 ∧ SlI rU8 x.2.2.2.2.2.2.2.2.2 x.2.2.2.2.2.1 x.2.2.2.2.2.2.1 x.2.1) (fun (x : Nat × (List UInt8) × Int × Int × (List TApiKid) × Option Addr × Nat × Option Addr × Nat × Mem) => x.1) (nn385, newRea.f_b, newRea.f_at, newRea.f_e, [], A1_0_0, c1_0_0, none, 0, mk1) (by kernel_rfl) (by kernel_rfl) (by kernel_rfl) ?_ ?_
    · exact ⟨hR385, (H.pull 1 rfl), (Sub.refl _), hs1_0⟩
    rintro ⟨n385, b1, at_, e_, l_, A_1_386, c_2_386, A_3_386, c_4_386, mm386⟩ wl385 ⟨hR385, H, hsub386, hs386_0⟩
    try dsimp only at hR385
    try dsimp only at H
    try dsimp only at hsub386
    try dsimp only at hs386_0
    obtain ⟨nk385, q385, rfl, hb_385, hnx385, hfin385⟩ := iterE hR385
    replace hb_385 : dirent_Decode_l1 b1 at_ e_ l_ = some q385 := hb_385
    unfold dirent_Decode_l1 at hb_385
    refine seg 4 [.op [1, 1, 1, 0, 0, 0, 0, 0] 1, .co [1, 1, 1, 0, 0, 0, 0, 1], .co [1, 1, 1, 0, 0, 0, 1], .le 1, .bl 0, .le 0, .co [1, 1, 1, 1]] [(0, .slice A0_0 b.length c0_0), (4, .pointer (some (⟨g1_0, 0, none⟩))), (5, .slice A_3_386 l_.length c_4_386), (18, .pointer (some (⟨g1_0, 0, none⟩)))] (by kernel_rfl) ?_
    obtain ⟨left, h_left, hb_385⟩ := bindE hb_385
    obtain ⟨F387, hse387, hFn387, hcl387⟩ := St.call [blkI g1_0 [.slice A_1_386 b1.length c_2_386, .int .i64 at_, .int .i64 e_] 117] H
    refine st (callR (some 19) 48 #[.pointer (some (⟨g1_0, 0, none⟩))] Try.call48 (field_Reader_Left_c H.has g1_0 ({ f_b := b1, f_at := at_, f_e := e_ } : TFieldReader) A_1_386 c_2_386 hs386_0 hse387 hFn387 h_left) (by kernel_rfl) ?_)
    rintro _ w387 ⟨mk387, rfl, hS387⟩
    have hsub387 := hS387.sub
    replace H := hcl387 _ _ _ hS387
    refine seg 2 [.co [1, 1, 1, 0, 0, 0, 0, 1], .co [1, 1, 1, 0, 0, 0, 1], .le 1, .bl 0, .le 0, .co [1, 1, 1, 1]] [(0, .slice A0_0 b.length c0_0), (4, .pointer (some (⟨g1_0, 0, none⟩))), (5, .slice A_3_386 l_.length c_4_386), (20, .bool (decide (left > 0)))] (by kernel_rfl) ?_
    rcases condT hb_385 with ⟨hb388, hb_385⟩ | ⟨hb388, hb_385⟩
    · rw [hb388]
      have p388 := of_decide_eq_true hb388
      refine seg 6 [.op [1, 1, 1, 0, 0, 0, 1, 0, 0] 1, .co [1, 1, 1, 0, 0, 0, 1, 0, 1], .bl 1, .le 1, .bl 0, .le 0, .co [1, 1, 1, 1]] [(0, .slice A0_0 b.length c0_0), (4, .pointer (some (⟨g1_0, 0, none⟩))), (5, .slice A_3_386 l_.length c_4_386), (21, .pointer (some (⟨g1_0, 0, none⟩)))] (by kernel_rfl) ?_
      obtain ⟨num, h_num, hb_385⟩ := bindE hb_385
      obtain ⟨F389, hse389, hFn389, hcl389⟩ := St.call [blkI g1_0 [.slice A_1_386 b1.length c_2_386, .int .i64 at_, .int .i64 e_] 117] H
      refine st (callR (some 22) 49 #[.pointer (some (⟨g1_0, 0, none⟩)), .int .i64 2] Try.call49 (field_Reader_Num_c H.has g1_0 ({ f_b := b1, f_at := at_, f_e := e_ } : TFieldReader) A_1_386 c_2_386 (hs386_0.mono hsub387) 2 hse389 hFn389 h_num) (by kernel_rfl) ?_)
      rintro _ w389 ⟨A389_o0_0, c389_o0_0, mk389, rfl, hS389, hs389_0⟩
      have hsub389 := hS389.sub
      replace H := hcl389 _ _ _ hS389
      refine seg 5 [.op [1, 1, 1, 0, 0, 0, 1, 0, 1, 0] 1, .co [1, 1, 1, 0, 0, 0, 1, 0, 1, 1], .bl 1, .le 1, .bl 0, .le 0, .co [1, 1, 1, 1]] [(0, .slice A0_0 b.length c0_0), (4, .pointer (some (⟨g1_0, 0, none⟩))), (5, .slice A_3_386 l_.length c_4_386), (6, .int .u64 (num.1.toNat : Int)), (23, .pointer (some (⟨g1_0, 0, none⟩)))] (by kernel_rfl) ?_
      replace H : St w noF m mk389 [blkI g1_0 [.slice A389_o0_0 num.2.f_b.length c389_o0_0, .int .i64 num.2.f_at, .int .i64 num.2.f_e] 117, rowI rApiKid 28 A_3_386 c_4_386 l_] w389 := H
      obtain ⟨num1, h_num1, hb_385⟩ := bindE hb_385
      obtain ⟨F390, hse390, hFn390, hcl390⟩ := St.call [blkI g1_0 [.slice A389_o0_0 num.2.f_b.length c389_o0_0, .int .i64 num.2.f_at, .int .i64 num.2.f_e] 117] H
      refine st (callR (some 24) 49 #[.pointer (some (⟨g1_0, 0, none⟩)), .int .i64 4] Try.call49 (field_Reader_Num_c H.has g1_0 num.2 A389_o0_0 c389_o0_0 hs389_0 4 hse390 hFn390 h_num1) (by kernel_rfl) ?_)
      rintro _ w390 ⟨A390_o0_0, c390_o0_0, mk390, rfl, hS390, hs390_0⟩
      have hsub390 := hS390.sub
      replace H := hcl390 _ _ _ hS390
      refine seg 8 [.co [1, 1, 1, 0, 0, 0, 1, 0, 1, 1, 0, 1], .co [1, 1, 1, 0, 0, 0, 1, 0, 1, 1, 1], .bl 1, .le 1, .bl 0, .le 0, .co [1, 1, 1, 1]] [(0, .slice A0_0 b.length c0_0), (4, .pointer (some (⟨g1_0, 0, none⟩))), (5, .slice A_3_386 l_.length c_4_386), (7, .int .u64 (num1.1.toNat : Int)), (25, .int .u64 (num.1.toNat : Int)), (26, .int .u64 0)] (by kernel_rfl) ?_
      obtain ⟨y421, hp421, hfl421, hfr421⟩ := bndE hb_385
      refine joinR 2 (fun (x : (List UInt8) × Int × Int × (List TApiKid) × Option Addr × Nat × Option Addr × Nat × Mem) => [(0, .slice A0_0 b.length c0_0), (4, .pointer (some (⟨g1_0, 0, none⟩))), (5, .slice (x.2.2.2.2.2.2.1) x.2.2.2.1.length (x.2.2.2.2.2.2.2.1))]) (fun (x : (List UInt8) × Int × Int × (List TApiKid) × Option Addr × Nat × Option Addr × Nat × Mem) (wj421 : World) => y421 = .inl (x.1, x.2.1, x.2.2.1, x.2.2.2.1) ∧ St w noF m x.2.2.2.2.2.2.2.2 [blkI g1_0 [.slice (x.2.2.2.2.1) x.1.length (x.2.2.2.2.2.1), .int .i64 x.2.1, .int .i64 x.2.2.1] 117, rowI rApiKid 28 (x.2.2.2.2.2.2.1) (x.2.2.2.2.2.2.2.1) x.2.2.2.1] wj421 ∧ Sub mk390 x.2.2.2.2.2.2.2.2 ∧ SlI rU8 x.2.2.2.2.2.2.2.2 x.2.2.2.2.1 x.2.2.2.2.2.1 x.1) (by kernel_rfl) ?_ ?_
      · refine seg 1 [.co [1, 1, 1, 0, 0, 0, 1, 0, 1, 1, 0, 1, 0], .bl 2, .le 2, .co [1, 1, 1, 0, 0, 0, 1, 0, 1, 1, 1], .bl 1, .le 1, .bl 0, .le 0, .co [1, 1, 1, 1]] [(0, .slice A0_0 b.length c0_0), (4, .pointer (some (⟨g1_0, 0, none⟩))), (5, .slice A_3_386 l_.length c_4_386), (7, .int .u64 (num1.1.toNat : Int)), (25, .int .u64 (num.1.toNat : Int)), (26, .int .u64 0)] (by kernel_rfl) ?_
        obtain ⟨nn443, hR443⟩ := loopO_iff.1 hp421
        refine loopR 3 (fun (x : Nat × (List UInt8) × Int × Int × (List TApiKid) × UInt64 × Option Addr × Nat × Option Addr × Nat × Mem) => [(0, .slice A0_0 b.length c0_0), (4, .pointer (some (⟨g1_0, 0, none⟩))), (5, .slice (x.2.2.2.2.2.2.2.2.1) x.2.2.2.2.1.length (x.2.2.2.2.2.2.2.2.2.1)), (7, .int .u64 (num1.1.toNat : Int)), (25, .int .u64 (num.1.toNat : Int)), (26, .int .u64 (x.2.2.2.2.2.1.toNat : Int))]) (fun (x : Nat × (List UInt8) × Int × Int × (List TApiKid) × UInt64 × Option Addr × Nat × Option Addr × Nat × Mem) (wl443 : World) => iter (fun s => dirent_Decode_l2 num num1 s.1 s.2.1 s.2.2.1 s.2.2.2.1 s.2.2.2.2) x.1 (x.2.1, x.2.2.1, x.2.2.2.1, x.2.2.2.2.1, x.2.2.2.2.2.1) = some y421 ∧ St w noF m x.2.2.2.2.2.2.2.2.2.2 [blkI g1_0 [.slice (x.2.2.2.2.2.2.1) x.2.1.length (x.2.2.2.2.2.2.2.1), .int .i64 x.2.2.1, .int .i64 x.2.2.2.1] 117, rowI rApiKid 28 (x.2.2.2.2.2.2.2.2.1) (x.2.2.2.2.2.2.2.2.2.1) x.2.2.2.2.1] wl443 ∧ Sub mk390 x.2.2.2.2.2.2.2.2.2.2 ∧ SlI rU8 x.2.2.2.2.2.2.2.2.2.2 x.2.2.2.2.2.2.1 x.2.2.2.2.2.2.2.1 x.2.1) (fun (x : Nat × (List UInt8) × Int × Int × (List TApiKid) × UInt64 × Option Addr × Nat × Option Addr × Nat × Mem) => x.1) (nn443, num1.2.f_b, num1.2.f_at, num1.2.f_e, l_, (0 : UInt64), A390_o0_0, c390_o0_0, A_3_386, c_4_386, mk390) (by kernel_rfl) (by kernel_rfl) (by kernel_rfl) ?_ ?_
        · exact ⟨hR443, H, (Sub.refl _), hs390_0⟩
        rintro ⟨n443, b2, at_1, e_1, l_1, t, A_1_444, c_2_444, A_3_444, c_4_444, mm444⟩ wl443 ⟨hR443, H, hsub444, hs444_0⟩
        try dsimp only at hR443
        try dsimp only at H
        try dsimp only at hsub444
        try dsimp only at hs444_0
        obtain ⟨nk443, q443, rfl, hb_443, hnx443, hfin443⟩ := iterE hR443
        replace hb_443 : dirent_Decode_l2 num num1 b2 at_1 e_1 l_1 t = some q443 := hb_443
        unfold dirent_Decode_l2 at hb_443
        refine seg 5 [.co [1, 1, 1, 0, 0, 0, 1, 0, 1, 1, 0, 1, 0, 0, 1, 0], .co [1, 1, 1, 0, 0, 0, 1, 0, 1, 1, 0, 1, 0, 0, 1, 1], .le 3, .bl 2, .le 2, .co [1, 1, 1, 0, 0, 0, 1, 0, 1, 1, 1], .bl 1, .le 1, .bl 0, .le 0, .co [1, 1, 1, 1]] [(0, .slice A0_0 b.length c0_0), (4, .pointer (some (⟨g1_0, 0, none⟩))), (5, .slice A_3_444 l_1.length c_4_444), (7, .int .u64 (num1.1.toNat : Int)), (25, .int .u64 (num.1.toNat : Int)), (26, .int .u64 (t.toNat : Int)), (27, .bool (decide ((t.toNat : Int) < (num.1.toNat : Int))))] (by kernel_rfl) ?_
        rcases condT hb_443 with ⟨hb445, hb_443⟩ | ⟨hb445, hb_443⟩
        · rw [hb445]
          have p445 := of_decide_eq_true hb445
          refine seg 8 [.op [1, 1, 1, 0, 0, 0, 1, 0, 1, 1, 0, 1, 0, 0, 1, 1, 0, 0, 0] 2, .co [1, 1, 1, 0, 0, 0, 1, 0, 1, 1, 0, 1, 0, 0, 1, 1, 0, 0, 1], .bl 3, .co [1, 1, 1, 0, 0, 0, 1, 0, 1, 1, 0, 1, 0, 0, 1, 1, 1], .le 3, .bl 2, .le 2, .co [1, 1, 1, 0, 0, 0, 1, 0, 1, 1, 1], .bl 1, .le 1, .bl 0, .le 0, .co [1, 1, 1, 1]] [(0, .slice A0_0 b.length c0_0), (4, .pointer (some (⟨g1_0, 0, none⟩))), (5, .slice A_3_444 l_1.length c_4_444), (7, .int .u64 (num1.1.toNat : Int)), (25, .int .u64 (num.1.toNat : Int)), (26, .int .u64 (t.toNat : Int)), (28, .int .u64 (num1.1.toNat : Int)), (29, .pointer (some (⟨g1_0, 0, none⟩)))] (by kernel_rfl) ?_
          obtain ⟨num2, h_num2, hb_443⟩ := bindE hb_443
          obtain ⟨F446, hse446, hFn446, hcl446⟩ := St.call [blkI g1_0 [.slice A_1_444 b2.length c_2_444, .int .i64 at_1, .int .i64 e_1] 117] H
          refine st (callR (some 30) 49 #[.pointer (some (⟨g1_0, 0, none⟩)), .int .i64 2] Try.call49 (field_Reader_Num_c H.has g1_0 ({ f_b := b2, f_at := at_1, f_e := e_1 } : TFieldReader) A_1_444 c_2_444 hs444_0 2 hse446 hFn446 h_num2) (by kernel_rfl) ?_)
          rintro _ w446 ⟨A446_o0_0, c446_o0_0, mk446, rfl, hS446, hs446_0⟩
          have hsub446 := hS446.sub
          replace H := hcl446 _ _ _ hS446
          refine seg 7 [.op [1, 1, 1, 0, 0, 0, 1, 0, 1, 1, 0, 1, 0, 0, 1, 1, 0, 0, 1, 0] 2, .co [1, 1, 1, 0, 0, 0, 1, 0, 1, 1, 0, 1, 0, 0, 1, 1, 0, 0, 1, 1], .bl 3, .co [1, 1, 1, 0, 0, 0, 1, 0, 1, 1, 0, 1, 0, 0, 1, 1, 1], .le 3, .bl 2, .le 2, .co [1, 1, 1, 0, 0, 0, 1, 0, 1, 1, 1], .bl 1, .le 1, .bl 0, .le 0, .co [1, 1, 1, 1]] [(0, .slice A0_0 b.length c0_0), (4, .pointer (some (⟨g1_0, 0, none⟩))), (5, .slice A_3_444 l_1.length c_4_444), (7, .int .u64 (num1.1.toNat : Int)), (8, .int .u64 (IntKind.u64.wrap ((num1.1.toNat : Int) + (num2.1.toNat : Int)))), (25, .int .u64 (num.1.toNat : Int)), (26, .int .u64 (t.toNat : Int)), (32, .pointer (some (⟨g1_0, 0, none⟩))), (33, .pointer (some (⟨g1_0, 0, none⟩)))] (by kernel_rfl) ?_
          rw [q64_add num1.1 num2.1 (num1.1.toNat : Int) (num2.1.toNat : Int) (by rfl) (by rfl)]
          replace H : St w noF m mk446 [blkI g1_0 [.slice A446_o0_0 num2.2.f_b.length c446_o0_0, .int .i64 num2.2.f_at, .int .i64 num2.2.f_e] 117, rowI rApiKid 28 A_3_444 c_4_444 l_1] w446 := H
          obtain ⟨num3, h_num3, hb_443⟩ := bindE hb_443
          obtain ⟨F447, hse447, hFn447, hcl447⟩ := St.call [blkI g1_0 [.slice A446_o0_0 num2.2.f_b.length c446_o0_0, .int .i64 num2.2.f_at, .int .i64 num2.2.f_e] 117] H
          refine st (callR (some 34) 49 #[.pointer (some (⟨g1_0, 0, none⟩)), .int .i64 1] Try.call49 (field_Reader_Num_c H.has g1_0 num2.2 A446_o0_0 c446_o0_0 hs446_0 1 hse447 hFn447 h_num3) (by kernel_rfl) ?_)
          rintro _ w447 ⟨A447_o0_0, c447_o0_0, mk447, rfl, hS447, hs447_0⟩
          have hsub447 := hS447.sub
          replace H := hcl447 _ _ _ hS447
          refine seg 1 [.op [1, 1, 1, 0, 0, 0, 1, 0, 1, 1, 0, 1, 0, 0, 1, 1, 0, 0, 1, 0] 4, .co [1, 1, 1, 0, 0, 0, 1, 0, 1, 1, 0, 1, 0, 0, 1, 1, 0, 0, 1, 1], .bl 3, .co [1, 1, 1, 0, 0, 0, 1, 0, 1, 1, 0, 1, 0, 0, 1, 1, 1], .le 3, .bl 2, .le 2, .co [1, 1, 1, 0, 0, 0, 1, 0, 1, 1, 1], .bl 1, .le 1, .bl 0, .le 0, .co [1, 1, 1, 1]] [(0, .slice A0_0 b.length c0_0), (4, .pointer (some (⟨g1_0, 0, none⟩))), (5, .slice A_3_444 l_1.length c_4_444), (7, .int .u64 (num1.1.toNat : Int)), (8, .int .u64 ((num1.1 + num2.1).toNat : Int)), (25, .int .u64 (num.1.toNat : Int)), (26, .int .u64 (t.toNat : Int)), (32, .pointer (some (⟨g1_0, 0, none⟩))), (35, .int .i64 (IntKind.i64.wrap (num3.1.toNat : Int)))] (by kernel_rfl) ?_
          obtain ⟨bytes, h_bytes, hb_443⟩ := bindE hb_443
          obtain ⟨F448, hse448, hFn448, hcl448⟩ := St.call [blkI g1_0 [.slice A447_o0_0 num3.2.f_b.length c447_o0_0, .int .i64 num3.2.f_at, .int .i64 num3.2.f_e] 117] H
          refine st (callR (some 36) 50 #[.pointer (some (⟨g1_0, 0, none⟩)), .int .i64 (IntKind.i64.wrap (num3.1.toNat : Int))] Try.call50 (field_Reader_Bytes_c H.has g1_0 num3.2 A447_o0_0 c447_o0_0 hs447_0 (IntKind.i64.wrap (num3.1.toNat : Int)) hse448 hFn448 h_bytes) (by kernel_rfl) ?_)
          rintro _ w448 ⟨A448_0, c448_0, A448_o0_0, c448_o0_0, mk448, rfl, hS448, hs448_0⟩
          have hsub448 := hS448.sub
          replace H := hcl448 _ _ _ hS448
          refine seg 6 [.op [1, 1, 1, 0, 0, 0, 1, 0, 1, 1, 0, 1, 0, 0, 1, 1, 0, 0, 1, 1, 0, 0] 1, .co [1, 1, 1, 0, 0, 0, 1, 0, 1, 1, 0, 1, 0, 0, 1, 1, 0, 0, 1, 1, 0, 1], .co [1, 1, 1, 0, 0, 0, 1, 0, 1, 1, 0, 1, 0, 0, 1, 1, 0, 0, 1, 1, 1], .bl 3, .co [1, 1, 1, 0, 0, 0, 1, 0, 1, 1, 0, 1, 0, 0, 1, 1, 1], .le 3, .bl 2, .le 2, .co [1, 1, 1, 0, 0, 0, 1, 0, 1, 1, 1], .bl 1, .le 1, .bl 0, .le 0, .co [1, 1, 1, 1]] [(0, .slice A0_0 b.length c0_0), (4, .pointer (some (⟨g1_0, 0, none⟩))), (5, .slice A_3_444 l_1.length c_4_444), (7, .int .u64 (num1.1.toNat : Int)), (8, .int .u64 ((num1.1 + num2.1).toNat : Int)), (9, .slice A448_0 bytes.1.length c448_0), (25, .int .u64 (num.1.toNat : Int)), (26, .int .u64 (t.toNat : Int)), (38, .pointer (some (⟨g1_0, 0, none⟩)))] (by kernel_rfl) ?_
          obtain ⟨err, h_err, hb_443⟩ := bindE hb_443
          obtain ⟨F449, hse449, hFn449, hcl449⟩ := St.call [blkI g1_0 [.slice A448_o0_0 bytes.2.f_b.length c448_o0_0, .int .i64 bytes.2.f_at, .int .i64 bytes.2.f_e] 117] (H.pull 1 rfl)
          refine st (callR (some 39) 51 #[.pointer (some (⟨g1_0, 0, none⟩))] Try.call51 (field_Reader_Err_c H.has g1_0 bytes.2 A448_o0_0 c448_o0_0 hs448_0 hse449 hFn449 h_err) (by kernel_rfl) ?_)
          rintro _ w449 ⟨mk449, rfl, hS449⟩
          have hsub449 := hS449.sub
          replace H := hcl449 _ _ _ hS449
          refine seg 11 [.co [1, 1, 1, 0, 0, 0, 1, 0, 1, 1, 0, 1, 0, 0, 1, 1, 0, 0, 1, 1, 0, 1, 1], .co [1, 1, 1, 0, 0, 0, 1, 0, 1, 1, 0, 1, 0, 0, 1, 1, 0, 0, 1, 1, 1], .bl 3, .co [1, 1, 1, 0, 0, 0, 1, 0, 1, 1, 0, 1, 0, 0, 1, 1, 1], .le 3, .bl 2, .le 2, .co [1, 1, 1, 0, 0, 0, 1, 0, 1, 1, 1], .bl 1, .le 1, .bl 0, .le 0, .co [1, 1, 1, 1]] [(0, .slice A0_0 b.length c0_0), (4, .pointer (some (⟨g1_0, 0, none⟩))), (5, .slice A_3_444 l_1.length c_4_444), (7, .int .u64 (num1.1.toNat : Int)), (8, .int .u64 ((num1.1 + num2.1).toNat : Int)), (9, .slice A448_0 bytes.1.length c448_0), (25, .int .u64 (num.1.toNat : Int)), (26, .int .u64 (t.toNat : Int)), (43, .bool (err.2 != 0))] (by kernel_rfl) ?_
          rcases condT hb_443 with ⟨hb450, hb_443⟩ | ⟨hb450, hb_443⟩
          · rw [hb450]
            refine seg 6 [.co [1, 1, 1, 0, 0, 0, 1, 0, 1, 1, 0, 1, 0, 0, 1, 1, 0, 0, 1, 1, 0, 1, 1, 0, 1], .co [1, 1, 1, 0, 0, 0, 1, 0, 1, 1, 0, 1, 0, 0, 1, 1, 0, 0, 1, 1, 1], .bl 3, .co [1, 1, 1, 0, 0, 0, 1, 0, 1, 1, 0, 1, 0, 0, 1, 1, 1], .le 3, .bl 2, .le 2, .co [1, 1, 1, 0, 0, 0, 1, 0, 1, 1, 1], .bl 1, .le 1, .bl 0, .le 0, .co [1, 1, 1, 1]] [(2, .slice none 0 0), (3, .int .i64 6)] (by kernel_rfl) ?_
            have H := H.nilR rApiKid 28
            refine retR [2, 3] [.slice none 0 0, .int .i64 6] (by kernel_rfl) (by kernel_rfl) (by kernel_rfl) ?_
            obtain rfl : ([], 6) = r := (hfr307 _ (hfin385 _ (hfr421 _ (hfin443 _ (Option.some.inj hb_443).symm).symm).symm).symm)
            exact ⟨_, rfl, none, 0, mk449, rfl, (St.takeN 1 H)⟩
          · rw [hb450]
            refine seg 5 [.op [1, 1, 1, 0, 0, 0, 1, 0, 1, 1, 0, 1, 0, 0, 1, 1, 0, 0, 1, 1, 1] 2, .bl 3, .co [1, 1, 1, 0, 0, 0, 1, 0, 1, 1, 0, 1, 0, 0, 1, 1, 1], .le 3, .bl 2, .le 2, .co [1, 1, 1, 0, 0, 0, 1, 0, 1, 1, 1], .bl 1, .le 1, .bl 0, .le 0, .co [1, 1, 1, 1]] [(0, .slice A0_0 b.length c0_0), (4, .pointer (some (⟨g1_0, 0, none⟩))), (7, .int .u64 (num1.1.toNat : Int)), (8, .int .u64 ((num1.1 + num2.1).toNat : Int)), (25, .int .u64 (num.1.toNat : Int)), (26, .int .u64 (t.toNat : Int)), (44, .slice A_3_444 l_1.length c_4_444), (45, .slice A448_0 bytes.1.length c448_0)] (by kernel_rfl) ?_
            refine st (b2sS (some 46) 30 9 5 A448_0 c448_0 bytes.1 Try.underlying30 Try.underlying5 Try.underlying9 (by kernel_rfl) (H.rowCs 1 rfl) ?_)
            have hl451 : bytes.1.length ≤ 9223372036854775807 := (Nat.le_trans (H.rowCap 1 rfl).1 (H.rowCap 1 rfl).2)
            refine seg 3 [.op [1, 1, 1, 0, 0, 0, 1, 0, 1, 1, 0, 1, 0, 0, 1, 1, 0, 0, 1, 1, 1] 6, .bl 3, .co [1, 1, 1, 0, 0, 0, 1, 0, 1, 1, 0, 1, 0, 0, 1, 1, 1], .le 3, .bl 2, .le 2, .co [1, 1, 1, 0, 0, 0, 1, 0, 1, 1, 1], .bl 1, .le 1, .bl 0, .le 0, .co [1, 1, 1, 1]] [(0, .slice A0_0 b.length c0_0), (4, .pointer (some (⟨g1_0, 0, none⟩))), (7, .int .u64 (num1.1.toNat : Int)), (25, .int .u64 (num.1.toNat : Int)), (26, .int .u64 (t.toNat : Int)), (44, .slice A_3_444 l_1.length c_4_444), (49, .agg #[.string ⟨bytes.1.toArray⟩, .int .i64 (IntKind.i64.wrap ((num1.1 + num2.1).toNat : Int))])] (by kernel_rfl) ?_
            refine st (newS (some 50) (fun g => .slice (some ⟨g, 0, none⟩) 1 1) [.string ⟨bytes.1.toArray⟩, .int .i64 (IntKind.i64.wrap ((num1.1 + num2.1).toNat : Int))] 28 H (by kernel_rfl) ?_)
            intro g452 w452 H
            replace H : St w noF m mk449 [blkI g452 [.string ⟨bytes.1.toArray⟩, .int .i64 (IntKind.i64.wrap ((num1.1 + num2.1).toNat : Int))] 28, blkI g1_0 [.slice A448_o0_0 bytes.2.f_b.length c448_o0_0, .int .i64 bytes.2.f_at, .int .i64 bytes.2.f_e] 117, rowI rApiKid 28 A_3_444 c_4_444 l_1] w452 := (H.drop 2 rfl)
            obtain ⟨b3, h_b3, hb_443⟩ := bindE hb_443
            refine st (appS (r := rApiKid) (some 51) 22 28 24 (.agg #[.string ⟨([] : List UInt8).toArray⟩, .int .i64 0]) 22 2 A_3_444 (some ⟨g452, 0, none⟩) c_4_444 1 1 l_1 [({ Name := bytes.1, Ino := (IntKind.i64.wrap ((num1.1 + num2.1).toNat : Int)) } : TApiKid)] b3 _ H rfl ⟨Try.underlying22, by kernel_rfl⟩ rfl (by decide) (by kernel_rfl) (Cs.of_blk (H.blk 0 rfl)) (Rows.cons (cs := [.string ⟨bytes.1.toArray⟩, .int .i64 (IntKind.i64.wrap ((num1.1 + num2.1).toNat : Int))]) ⟨rfl, hl451⟩ Rows.nil) rfl h_b3 (by decide) (by decide) ?_)
            intro A453 c453 w453 H
            replace H := H.drop 0 rfl
            refine seg 7 [.le 3, .bl 2, .le 2, .co [1, 1, 1, 0, 0, 0, 1, 0, 1, 1, 1], .bl 1, .le 1, .bl 0, .le 0, .co [1, 1, 1, 1]] [(0, .slice A0_0 b.length c0_0), (4, .pointer (some (⟨g1_0, 0, none⟩))), (5, .slice A453 b3.length c453), (7, .int .u64 (num1.1.toNat : Int)), (25, .int .u64 (num.1.toNat : Int)), (26, .int .u64 (IntKind.u64.wrap ((t.toNat : Int) + 1)))] (by kernel_rfl) ?_
            rw [q64_add t (1 : UInt64) (t.toNat : Int) 1 (by rfl) (by rfl)]
            refine leR (nk443, bytes.2.f_b, bytes.2.f_at, bytes.2.f_e, b3, (t + (1 : UInt64)), A448_o0_0, c448_o0_0, A453, c453, mk449) (Nat.lt_succ_self _) ⟨hnx443 _ (Option.some.inj hb_443).symm, H, ((((hsub444.trans hsub446).trans hsub447).trans hsub448).trans hsub449), (hs448_0.mono hsub449)⟩ (by kernel_rfl)
        · rw [hb445]
          have p445 := of_decide_eq_false hb445
          refine seg 2 [.le 2, .co [1, 1, 1, 0, 0, 0, 1, 0, 1, 1, 1], .bl 1, .le 1, .bl 0, .le 0, .co [1, 1, 1, 1]] [(0, .slice A0_0 b.length c0_0), (4, .pointer (some (⟨g1_0, 0, none⟩))), (5, .slice A_3_444 l_1.length c_4_444)] (by kernel_rfl) ?_
          refine leR_up (k' := []) (by rfl) ?_
          refine leJ (b2, at_1, e_1, l_1, A_1_444, c_2_444, A_3_444, c_4_444, mm444) ⟨(hfin443 _ (Option.some.inj hb_443).symm).symm, H, hsub444, hs444_0⟩ (by kernel_rfl)
      rintro ⟨b2, at_1, e_1, l_1, A_1_422, c_2_422, A_3_422, c_4_422, mm422⟩ wj421 ⟨hy421, H, hsub422, hs422_0⟩
      try dsimp only at hy421
      try dsimp only at H
      try dsimp only at hsub422
      try dsimp only at hs422_0
      have hb_385 := hfl421 _ hy421
      try dsimp only at hb_385
      refine seg 3 [.op [1, 1, 1, 0, 0, 0, 1, 0, 1, 1, 1, 0] 1, .co [1, 1, 1, 0, 0, 0, 1, 0, 1, 1, 1, 1], .bl 1, .le 1, .bl 0, .le 0, .co [1, 1, 1, 1]] [(0, .slice A0_0 b.length c0_0), (4, .pointer (some (⟨g1_0, 0, none⟩))), (5, .slice A_3_422 l_1.length c_4_422), (54, .pointer (some (⟨g1_0, 0, none⟩)))] (by kernel_rfl) ?_
      obtain ⟨err1, h_err1, hb_385⟩ := bindE hb_385
      obtain ⟨F454, hse454, hFn454, hcl454⟩ := St.call [blkI g1_0 [.slice A_1_422 b2.length c_2_422, .int .i64 at_1, .int .i64 e_1] 117] H
      refine st (callR (some 55) 51 #[.pointer (some (⟨g1_0, 0, none⟩))] Try.call51 (field_Reader_Err_c H.has g1_0 ({ f_b := b2, f_at := at_1, f_e := e_1 } : TFieldReader) A_1_422 c_2_422 hs422_0 hse454 hFn454 h_err1) (by kernel_rfl) ?_)
      rintro _ w454 ⟨mk454, rfl, hS454⟩
      have hsub454 := hS454.sub
      replace H := hcl454 _ _ _ hS454
      refine seg 11 [.co [1, 1, 1, 0, 0, 0, 1, 0, 1, 1, 1, 1, 1], .bl 1, .le 1, .bl 0, .le 0, .co [1, 1, 1, 1]] [(0, .slice A0_0 b.length c0_0), (4, .pointer (some (⟨g1_0, 0, none⟩))), (5, .slice A_3_422 l_1.length c_4_422), (59, .bool (err1.2 != 0))] (by kernel_rfl) ?_
      rcases condT hb_385 with ⟨hb455, hb_385⟩ | ⟨hb455, hb_385⟩
      · rw [hb455]
        refine seg 6 [.co [1, 1, 1, 0, 0, 0, 1, 0, 1, 1, 1, 1, 1, 0, 1], .bl 1, .le 1, .bl 0, .le 0, .co [1, 1, 1, 1]] [(2, .slice none 0 0), (3, .int .i64 6)] (by kernel_rfl) ?_
        have H := H.nilR rApiKid 28
        refine retR [2, 3] [.slice none 0 0, .int .i64 6] (by kernel_rfl) (by kernel_rfl) (by kernel_rfl) ?_
        obtain rfl : ([], 6) = r := (hfr307 _ (hfin385 _ (Option.some.inj hb_385).symm).symm)
        exact ⟨_, rfl, none, 0, mk454, rfl, (St.takeN 1 H)⟩
      · rw [hb455]
        refine seg 3 [.le 1, .bl 0, .le 0, .co [1, 1, 1, 1]] [(0, .slice A0_0 b.length c0_0), (4, .pointer (some (⟨g1_0, 0, none⟩))), (5, .slice A_3_422 l_1.length c_4_422)] (by kernel_rfl) ?_
        refine leR (nk385, b2, at_1, e_1, l_1, A_1_422, c_2_422, A_3_422, c_4_422, mk454) (Nat.lt_succ_self _) ⟨hnx385 _ (Option.some.inj hb_385).symm, H, (((((hsub386.trans hsub387).trans hsub389).trans hsub390).trans hsub422).trans hsub454), (hs422_0.mono hsub454)⟩ (by kernel_rfl)
    · rw [hb388]
      have p388 := of_decide_eq_false hb388
      refine seg 2 [.le 0, .co [1, 1, 1, 1]] [(0, .slice A0_0 b.length c0_0), (5, .slice A_3_386 l_.length c_4_386)] (by kernel_rfl) ?_
      refine leR_up (k' := []) (by rfl) ?_
      refine leJ (l_, A_3_386, c_4_386, mk387) ⟨(hfin385 _ (Option.some.inj hb_385).symm).symm, (St.takeN 1 (H.pull 1 rfl)), (hsub386.trans hsub387)⟩ (by kernel_rfl)
  rintro ⟨l_, A_1_308, c_2_308, mm308⟩ wj307 ⟨hy307, H, hsub308⟩
  try dsimp only at hy307
  try dsimp only at H
  try dsimp only at hsub308
  have hf := hfl307 _ hy307
  refine seg 4 [.op [1, 1, 1, 1, 0, 0] 1, .co [1, 1, 1, 1, 0, 1], .co [1, 1, 1, 1, 1]] [(0, .slice A0_0 b.length c0_0), (5, .slice A_1_308 l_.length c_2_308), (61, .slice A_1_308 l_.length c_2_308)] (by kernel_rfl) ?_
  have H0_456 := H
  obtain ⟨mf457, hsub457, hsf457, H⟩ := H.fixR 0 rfl
  obtain ⟨encode, h_encode, hf⟩ := bindE hf
  refine st (callR (some 62) 15 #[.slice A_1_308 l_.length c_2_308] Try.call15 (dirent_Encode_c H.has l_ A_1_308 c_2_308 hsf457 h_encode) (by kernel_rfl) ?_)
  rintro _ w458 ⟨A458_0, c458_0, mk458, rfl, hS458⟩
  replace H := H0_456.callB hS458 ⟨rowI_ind (fun _ _ _ _ h => h), trivial⟩
  refine seg 11 [.op [1, 1, 1, 1, 0, 1, 0] 3, .co [1, 1, 1, 1, 0, 1, 1], .co [1, 1, 1, 1, 1]] [(0, .slice A0_0 b.length c0_0), (5, .slice A_1_308 l_.length c_2_308), (14, .slice A458_0 encode.1.length c458_0), (67, .bool (encode.2 != 0))] (by kernel_rfl) ?_
  rcases condT hf with ⟨hb463, hf⟩ | ⟨hb463, hf⟩
  · rw [hb463]
    refine seg 12 [.co [1, 1, 1, 1, 0, 1, 1, 0, 1], .co [1, 1, 1, 1, 1]] [(2, .slice none 0 0), (3, .int .i64 6)] (by kernel_rfl) ?_
    have H := H.nilR rApiKid 28
    refine retR [2, 3] [.slice none 0 0, .int .i64 6] (by kernel_rfl) (by kernel_rfl) (by kernel_rfl) ?_
    obtain rfl : ([], 6) = r := (Option.some.inj hf)
    exact ⟨_, rfl, none, 0, mm308, rfl, (St.takeN 1 H)⟩
  · rw [hb463]
    refine seg 2 [.op [1, 1, 1, 1, 0, 1, 0] 5, .co [1, 1, 1, 1, 0, 1, 1], .co [1, 1, 1, 1, 1]] [(5, .slice A_1_308 l_.length c_2_308), (67, .bool false), (68, .slice A458_0 encode.1.length c458_0), (69, .slice A0_0 b.length c0_0)] (by kernel_rfl) ?_
    replace H : St w noF m mm308 [rowI rU8 5 A458_0 c458_0 encode.1, rowI rApiKid 28 A_1_308 c_2_308 l_] w458 := H
    have H0_464 := H
    obtain ⟨mf465, hsub465, hsf465, H⟩ := H.fixR 0 rfl
    refine st (callR (some 70) 52 #[.slice A458_0 encode.1.length c458_0, .slice A0_0 b.length c0_0] Try.call52 (bytes_Equal_c H.has encode.1 A458_0 c458_0 hsf465 b A0_0 c0_0 (s0_0.mono ((hsub1.trans hsub308).trans hsub465))) (by kernel_rfl) ?_)
    rintro _ w466 ⟨rfl, hx466⟩
    replace H := H0_464.ex hx466
    refine seg 3 [.co [1, 1, 1, 1, 0, 1, 1], .co [1, 1, 1, 1, 1]] [(5, .slice A_1_308 l_.length c_2_308), (72, .bool (!(bytes_Equal encode.1 b)))] (by kernel_rfl) ?_
    rcases condT hf with ⟨hb468, hf⟩ | ⟨hb468, hf⟩
    · rw [hb468]
      refine seg 8 [.co [1, 1, 1, 1, 1, 1]] [(2, .slice A_1_308 l_.length c_2_308), (3, .int .i64 0)] (by kernel_rfl) ?_
      refine retR [2, 3] [.slice A_1_308 l_.length c_2_308, .int .i64 0] (by kernel_rfl) (by kernel_rfl) (by kernel_rfl) ?_
      obtain rfl : (l_, 0) = r := (Option.some.inj hf)
      exact ⟨_, rfl, A_1_308, c_2_308, mm308, rfl, (St.takeN 1 (H.pull 1 rfl))⟩
    · rw [hb468]
      refine seg 6 [.co [1, 1, 1, 1, 0, 1, 1, 0, 1], .co [1, 1, 1, 1, 1]] [(2, .slice none 0 0), (3, .int .i64 6)] (by kernel_rfl) ?_
      have H := H.nilR rApiKid 28
      refine retR [2, 3] [.slice none 0 0, .int .i64 6] (by kernel_rfl) (by kernel_rfl) (by kernel_rfl) ?_
      obtain rfl : ([], 6) = r := (Option.some.inj hf)
      exact ⟨_, rfl, none, 0, mm308, rfl, (St.takeN 1 H)⟩
theorem ref16_Same_c {m : Mem} {w : World} (hm : Has m w) (a : (List TApiKid)) (A0_0 : Option Addr) (c0_0 : Nat) (s0_0 : SlI rApiKid m A0_0 c0_0 a) (b : (List TApiKid)) (A1_0 : Option Addr) (c1_0 : Nat) (s1_0 : SlI rApiKid m A1_0 c1_0 b) {r : Bool} (hf : ref16_Same a b = some r) :
    Calls Try.prog 21 #[.slice A0_0 a.length c0_0, .slice A1_0 b.length c1_0] w fun e w' => ∃ v, e = .returned v ∧ v = .bool r ∧ Ex w w' := by
  unfold ref16_Same at hf
  have H := St.start0 hm
  refine callsR Try.func21 (by kernel_rfl) (by kernel_rfl) ?_
  refine seg 13 [.co [1, 0, 1], .co [1, 1]] [(0, .slice A0_0 a.length c0_0), (1, .slice A1_0 b.length c1_0), (10, .bool ((a.length : Int) != (b.length : Int)))] (by kernel_rfl) ?_
  rcases condT hf with ⟨hb2, hf⟩ | ⟨hb2, hf⟩
  · rw [hb2]
    refine seg 5 [.co [1, 0, 1, 0, 1], .co [1, 1]] [(4, .bool false)] (by kernel_rfl) ?_
    refine retR [4] [.bool false] (by kernel_rfl) (by kernel_rfl) (by kernel_rfl) ?_
    have hret := (Option.some.inj hf)
    subst hret
    exact ⟨_, rfl, rfl, H.scalar⟩
  · rw [hb2]
    refine seg 7 [.co [1, 1, 0, 1], .co [1, 1, 1]] [(0, .slice A0_0 a.length c0_0), (1, .slice A1_0 b.length c1_0), (5, .int .i64 0)] (by kernel_rfl) ?_
    obtain ⟨y128, hp128, hfl128, hfr128⟩ := bndE hf
    refine joinR 0 (fun (x : Unit) => []) (fun (x : Unit) (wj128 : World) => y128 = .inl () ∧ St w noF m m [] wj128) (by kernel_rfl) ?_ ?_
    · refine seg 1 [.co [1, 1, 0, 1, 0], .bl 0, .le 0, .co [1, 1, 1]] [(0, .slice A0_0 a.length c0_0), (1, .slice A1_0 b.length c1_0), (5, .int .i64 0)] (by kernel_rfl) ?_
      obtain ⟨nn162, hR162⟩ := loopO_iff.1 hp128
      refine loopR 1 (fun (x : Nat × Nat) => [(0, .slice A0_0 a.length c0_0), (1, .slice A1_0 b.length c1_0), (5, .int .i64 (x.2 : Int))]) (fun (x : Nat × Nat) (wl162 : World) => iter (fun s => ref16_Same_l1 a b s) x.1 x.2 = some y128 ∧ St w noF m m [] wl162) (fun (x : Nat × Nat) => x.1) (nn162, 0) (by kernel_rfl) (by kernel_rfl) (by kernel_rfl) ?_ ?_
      · exact ⟨hR162, H⟩
      rintro ⟨n162, i⟩ wl162 ⟨hR162, H⟩
      try dsimp only at hR162
      try dsimp only at H
      obtain ⟨nk162, q162, rfl, hb_162, hnx162, hfin162⟩ := iterE hR162
      replace hb_162 : ref16_Same_l1 a b i = some q162 := hb_162
      unfold ref16_Same_l1 at hb_162
      refine seg 8 [.co [1, 1, 0, 1, 0, 0, 0, 1], .co [1, 1, 0, 1, 0, 0, 1], .le 1, .bl 0, .le 0, .co [1, 1, 1]] [(0, .slice A0_0 a.length c0_0), (1, .slice A1_0 b.length c1_0), (5, .int .i64 (i : Int)), (14, .bool (decide ((i : Int) < (a.length : Int))))] (by kernel_rfl) ?_
      rcases condT hb_162 with ⟨hb164, hb_162⟩ | ⟨hb164, hb_162⟩
      · rw [hb164]
        have p164 := of_decide_eq_true hb164
        refine seg 5 [.co [1, 1, 0, 1, 0, 0, 1, 0, 0, 0], .co [1, 1, 0, 1, 0, 0, 1, 0, 0, 1], .bl 1, .co [1, 1, 0, 1, 0, 0, 1, 1], .le 1, .bl 0, .le 0, .co [1, 1, 1]] [(0, .slice A0_0 a.length c0_0), (1, .slice A1_0 b.length c1_0), (5, .int .i64 (i : Int))] (by kernel_rfl) ?_
        obtain ⟨x_, h_x_, hb_162⟩ := bindE hb_162
        obtain ⟨x_1, h_x_1, hb_162⟩ := bindE hb_162
        rcases condT hb_162 with ⟨hb169, hb_162⟩ | ⟨hb169, hb_162⟩
        · have hst : statB (bodyOf Try.f21) [1, 1, 0, 1, 0, 0, 1, 0, 0, 0] = true := by kernel_rfl
          refine drawS (Has m) H (by kernel_rfl) (by kernel_rfl) ?_
          intro w174 H
          refine segD2 hst [0, 1, 5, 6] [0, 1, 5, 6] [(0, .slice A0_0 a.length c0_0), (1, .slice A1_0 b.length c1_0), (5, .int .i64 (i : Int)), (17, .slice A0_0 a.length c0_0), (18, .int .i64 (i : Int)), (22, .slice A1_0 b.length c1_0), (23, .int .i64 (i : Int))] (by kernel_rfl) ?_
          obtain ⟨ad175, _, ea175, ⟨rfl, hl175_0⟩, hc175⟩ := s0_0.at_ h_x_ (by decide)
          refine takeD2 (i := 2) (d := (some 19)) (s := vS (Instr.indexAt 22 (.slice A0_0 a.length c0_0) (.int .i64 (i : Int)))) (v := .pointer (some (ad175.add (i * 2)))) hst (by kernel_rfl) (by kernel_rfl) (fun w' hw' => idx_run 22 28 2 _ ad175 _ _ _ _ _ ea175 (by kernel_rfl) (by omega) (by have := (List.getElem?_eq_some_iff.1 h_x_).1; omega) rfl) ?_
          refine segD2 hst [3] [0, 1, 5, 6, 2, 3] [(0, .slice A0_0 a.length c0_0), (1, .slice A1_0 b.length c1_0), (5, .int .i64 (i : Int)), (20, .pointer (some (ad175.add (i * 2)))), (22, .slice A1_0 b.length c1_0), (23, .int .i64 (i : Int))] (by kernel_rfl) ?_
          refine takeD2 (i := 4) (d := (some 21)) (s := vS (Instr.loadAt 9 (.pointer (some (ad175.add (i * 2)))))) (v := (.string ⟨x_.Name.toArray⟩)) hst (by kernel_rfl) (by kernel_rfl) (fun w' hw' => ld_run _ _ _ (by kernel_rfl) (hw'.cell (mc0 (hc175 0 _ rfl)))) ?_
          obtain ⟨ad176, _, ea176, ⟨rfl, hl176_0⟩, hc176⟩ := s1_0.at_ h_x_1 (by decide)
          refine stD2 (i := 7) (by kernel_rfl) H.has (idxS (some 24) 22 28 2 A1_0 ad176 b.length c1_0 .i64 (i : Int) ea176 (by kernel_rfl) (by kernel_rfl) (by omega) (by have := (List.getElem?_eq_some_iff.1 h_x_1).1; omega) ?_)
          refine segD2 hst [8] [0, 1, 5, 6, 2, 3, 4, 7, 8] [(0, .slice A0_0 a.length c0_0), (1, .slice A1_0 b.length c1_0), (5, .int .i64 (i : Int)), (21, .string ⟨x_.Name.toArray⟩), (25, .pointer (some (ad176.add (i * 2))))] (by kernel_rfl) ?_
          refine stD2 (i := 9) (by kernel_rfl) H.has (ldR (some 26) 9 (ad176.add (i * 2)) (.string ⟨x_1.Name.toArray⟩) (by kernel_rfl) (by kernel_rfl) (H.cellI (mc0 (hc176 0 _ rfl))) ?_)
          refine segD2 hst [10] [0, 1, 5, 6, 2, 3, 4, 7, 8, 9, 10] [(0, .slice A0_0 a.length c0_0), (1, .slice A1_0 b.length c1_0), (5, .int .i64 (i : Int)), (27, .bool (!((ByteArray.toList ⟨x_.Name.toArray⟩) == (ByteArray.toList ⟨x_1.Name.toArray⟩))))] (by kernel_rfl) ?_
          rw [sne_raw x_.Name x_1.Name]
          rw [show (x_.Name != x_1.Name) = true from hb169]
          refine segD2 hst [11, 12, 13, 14, 15, 16, 17, 18, 19, 20, 21, 22, 23] [0, 1, 5, 6, 2, 3, 4, 7, 8, 9, 10, 11, 12, 13, 14, 15, 16, 17, 18, 19, 20, 21, 22, 23] [(0, .slice A0_0 a.length c0_0), (1, .slice A1_0 b.length c1_0), (5, .int .i64 (i : Int)), (40, .bool true)] (by kernel_rfl) ?_
          refine endD2 (by kernel_rfl) H.has ?_
          refine seg 5 [.co [1, 1, 0, 1, 0, 0, 1, 0, 0, 1, 0, 1], .bl 1, .co [1, 1, 0, 1, 0, 0, 1, 1], .le 1, .bl 0, .le 0, .co [1, 1, 1]] [(4, .bool false)] (by kernel_rfl) ?_
          refine retR [4] [.bool false] (by kernel_rfl) (by kernel_rfl) (by kernel_rfl) ?_
          have hret := (hfr128 _ (hfin162 _ (Option.some.inj hb_162).symm).symm)
          subst hret
          exact ⟨_, rfl, rfl, H.scalar⟩
        · have hst : statB (bodyOf Try.f21) [1, 1, 0, 1, 0, 0, 1, 0, 0, 0] = true := by kernel_rfl
          refine drawS (Has m) H (by kernel_rfl) (by kernel_rfl) ?_
          intro w181 H
          refine segD2 hst [0, 1, 5, 6] [0, 1, 5, 6] [(0, .slice A0_0 a.length c0_0), (1, .slice A1_0 b.length c1_0), (5, .int .i64 (i : Int)), (17, .slice A0_0 a.length c0_0), (18, .int .i64 (i : Int)), (22, .slice A1_0 b.length c1_0), (23, .int .i64 (i : Int))] (by kernel_rfl) ?_
          obtain ⟨ad182, _, ea182, ⟨rfl, hl182_0⟩, hc182⟩ := s0_0.at_ h_x_ (by decide)
          refine takeD2 (i := 2) (d := (some 19)) (s := vS (Instr.indexAt 22 (.slice A0_0 a.length c0_0) (.int .i64 (i : Int)))) (v := .pointer (some (ad182.add (i * 2)))) hst (by kernel_rfl) (by kernel_rfl) (fun w' hw' => idx_run 22 28 2 _ ad182 _ _ _ _ _ ea182 (by kernel_rfl) (by omega) (by have := (List.getElem?_eq_some_iff.1 h_x_).1; omega) rfl) ?_
          refine segD2 hst [3] [0, 1, 5, 6, 2, 3] [(0, .slice A0_0 a.length c0_0), (1, .slice A1_0 b.length c1_0), (5, .int .i64 (i : Int)), (20, .pointer (some (ad182.add (i * 2)))), (22, .slice A1_0 b.length c1_0), (23, .int .i64 (i : Int))] (by kernel_rfl) ?_
          refine takeD2 (i := 4) (d := (some 21)) (s := vS (Instr.loadAt 9 (.pointer (some (ad182.add (i * 2)))))) (v := (.string ⟨x_.Name.toArray⟩)) hst (by kernel_rfl) (by kernel_rfl) (fun w' hw' => ld_run _ _ _ (by kernel_rfl) (hw'.cell (mc0 (hc182 0 _ rfl)))) ?_
          obtain ⟨ad183, _, ea183, ⟨rfl, hl183_0⟩, hc183⟩ := s1_0.at_ h_x_1 (by decide)
          refine stD2 (i := 7) (by kernel_rfl) H.has (idxS (some 24) 22 28 2 A1_0 ad183 b.length c1_0 .i64 (i : Int) ea183 (by kernel_rfl) (by kernel_rfl) (by omega) (by have := (List.getElem?_eq_some_iff.1 h_x_1).1; omega) ?_)
          refine segD2 hst [8] [0, 1, 5, 6, 2, 3, 4, 7, 8] [(0, .slice A0_0 a.length c0_0), (1, .slice A1_0 b.length c1_0), (5, .int .i64 (i : Int)), (21, .string ⟨x_.Name.toArray⟩), (25, .pointer (some (ad183.add (i * 2))))] (by kernel_rfl) ?_
          refine stD2 (i := 9) (by kernel_rfl) H.has (ldR (some 26) 9 (ad183.add (i * 2)) (.string ⟨x_1.Name.toArray⟩) (by kernel_rfl) (by kernel_rfl) (H.cellI (mc0 (hc183 0 _ rfl))) ?_)
          refine segD2 hst [10] [0, 1, 5, 6, 2, 3, 4, 7, 8, 9, 10] [(0, .slice A0_0 a.length c0_0), (1, .slice A1_0 b.length c1_0), (5, .int .i64 (i : Int)), (27, .bool (!((ByteArray.toList ⟨x_.Name.toArray⟩) == (ByteArray.toList ⟨x_1.Name.toArray⟩))))] (by kernel_rfl) ?_
          rw [sne_raw x_.Name x_1.Name]
          rw [show (x_.Name != x_1.Name) = false from hb169]
          refine segD2 hst [11, 12, 13, 17, 18] [0, 1, 5, 6, 2, 3, 4, 7, 8, 9, 10, 11, 12, 13, 17, 18] [(0, .slice A0_0 a.length c0_0), (1, .slice A1_0 b.length c1_0), (5, .int .i64 (i : Int)), (28, .bool false), (29, .slice A0_0 a.length c0_0), (30, .int .i64 (i : Int)), (34, .slice A1_0 b.length c1_0), (35, .int .i64 (i : Int))] (by kernel_rfl) ?_
          refine takeD2 (i := 14) (d := (some 31)) (s := vS (Instr.indexAt 22 (.slice A0_0 a.length c0_0) (.int .i64 (i : Int)))) (v := .pointer (some (ad182.add (i * 2)))) hst (by kernel_rfl) (by kernel_rfl) (fun w' hw' => idx_run 22 28 2 _ ad182 _ _ _ _ _ ea182 (by kernel_rfl) (by omega) (by have := (List.getElem?_eq_some_iff.1 h_x_).1; omega) rfl) ?_
          refine segD2 hst [15] [0, 1, 5, 6, 2, 3, 4, 7, 8, 9, 10, 11, 12, 13, 17, 18, 14, 15] [(0, .slice A0_0 a.length c0_0), (1, .slice A1_0 b.length c1_0), (5, .int .i64 (i : Int)), (28, .bool false), (32, .pointer (some ((ad182.add (i * 2)).add 1))), (34, .slice A1_0 b.length c1_0), (35, .int .i64 (i : Int))] (by kernel_rfl) ?_
          refine takeD2 (i := 16) (d := (some 33)) (s := vS (Instr.loadAt 3 (.pointer (some ((ad182.add (i * 2)).add 1))))) (v := (.int .i64 x_.Ino)) hst (by kernel_rfl) (by kernel_rfl) (fun w' hw' => ld_run _ _ _ (by kernel_rfl) (hw'.cell (hc182 1 _ rfl))) ?_
          refine stD2 (i := 19) (by kernel_rfl) H.has (idxS (some 36) 22 28 2 A1_0 ad183 b.length c1_0 .i64 (i : Int) ea183 (by kernel_rfl) (by kernel_rfl) (by omega) (by have := (List.getElem?_eq_some_iff.1 h_x_1).1; omega) ?_)
          refine segD2 hst [20] [0, 1, 5, 6, 2, 3, 4, 7, 8, 9, 10, 11, 12, 13, 17, 18, 14, 15, 16, 19, 20] [(0, .slice A0_0 a.length c0_0), (1, .slice A1_0 b.length c1_0), (5, .int .i64 (i : Int)), (28, .bool false), (33, .int .i64 x_.Ino), (37, .pointer (some ((ad183.add (i * 2)).add 1)))] (by kernel_rfl) ?_
          refine stD2 (i := 21) (by kernel_rfl) H.has (ldR (some 38) 3 ((ad183.add (i * 2)).add 1) (.int .i64 x_1.Ino) (by kernel_rfl) (by kernel_rfl) (H.cellI (hc183 1 _ rfl)) ?_)
          refine segD2 hst [22] [0, 1, 5, 6, 2, 3, 4, 7, 8, 9, 10, 11, 12, 13, 17, 18, 14, 15, 16, 19, 20, 21, 22] [(0, .slice A0_0 a.length c0_0), (1, .slice A1_0 b.length c1_0), (5, .int .i64 (i : Int)), (28, .bool false), (39, .bool (x_.Ino != x_1.Ino))] (by kernel_rfl) ?_
          refine segD2 hst [23] [0, 1, 5, 6, 2, 3, 4, 7, 8, 9, 10, 11, 12, 13, 17, 18, 14, 15, 16, 19, 20, 21, 22, 23] [(0, .slice A0_0 a.length c0_0), (1, .slice A1_0 b.length c1_0), (5, .int .i64 (i : Int)), (40, .bool (x_.Ino != x_1.Ino))] (by kernel_rfl) ?_
          refine endD2 (by kernel_rfl) H.has ?_
          rcases condT hb_162 with ⟨hb184, hb_162⟩ | ⟨hb184, hb_162⟩
          · rw [hb184]
            refine seg 5 [.co [1, 1, 0, 1, 0, 0, 1, 0, 0, 1, 0, 1], .bl 1, .co [1, 1, 0, 1, 0, 0, 1, 1], .le 1, .bl 0, .le 0, .co [1, 1, 1]] [(4, .bool false)] (by kernel_rfl) ?_
            refine retR [4] [.bool false] (by kernel_rfl) (by kernel_rfl) (by kernel_rfl) ?_
            have hret := (hfr128 _ (hfin162 _ (Option.some.inj hb_162).symm).symm)
            subst hret
            exact ⟨_, rfl, rfl, H.scalar⟩
          · rw [hb184]
            refine seg 8 [.le 1, .bl 0, .le 0, .co [1, 1, 1]] [(0, .slice A0_0 a.length c0_0), (1, .slice A1_0 b.length c1_0), (5, .int .i64 (IntKind.i64.wrap ((i : Int) + 1)))] (by kernel_rfl) ?_
            have := s0_0.bound
            rw [show IntKind.i64.wrap ((i : Int) + 1) = ((i : Int) + 1) from w64 (by omega)]
            refine leR (nk162, (i + 1)) (Nat.lt_succ_self _) ⟨hnx162 _ (Option.some.inj hb_162).symm, H⟩ (by kernel_rfl)
      · rw [hb164]
        have p164 := of_decide_eq_false hb164
        refine seg 2 [.le 0, .co [1, 1, 1]] [] (by kernel_rfl) ?_
        refine leR_up (k' := []) (by rfl) ?_
        refine leJ () ⟨(hfin162 _ (Option.some.inj hb_162).symm).symm, H⟩ (by kernel_rfl)
    rintro _ wj128 ⟨hy128, H⟩
    have hf := hfl128 _ hy128
    try dsimp only at hf
    refine seg 4 [.co [1, 1, 1, 1]] [(4, .bool true)] (by kernel_rfl) ?_
    refine retR [4] [.bool true] (by kernel_rfl) (by kernel_rfl) (by kernel_rfl) ?_
    have hret := (Option.some.inj hf)
    subst hret
    exact ⟨_, rfl, rfl, H.scalar⟩
theorem law16_DirentEncodes_c {m : Mem} {w : World} (hm : Has m w) (l_ : (List TApiKid)) (A0_0 : Option Addr) (c0_0 : Nat) (s0_0 : SlI rApiKid m A0_0 c0_0 l_) {r : Bool} (hf : law16_DirentEncodes l_ = some r) :
    Calls Try.prog 4 #[.slice A0_0 l_.length c0_0] w fun e w' => ∃ v, e = .returned v ∧ v = .bool r ∧ Ex w w' := by
  unfold law16_DirentEncodes at hf
  have H := St.start0 hm
  refine callsR Try.func4 (by kernel_rfl) (by kernel_rfl) ?_
  refine seg 8 [.op [1, 0, 0] 1, .co [1, 0, 1], .co [1, 1]] [(0, .slice A0_0 l_.length c0_0), (7, .slice A0_0 l_.length c0_0)] (by kernel_rfl) ?_
  obtain ⟨much, h_much, hf⟩ := bindE hf
  refine st (callR (some 8) 12 #[.slice A0_0 l_.length c0_0] Try.call12 (law16_much_c H.has l_ A0_0 c0_0 s0_0 h_much) (by kernel_rfl) ?_)
  rintro _ w1 ⟨rfl, hx1⟩
  replace H := H.ex hx1
  refine seg 1 [.co [1, 0, 1], .co [1, 1]] [(0, .slice A0_0 l_.length c0_0), (8, .bool much)] (by kernel_rfl) ?_
  rcases condT hf with ⟨hb4, hf⟩ | ⟨hb4, hf⟩
  · rw [hb4]
    refine seg 3 [.op [1, 0, 1, 0, 0] 0, .co [1, 0, 1, 0, 1], .co [1, 1]] [] (by kernel_rfl) ?_
    obtain ⟨live, h_live, hf⟩ := bindE hf
    refine st (callR (some 9) 13 #[] Try.call13 (law16_live_c H.has  h_live) (by kernel_rfl) ?_)
    rintro _ w5 ⟨rfl, hx5⟩
    replace H := H.ex hx5
    refine seg 2 [.co [1, 0, 1, 0, 1], .co [1, 1]] [(2, .bool live)] (by kernel_rfl) ?_
    refine retR [2] [.bool live] (by kernel_rfl) (by kernel_rfl) (by kernel_rfl) ?_
    have hret := (Option.some.inj hf)
    subst hret
    exact ⟨_, rfl, rfl, H.scalar⟩
  · rw [hb4]
    refine seg 5 [.op [1, 1, 0] 1, .co [1, 1, 1]] [(0, .slice A0_0 l_.length c0_0), (11, .slice A0_0 l_.length c0_0)] (by kernel_rfl) ?_
    obtain ⟨encode, h_encode, hf⟩ := bindE hf
    refine st (callR (some 12) 15 #[.slice A0_0 l_.length c0_0] Try.call15 (dirent_Encode_c H.has l_ A0_0 c0_0 s0_0 h_encode) (by kernel_rfl) ?_)
    rintro _ w6 ⟨A6_0, c6_0, mk6, rfl, hS6⟩
    have hsub6 := hS6.sub
    replace H := H.call0 hS6
    refine seg 10 [.op [1, 1, 1, 0, 0] 1, .co [1, 1, 1, 0, 1], .co [1, 1, 1, 1]] [(0, .slice A0_0 l_.length c0_0), (3, .slice A6_0 encode.1.length c6_0), (4, .int .i64 encode.2), (15, .slice A0_0 l_.length c0_0)] (by kernel_rfl) ?_
    replace H : St w noF m mk6 [rowI rU8 5 A6_0 c6_0 encode.1] w6 := H
    obtain ⟨right, h_right, hf⟩ := bindE hf
    refine st (callR (some 16) 16 #[.slice A0_0 l_.length c0_0] Try.call16 (ref16_Right_c H.has l_ A0_0 c0_0 (s0_0.mono hsub6) h_right) (by kernel_rfl) ?_)
    rintro _ w7 ⟨rfl, hx7⟩
    replace H := H.ex hx7
    refine seg 2 [.co [1, 1, 1, 0, 1], .co [1, 1, 1, 1]] [(0, .slice A0_0 l_.length c0_0), (3, .slice A6_0 encode.1.length c6_0), (4, .int .i64 encode.2), (17, .bool (!right))] (by kernel_rfl) ?_
    rcases condT hf with ⟨hb23, hf⟩ | ⟨hb23, hf⟩
    · rw [hb23]
      refine seg 4 [.co [1, 1, 1, 1, 0, 0], .co [1, 1, 1, 1, 0, 1], .co [1, 1, 1, 1, 1]] [(0, .slice A0_0 l_.length c0_0), (3, .slice A6_0 encode.1.length c6_0), (4, .int .i64 encode.2)] (by kernel_rfl) ?_
      rcases condT hf with ⟨hb41, hf⟩ | ⟨hb41, hf⟩
      · have hst : statB (bodyOf Try.f4) [1, 1, 1, 1, 0, 0] = true := by kernel_rfl
        refine drawS (Has mk6) H (by kernel_rfl) (by kernel_rfl) ?_
        intro w43 H
        refine segD2 hst [0] [0] [(0, .slice A0_0 l_.length c0_0), (3, .slice A6_0 encode.1.length c6_0), (35, .int .i64 encode.2)] (by kernel_rfl) ?_
        replace H : St w noF m mk6 [rowI rU8 5 A6_0 c6_0 encode.1] w43 := H
        refine stD2 (i := 1) (by kernel_rfl) H.has (callR (some 36) 17 #[.int .i64 encode.2] Try.call17 (law16_num_c H.has encode.2) (by kernel_rfl) ?_)
        rintro _ w44 ⟨rfl, hx44⟩
        replace H := H.ex hx44
        refine segD2 hst [2] [0, 1, 2] [(0, .slice A0_0 l_.length c0_0), (3, .slice A6_0 encode.1.length c6_0), (37, .bool ((law16_num encode.2) != 0))] (by kernel_rfl) ?_
        rw [show ((law16_num encode.2) != 0) = true from hb41]
        refine segD2 hst [3, 4, 5, 6, 7, 8, 9, 10, 11, 12, 13, 14, 15, 16] [0, 1, 2, 3, 4, 5, 6, 7, 8, 9, 10, 11, 12, 13, 14, 15, 16] [(0, .slice A0_0 l_.length c0_0), (3, .slice A6_0 encode.1.length c6_0), (51, .bool true)] (by kernel_rfl) ?_
        refine endD2 (by kernel_rfl) H.has ?_
        refine seg 5 [.co [1, 1, 1, 1, 0, 1, 0, 1], .co [1, 1, 1, 1, 1]] [(2, .bool false)] (by kernel_rfl) ?_
        refine retR [2] [.bool false] (by kernel_rfl) (by kernel_rfl) (by kernel_rfl) ?_
        have hret := (Option.some.inj hf)
        subst hret
        exact ⟨_, rfl, rfl, H.scalar⟩
      · obtain ⟨check, h_check, hf⟩ := bindE hf
        rcases condT hf with ⟨hb48, hf⟩ | ⟨hb48, hf⟩
        · have hst : statB (bodyOf Try.f4) [1, 1, 1, 1, 0, 0] = true := by kernel_rfl
          refine drawS (Has mk6) H (by kernel_rfl) (by kernel_rfl) ?_
          intro w52 H
          refine segD2 hst [0] [0] [(0, .slice A0_0 l_.length c0_0), (3, .slice A6_0 encode.1.length c6_0), (35, .int .i64 encode.2)] (by kernel_rfl) ?_
          replace H : St w noF m mk6 [rowI rU8 5 A6_0 c6_0 encode.1] w52 := H
          refine stD2 (i := 1) (by kernel_rfl) H.has (callR (some 36) 17 #[.int .i64 encode.2] Try.call17 (law16_num_c H.has encode.2) (by kernel_rfl) ?_)
          rintro _ w53 ⟨rfl, hx53⟩
          replace H := H.ex hx53
          refine segD2 hst [2] [0, 1, 2] [(0, .slice A0_0 l_.length c0_0), (3, .slice A6_0 encode.1.length c6_0), (37, .bool ((law16_num encode.2) != 0))] (by kernel_rfl) ?_
          rw [show ((law16_num encode.2) != 0) = false from hb41]
          refine segD2 hst [3, 4] [0, 1, 2, 3, 4] [(0, .slice A0_0 l_.length c0_0), (3, .slice A6_0 encode.1.length c6_0), (38, .bool false), (39, .slice A0_0 l_.length c0_0)] (by kernel_rfl) ?_
          refine stD2 (i := 5) (by kernel_rfl) H.has (callR (some 40) 18 #[.slice A0_0 l_.length c0_0] Try.call18 (dirent_Check_c H.has l_ A0_0 c0_0 (s0_0.mono hsub6) h_check) (by kernel_rfl) ?_)
          rintro _ w54 ⟨rfl, hx54⟩
          replace H := H.ex hx54
          refine stD2 (i := 6) (by kernel_rfl) H.has (callR (some 41) 17 #[.int .i64 check] Try.call17 (law16_num_c H.has check) (by kernel_rfl) ?_)
          rintro _ w55 ⟨rfl, hx55⟩
          replace H := H.ex hx55
          refine segD2 hst [7] [0, 1, 2, 3, 4, 5, 6, 7] [(0, .slice A0_0 l_.length c0_0), (3, .slice A6_0 encode.1.length c6_0), (38, .bool false), (42, .bool ((law16_num check) != 0))] (by kernel_rfl) ?_
          rw [show ((law16_num check) != 0) = true from hb48]
          refine segD2 hst [8, 9, 10, 11, 12, 13, 14, 15, 16] [0, 1, 2, 3, 4, 5, 6, 7, 8, 9, 10, 11, 12, 13, 14, 15, 16] [(0, .slice A0_0 l_.length c0_0), (3, .slice A6_0 encode.1.length c6_0), (51, .bool true)] (by kernel_rfl) ?_
          refine endD2 (by kernel_rfl) H.has ?_
          refine seg 5 [.co [1, 1, 1, 1, 0, 1, 0, 1], .co [1, 1, 1, 1, 1]] [(2, .bool false)] (by kernel_rfl) ?_
          refine retR [2] [.bool false] (by kernel_rfl) (by kernel_rfl) (by kernel_rfl) ?_
          have hret := (Option.some.inj hf)
          subst hret
          exact ⟨_, rfl, rfl, H.scalar⟩
        · obtain ⟨bytes, h_bytes, hf⟩ := bindE hf
          have hst : statB (bodyOf Try.f4) [1, 1, 1, 1, 0, 0] = true := by kernel_rfl
          refine drawS (Has mk6) H (by kernel_rfl) (by kernel_rfl) ?_
          intro w62 H
          refine segD2 hst [0] [0] [(0, .slice A0_0 l_.length c0_0), (3, .slice A6_0 encode.1.length c6_0), (35, .int .i64 encode.2)] (by kernel_rfl) ?_
          replace H : St w noF m mk6 [rowI rU8 5 A6_0 c6_0 encode.1] w62 := H
          refine stD2 (i := 1) (by kernel_rfl) H.has (callR (some 36) 17 #[.int .i64 encode.2] Try.call17 (law16_num_c H.has encode.2) (by kernel_rfl) ?_)
          rintro _ w63 ⟨rfl, hx63⟩
          replace H := H.ex hx63
          refine segD2 hst [2] [0, 1, 2] [(0, .slice A0_0 l_.length c0_0), (3, .slice A6_0 encode.1.length c6_0), (37, .bool ((law16_num encode.2) != 0))] (by kernel_rfl) ?_
          rw [show ((law16_num encode.2) != 0) = false from hb41]
          refine segD2 hst [3, 4] [0, 1, 2, 3, 4] [(0, .slice A0_0 l_.length c0_0), (3, .slice A6_0 encode.1.length c6_0), (38, .bool false), (39, .slice A0_0 l_.length c0_0)] (by kernel_rfl) ?_
          refine stD2 (i := 5) (by kernel_rfl) H.has (callR (some 40) 18 #[.slice A0_0 l_.length c0_0] Try.call18 (dirent_Check_c H.has l_ A0_0 c0_0 (s0_0.mono hsub6) h_check) (by kernel_rfl) ?_)
          rintro _ w64 ⟨rfl, hx64⟩
          replace H := H.ex hx64
          refine stD2 (i := 6) (by kernel_rfl) H.has (callR (some 41) 17 #[.int .i64 check] Try.call17 (law16_num_c H.has check) (by kernel_rfl) ?_)
          rintro _ w65 ⟨rfl, hx65⟩
          replace H := H.ex hx65
          refine segD2 hst [7] [0, 1, 2, 3, 4, 5, 6, 7] [(0, .slice A0_0 l_.length c0_0), (3, .slice A6_0 encode.1.length c6_0), (38, .bool false), (42, .bool ((law16_num check) != 0))] (by kernel_rfl) ?_
          rw [show ((law16_num check) != 0) = false from hb48]
          refine segD2 hst [8, 9, 10, 12] [0, 1, 2, 3, 4, 5, 6, 7, 8, 9, 10, 12] [(0, .slice A0_0 l_.length c0_0), (3, .slice A6_0 encode.1.length c6_0), (44, .bool false), (45, .slice A6_0 encode.1.length c6_0), (47, .slice A0_0 l_.length c0_0)] (by kernel_rfl) ?_
          refine allD2 [11, 13] (by kernel_rfl) H.has ⟨?_, ?_, trivial⟩
          · refine (b2sS (some 46) 30 9 5 A6_0 c6_0 encode.1 Try.underlying30 Try.underlying5 Try.underlying9 (by kernel_rfl) (H.rowCs 0 rfl) ?_)
            have hl66 : encode.1.length ≤ 9223372036854775807 := (Nat.le_trans (H.rowCap 0 rfl).1 (H.rowCap 0 rfl).2)
            refine stD2 (i := 13) (by kernel_rfl) H.has (callR (some 48) 19 #[.slice A0_0 l_.length c0_0] Try.call19 (ref16_Bytes_c H.has l_ A0_0 c0_0 (s0_0.mono hsub6) h_bytes) (by kernel_rfl) ?_)
            rintro _ w67 ⟨A67_0, c67_0, mk67, rfl, hS67⟩
            have hsub67 := hS67.sub
            replace H := H.call0 hS67
            replace H : St w noF m mk67 [rowI rU8 5 A67_0 c67_0 bytes, rowI rU8 5 A6_0 c6_0 encode.1] w67 := H
            refine stD2 (i := 14) (by kernel_rfl) (H.has.sub hsub67) (b2sS (some 49) 30 9 5 A67_0 c67_0 bytes Try.underlying30 Try.underlying5 Try.underlying9 (by kernel_rfl) (H.rowCs 0 rfl) ?_)
            have hl68 : bytes.length ≤ 9223372036854775807 := (Nat.le_trans (H.rowCap 0 rfl).1 (H.rowCap 0 rfl).2)
            refine segD2 hst [15] [0, 1, 2, 3, 4, 5, 6, 7, 8, 9, 10, 12, 11, 13, 14, 15] [(0, .slice A0_0 l_.length c0_0), (3, .slice A6_0 encode.1.length c6_0), (44, .bool false), (50, .bool (!((ByteArray.toList ⟨encode.1.toArray⟩) == (ByteArray.toList ⟨bytes.toArray⟩))))] (by kernel_rfl) ?_
            rw [sne_raw encode.1 bytes]
            refine segD2 hst [16] [0, 1, 2, 3, 4, 5, 6, 7, 8, 9, 10, 12, 11, 13, 14, 15, 16] [(0, .slice A0_0 l_.length c0_0), (3, .slice A6_0 encode.1.length c6_0), (51, .bool (encode.1 != bytes))] (by kernel_rfl) ?_
            refine endD2 (by kernel_rfl) (H.has.sub hsub67) ?_
            rcases condT hf with ⟨hb70, hf⟩ | ⟨hb70, hf⟩
            · rw [hb70]
              refine seg 5 [.co [1, 1, 1, 1, 0, 1, 0, 1], .co [1, 1, 1, 1, 1]] [(2, .bool false)] (by kernel_rfl) ?_
              refine retR [2] [.bool false] (by kernel_rfl) (by kernel_rfl) (by kernel_rfl) ?_
              have hret := (Option.some.inj hf)
              subst hret
              exact ⟨_, rfl, rfl, H.scalar⟩
            · rw [hb70]
              refine seg 5 [.op [1, 1, 1, 1, 1, 0] 1, .co [1, 1, 1, 1, 1, 1]] [(0, .slice A0_0 l_.length c0_0), (53, .slice A6_0 encode.1.length c6_0)] (by kernel_rfl) ?_
              have H0_71 := H
              obtain ⟨mf72, hsub72, hsf72, H⟩ := H.fixR 1 rfl
              obtain ⟨decode, h_decode, hf⟩ := bindE hf
              refine st (callR (some 54) 20 #[.slice A6_0 encode.1.length c6_0] Try.call20 (dirent_Decode_c H.has encode.1 A6_0 c6_0 hsf72 h_decode) (by kernel_rfl) ?_)
              rintro _ w73 ⟨A73_0, c73_0, mk73, rfl, hS73⟩
              replace H := H0_71.callB hS73 ⟨rowI_ind (fun _ _ _ _ h => h), trivial⟩
              refine seg 9 [.op [1, 1, 1, 1, 1, 1, 0] 1, .co [1, 1, 1, 1, 1, 1, 1]] [(0, .slice A0_0 l_.length c0_0), (5, .slice A73_0 decode.1.length c73_0), (57, .int .i64 decode.2)] (by kernel_rfl) ?_
              replace H : St w noF m mk67 [rowI rApiKid 28 A73_0 c73_0 decode.1] w73 := ((H.drop 2 rfl).drop 1 rfl)
              refine st (callR (some 58) 17 #[.int .i64 decode.2] Try.call17 (law16_num_c H.has decode.2) (by kernel_rfl) ?_)
              rintro _ w81 ⟨rfl, hx81⟩
              replace H := H.ex hx81
              refine seg 2 [.op [1, 1, 1, 1, 1, 1, 0] 4, .co [1, 1, 1, 1, 1, 1, 1]] [(0, .slice A0_0 l_.length c0_0), (5, .slice A73_0 decode.1.length c73_0), (60, .bool ((law16_num decode.2) == 0))] (by kernel_rfl) ?_
              rcases condT hf with ⟨hb82, hf⟩ | ⟨hb82, hf⟩
              · rw [hb82]
                refine seg 2 [.op [1, 1, 1, 1, 1, 1, 0] 6, .co [1, 1, 1, 1, 1, 1, 1]] [(60, .bool true), (61, .slice A0_0 l_.length c0_0), (62, .slice A73_0 decode.1.length c73_0)] (by kernel_rfl) ?_
                have H0_83 := H
                obtain ⟨mf84, hsub84, hsf84, H⟩ := H.fixR 0 rfl
                obtain ⟨same, h_same, hf⟩ := bindE hf
                refine st (callR (some 63) 21 #[.slice A0_0 l_.length c0_0, .slice A73_0 decode.1.length c73_0] Try.call21 (ref16_Same_c H.has l_ A0_0 c0_0 (s0_0.mono ((hsub6.trans hsub67).trans hsub84)) decode.1 A73_0 c73_0 hsf84 h_same) (by kernel_rfl) ?_)
                rintro _ w85 ⟨rfl, hx85⟩
                replace H := H0_83.ex hx85
                refine seg 2 [.op [1, 1, 1, 1, 1, 1, 0] 9, .co [1, 1, 1, 1, 1, 1, 1]] [(65, .bool same)] (by kernel_rfl) ?_
                rcases condT hf with ⟨hb86, hf⟩ | ⟨hb86, hf⟩
                · rw [hb86]
                  obtain ⟨live1, h_live1, hf⟩ := bindE hf
                  refine st (callR (some 66) 13 #[] Try.call13 (law16_live_c H.has  h_live1) (by kernel_rfl) ?_)
                  rintro _ w87 ⟨rfl, hx87⟩
                  replace H := H.ex hx87
                  refine seg 3 [.co [1, 1, 1, 1, 1, 1, 1]] [(2, .bool live1)] (by kernel_rfl) ?_
                  refine retR [2] [.bool live1] (by kernel_rfl) (by kernel_rfl) (by kernel_rfl) ?_
                  have hret := (Option.some.inj hf)
                  subst hret
                  exact ⟨_, rfl, rfl, H.scalar⟩
                · rw [hb86]
                  refine seg 4 [.co [1, 1, 1, 1, 1, 1, 1]] [(2, .bool false)] (by kernel_rfl) ?_
                  refine retR [2] [.bool false] (by kernel_rfl) (by kernel_rfl) (by kernel_rfl) ?_
                  have hret := (Option.some.inj hf)
                  subst hret
                  exact ⟨_, rfl, rfl, H.scalar⟩
              · rw [hb82]
                refine seg 9 [.co [1, 1, 1, 1, 1, 1, 1]] [(2, .bool false)] (by kernel_rfl) ?_
                refine retR [2] [.bool false] (by kernel_rfl) (by kernel_rfl) (by kernel_rfl) ?_
                have hret := (Option.some.inj hf)
                subst hret
                exact ⟨_, rfl, rfl, H.scalar⟩
          · refine (callR (some 48) 19 #[.slice A0_0 l_.length c0_0] Try.call19 (ref16_Bytes_c H.has l_ A0_0 c0_0 (s0_0.mono hsub6) h_bytes) (by kernel_rfl) ?_)
            rintro _ w88 ⟨A88_0, c88_0, mk88, rfl, hS88⟩
            have hsub88 := hS88.sub
            replace H := H.call0 hS88
            refine allD2 [11, 14] (by kernel_rfl) (H.has.sub hsub88) ⟨?_, ?_, trivial⟩
            · replace H : St w noF m mk88 [rowI rU8 5 A88_0 c88_0 bytes, rowI rU8 5 A6_0 c6_0 encode.1] w88 := H
              refine (b2sS (some 46) 30 9 5 A6_0 c6_0 encode.1 Try.underlying30 Try.underlying5 Try.underlying9 (by kernel_rfl) (H.rowCs 1 rfl) ?_)
              have hl89 : encode.1.length ≤ 9223372036854775807 := (Nat.le_trans (H.rowCap 1 rfl).1 (H.rowCap 1 rfl).2)
              refine stD2 (i := 14) (by kernel_rfl) (H.has.sub hsub88) (b2sS (some 49) 30 9 5 A88_0 c88_0 bytes Try.underlying30 Try.underlying5 Try.underlying9 (by kernel_rfl) (H.rowCs 0 rfl) ?_)
              have hl90 : bytes.length ≤ 9223372036854775807 := (Nat.le_trans (H.rowCap 0 rfl).1 (H.rowCap 0 rfl).2)
              refine segD2 hst [15] [0, 1, 2, 3, 4, 5, 6, 7, 8, 9, 10, 12, 13, 11, 14, 15] [(0, .slice A0_0 l_.length c0_0), (3, .slice A6_0 encode.1.length c6_0), (44, .bool false), (50, .bool (!((ByteArray.toList ⟨encode.1.toArray⟩) == (ByteArray.toList ⟨bytes.toArray⟩))))] (by kernel_rfl) ?_
              rw [sne_raw encode.1 bytes]
              refine segD2 hst [16] [0, 1, 2, 3, 4, 5, 6, 7, 8, 9, 10, 12, 13, 11, 14, 15, 16] [(0, .slice A0_0 l_.length c0_0), (3, .slice A6_0 encode.1.length c6_0), (51, .bool (encode.1 != bytes))] (by kernel_rfl) ?_
              refine endD2 (by kernel_rfl) (H.has.sub hsub88) ?_
              rcases condT hf with ⟨hb91, hf⟩ | ⟨hb91, hf⟩
              · rw [hb91]
                refine seg 5 [.co [1, 1, 1, 1, 0, 1, 0, 1], .co [1, 1, 1, 1, 1]] [(2, .bool false)] (by kernel_rfl) ?_
                refine retR [2] [.bool false] (by kernel_rfl) (by kernel_rfl) (by kernel_rfl) ?_
                have hret := (Option.some.inj hf)
                subst hret
                exact ⟨_, rfl, rfl, H.scalar⟩
              · rw [hb91]
                refine seg 5 [.op [1, 1, 1, 1, 1, 0] 1, .co [1, 1, 1, 1, 1, 1]] [(0, .slice A0_0 l_.length c0_0), (53, .slice A6_0 encode.1.length c6_0)] (by kernel_rfl) ?_
                have H0_92 := H
                obtain ⟨mf93, hsub93, hsf93, H⟩ := H.fixR 1 rfl
                obtain ⟨decode, h_decode, hf⟩ := bindE hf
                refine st (callR (some 54) 20 #[.slice A6_0 encode.1.length c6_0] Try.call20 (dirent_Decode_c H.has encode.1 A6_0 c6_0 hsf93 h_decode) (by kernel_rfl) ?_)
                rintro _ w94 ⟨A94_0, c94_0, mk94, rfl, hS94⟩
                replace H := H0_92.callB hS94 ⟨rowI_ind (fun _ _ _ _ h => h), trivial⟩
                refine seg 9 [.op [1, 1, 1, 1, 1, 1, 0] 1, .co [1, 1, 1, 1, 1, 1, 1]] [(0, .slice A0_0 l_.length c0_0), (5, .slice A94_0 decode.1.length c94_0), (57, .int .i64 decode.2)] (by kernel_rfl) ?_
                refine st (callR (some 58) 17 #[.int .i64 decode.2] Try.call17 (law16_num_c H.has decode.2) (by kernel_rfl) ?_)
                rintro _ w95 ⟨rfl, hx95⟩
                replace H := H.ex hx95
                refine seg 2 [.op [1, 1, 1, 1, 1, 1, 0] 4, .co [1, 1, 1, 1, 1, 1, 1]] [(0, .slice A0_0 l_.length c0_0), (5, .slice A94_0 decode.1.length c94_0), (60, .bool ((law16_num decode.2) == 0))] (by kernel_rfl) ?_
                rcases condT hf with ⟨hb96, hf⟩ | ⟨hb96, hf⟩
                · rw [hb96]
                  refine seg 2 [.op [1, 1, 1, 1, 1, 1, 0] 6, .co [1, 1, 1, 1, 1, 1, 1]] [(60, .bool true), (61, .slice A0_0 l_.length c0_0), (62, .slice A94_0 decode.1.length c94_0)] (by kernel_rfl) ?_
                  have H0_97 := H
                  obtain ⟨mf98, hsub98, hsf98, H⟩ := H.fixR 0 rfl
                  obtain ⟨same, h_same, hf⟩ := bindE hf
                  refine st (callR (some 63) 21 #[.slice A0_0 l_.length c0_0, .slice A94_0 decode.1.length c94_0] Try.call21 (ref16_Same_c H.has l_ A0_0 c0_0 (s0_0.mono ((hsub6.trans hsub88).trans hsub98)) decode.1 A94_0 c94_0 hsf98 h_same) (by kernel_rfl) ?_)
                  rintro _ w99 ⟨rfl, hx99⟩
                  replace H := H0_97.ex hx99
                  refine seg 2 [.op [1, 1, 1, 1, 1, 1, 0] 9, .co [1, 1, 1, 1, 1, 1, 1]] [(65, .bool same)] (by kernel_rfl) ?_
                  rcases condT hf with ⟨hb100, hf⟩ | ⟨hb100, hf⟩
                  · rw [hb100]
                    obtain ⟨live1, h_live1, hf⟩ := bindE hf
                    refine st (callR (some 66) 13 #[] Try.call13 (law16_live_c H.has  h_live1) (by kernel_rfl) ?_)
                    rintro _ w101 ⟨rfl, hx101⟩
                    replace H := H.ex hx101
                    refine seg 3 [.co [1, 1, 1, 1, 1, 1, 1]] [(2, .bool live1)] (by kernel_rfl) ?_
                    refine retR [2] [.bool live1] (by kernel_rfl) (by kernel_rfl) (by kernel_rfl) ?_
                    have hret := (Option.some.inj hf)
                    subst hret
                    exact ⟨_, rfl, rfl, H.scalar⟩
                  · rw [hb100]
                    refine seg 4 [.co [1, 1, 1, 1, 1, 1, 1]] [(2, .bool false)] (by kernel_rfl) ?_
                    refine retR [2] [.bool false] (by kernel_rfl) (by kernel_rfl) (by kernel_rfl) ?_
                    have hret := (Option.some.inj hf)
                    subst hret
                    exact ⟨_, rfl, rfl, H.scalar⟩
                · rw [hb96]
                  refine seg 9 [.co [1, 1, 1, 1, 1, 1, 1]] [(2, .bool false)] (by kernel_rfl) ?_
                  refine retR [2] [.bool false] (by kernel_rfl) (by kernel_rfl) (by kernel_rfl) ?_
                  have hret := (Option.some.inj hf)
                  subst hret
                  exact ⟨_, rfl, rfl, H.scalar⟩
            · replace H : St w noF m mk88 [rowI rU8 5 A88_0 c88_0 bytes, rowI rU8 5 A6_0 c6_0 encode.1] w88 := H
              refine (b2sS (some 49) 30 9 5 A88_0 c88_0 bytes Try.underlying30 Try.underlying5 Try.underlying9 (by kernel_rfl) (H.rowCs 0 rfl) ?_)
              have hl102 : bytes.length ≤ 9223372036854775807 := (Nat.le_trans (H.rowCap 0 rfl).1 (H.rowCap 0 rfl).2)
              refine stD2 (i := 11) (by kernel_rfl) (H.has.sub hsub88) (b2sS (some 46) 30 9 5 A6_0 c6_0 encode.1 Try.underlying30 Try.underlying5 Try.underlying9 (by kernel_rfl) (H.rowCs 1 rfl) ?_)
              have hl103 : encode.1.length ≤ 9223372036854775807 := (Nat.le_trans (H.rowCap 1 rfl).1 (H.rowCap 1 rfl).2)
              refine segD2 hst [15] [0, 1, 2, 3, 4, 5, 6, 7, 8, 9, 10, 12, 13, 14, 11, 15] [(0, .slice A0_0 l_.length c0_0), (3, .slice A6_0 encode.1.length c6_0), (44, .bool false), (50, .bool (!((ByteArray.toList ⟨encode.1.toArray⟩) == (ByteArray.toList ⟨bytes.toArray⟩))))] (by kernel_rfl) ?_
              rw [sne_raw encode.1 bytes]
              refine segD2 hst [16] [0, 1, 2, 3, 4, 5, 6, 7, 8, 9, 10, 12, 13, 14, 11, 15, 16] [(0, .slice A0_0 l_.length c0_0), (3, .slice A6_0 encode.1.length c6_0), (51, .bool (encode.1 != bytes))] (by kernel_rfl) ?_
              refine endD2 (by kernel_rfl) (H.has.sub hsub88) ?_
              rcases condT hf with ⟨hb104, hf⟩ | ⟨hb104, hf⟩
              · rw [hb104]
                refine seg 5 [.co [1, 1, 1, 1, 0, 1, 0, 1], .co [1, 1, 1, 1, 1]] [(2, .bool false)] (by kernel_rfl) ?_
                refine retR [2] [.bool false] (by kernel_rfl) (by kernel_rfl) (by kernel_rfl) ?_
                have hret := (Option.some.inj hf)
                subst hret
                exact ⟨_, rfl, rfl, H.scalar⟩
              · rw [hb104]
                refine seg 5 [.op [1, 1, 1, 1, 1, 0] 1, .co [1, 1, 1, 1, 1, 1]] [(0, .slice A0_0 l_.length c0_0), (53, .slice A6_0 encode.1.length c6_0)] (by kernel_rfl) ?_
                have H0_105 := H
                obtain ⟨mf106, hsub106, hsf106, H⟩ := H.fixR 1 rfl
                obtain ⟨decode, h_decode, hf⟩ := bindE hf
                refine st (callR (some 54) 20 #[.slice A6_0 encode.1.length c6_0] Try.call20 (dirent_Decode_c H.has encode.1 A6_0 c6_0 hsf106 h_decode) (by kernel_rfl) ?_)
                rintro _ w107 ⟨A107_0, c107_0, mk107, rfl, hS107⟩
                replace H := H0_105.callB hS107 ⟨rowI_ind (fun _ _ _ _ h => h), trivial⟩
                refine seg 9 [.op [1, 1, 1, 1, 1, 1, 0] 1, .co [1, 1, 1, 1, 1, 1, 1]] [(0, .slice A0_0 l_.length c0_0), (5, .slice A107_0 decode.1.length c107_0), (57, .int .i64 decode.2)] (by kernel_rfl) ?_
                refine st (callR (some 58) 17 #[.int .i64 decode.2] Try.call17 (law16_num_c H.has decode.2) (by kernel_rfl) ?_)
                rintro _ w108 ⟨rfl, hx108⟩
                replace H := H.ex hx108
                refine seg 2 [.op [1, 1, 1, 1, 1, 1, 0] 4, .co [1, 1, 1, 1, 1, 1, 1]] [(0, .slice A0_0 l_.length c0_0), (5, .slice A107_0 decode.1.length c107_0), (60, .bool ((law16_num decode.2) == 0))] (by kernel_rfl) ?_
                rcases condT hf with ⟨hb109, hf⟩ | ⟨hb109, hf⟩
                · rw [hb109]
                  refine seg 2 [.op [1, 1, 1, 1, 1, 1, 0] 6, .co [1, 1, 1, 1, 1, 1, 1]] [(60, .bool true), (61, .slice A0_0 l_.length c0_0), (62, .slice A107_0 decode.1.length c107_0)] (by kernel_rfl) ?_
                  have H0_110 := H
                  obtain ⟨mf111, hsub111, hsf111, H⟩ := H.fixR 0 rfl
                  obtain ⟨same, h_same, hf⟩ := bindE hf
                  refine st (callR (some 63) 21 #[.slice A0_0 l_.length c0_0, .slice A107_0 decode.1.length c107_0] Try.call21 (ref16_Same_c H.has l_ A0_0 c0_0 (s0_0.mono ((hsub6.trans hsub88).trans hsub111)) decode.1 A107_0 c107_0 hsf111 h_same) (by kernel_rfl) ?_)
                  rintro _ w112 ⟨rfl, hx112⟩
                  replace H := H0_110.ex hx112
                  refine seg 2 [.op [1, 1, 1, 1, 1, 1, 0] 9, .co [1, 1, 1, 1, 1, 1, 1]] [(65, .bool same)] (by kernel_rfl) ?_
                  rcases condT hf with ⟨hb113, hf⟩ | ⟨hb113, hf⟩
                  · rw [hb113]
                    obtain ⟨live1, h_live1, hf⟩ := bindE hf
                    refine st (callR (some 66) 13 #[] Try.call13 (law16_live_c H.has  h_live1) (by kernel_rfl) ?_)
                    rintro _ w114 ⟨rfl, hx114⟩
                    replace H := H.ex hx114
                    refine seg 3 [.co [1, 1, 1, 1, 1, 1, 1]] [(2, .bool live1)] (by kernel_rfl) ?_
                    refine retR [2] [.bool live1] (by kernel_rfl) (by kernel_rfl) (by kernel_rfl) ?_
                    have hret := (Option.some.inj hf)
                    subst hret
                    exact ⟨_, rfl, rfl, H.scalar⟩
                  · rw [hb113]
                    refine seg 4 [.co [1, 1, 1, 1, 1, 1, 1]] [(2, .bool false)] (by kernel_rfl) ?_
                    refine retR [2] [.bool false] (by kernel_rfl) (by kernel_rfl) (by kernel_rfl) ?_
                    have hret := (Option.some.inj hf)
                    subst hret
                    exact ⟨_, rfl, rfl, H.scalar⟩
                · rw [hb109]
                  refine seg 9 [.co [1, 1, 1, 1, 1, 1, 1]] [(2, .bool false)] (by kernel_rfl) ?_
                  refine retR [2] [.bool false] (by kernel_rfl) (by kernel_rfl) (by kernel_rfl) ?_
                  have hret := (Option.some.inj hf)
                  subst hret
                  exact ⟨_, rfl, rfl, H.scalar⟩
    · rw [hb23]
      refine seg 4 [.op [1, 1, 1, 0, 1, 0, 0] 1, .co [1, 1, 1, 0, 1, 0, 1], .co [1, 1, 1, 1]] [(0, .slice A0_0 l_.length c0_0), (3, .slice A6_0 encode.1.length c6_0), (18, .int .i64 encode.2)] (by kernel_rfl) ?_
      replace H : St w noF m mk6 [rowI rU8 5 A6_0 c6_0 encode.1] w7 := H
      refine st (callR (some 19) 17 #[.int .i64 encode.2] Try.call17 (law16_num_c H.has encode.2) (by kernel_rfl) ?_)
      rintro _ w115 ⟨rfl, hx115⟩
      replace H := H.ex hx115
      refine seg 2 [.op [1, 1, 1, 0, 1, 0, 0] 4, .co [1, 1, 1, 0, 1, 0, 1], .co [1, 1, 1, 1]] [(0, .slice A0_0 l_.length c0_0), (3, .slice A6_0 encode.1.length c6_0), (21, .bool ((law16_num encode.2) == 1))] (by kernel_rfl) ?_
      rcases condT hf with ⟨hb116, hf⟩ | ⟨hb116, hf⟩
      · rw [hb116]
        refine seg 5 [.op [1, 1, 1, 0, 1, 0, 0] 9, .co [1, 1, 1, 0, 1, 0, 1], .co [1, 1, 1, 1]] [(0, .slice A0_0 l_.length c0_0), (26, .bool ((encode.1.length : Int) == 0))] (by kernel_rfl) ?_
        rcases condT hf with ⟨hb117, hf⟩ | ⟨hb117, hf⟩
        · rw [hb117]
          refine seg 1 [.op [1, 1, 1, 0, 1, 0, 0] 10, .co [1, 1, 1, 0, 1, 0, 1], .co [1, 1, 1, 1]] [(26, .bool true), (27, .slice A0_0 l_.length c0_0)] (by kernel_rfl) ?_
          obtain ⟨check1, h_check1, hf⟩ := bindE hf
          refine st (callR (some 28) 18 #[.slice A0_0 l_.length c0_0] Try.call18 (dirent_Check_c H.has l_ A0_0 c0_0 (s0_0.mono hsub6) h_check1) (by kernel_rfl) ?_)
          rintro _ w118 ⟨rfl, hx118⟩
          replace H := H.ex hx118
          refine st (callR (some 29) 17 #[.int .i64 check1] Try.call17 (law16_num_c H.has check1) (by kernel_rfl) ?_)
          rintro _ w119 ⟨rfl, hx119⟩
          replace H := H.ex hx119
          refine seg 3 [.op [1, 1, 1, 0, 1, 0, 0] 15, .co [1, 1, 1, 0, 1, 0, 1], .co [1, 1, 1, 1]] [(32, .bool ((law16_num check1) == 1))] (by kernel_rfl) ?_
          rcases condT hf with ⟨hb120, hf⟩ | ⟨hb120, hf⟩
          · rw [hb120]
            obtain ⟨live2, h_live2, hf⟩ := bindE hf
            refine st (callR (some 33) 13 #[] Try.call13 (law16_live_c H.has  h_live2) (by kernel_rfl) ?_)
            rintro _ w121 ⟨rfl, hx121⟩
            replace H := H.ex hx121
            refine seg 3 [.co [1, 1, 1, 0, 1, 0, 1], .co [1, 1, 1, 1]] [(2, .bool live2)] (by kernel_rfl) ?_
            refine retR [2] [.bool live2] (by kernel_rfl) (by kernel_rfl) (by kernel_rfl) ?_
            have hret := (Option.some.inj hf)
            subst hret
            exact ⟨_, rfl, rfl, H.scalar⟩
          · rw [hb120]
            refine seg 4 [.co [1, 1, 1, 0, 1, 0, 1], .co [1, 1, 1, 1]] [(2, .bool false)] (by kernel_rfl) ?_
            refine retR [2] [.bool false] (by kernel_rfl) (by kernel_rfl) (by kernel_rfl) ?_
            have hret := (Option.some.inj hf)
            subst hret
            exact ⟨_, rfl, rfl, H.scalar⟩
        · rw [hb117]
          refine seg 10 [.co [1, 1, 1, 0, 1, 0, 1], .co [1, 1, 1, 1]] [(2, .bool false)] (by kernel_rfl) ?_
          refine retR [2] [.bool false] (by kernel_rfl) (by kernel_rfl) (by kernel_rfl) ?_
          have hret := (Option.some.inj hf)
          subst hret
          exact ⟨_, rfl, rfl, H.scalar⟩
      · rw [hb116]
        refine seg 15 [.co [1, 1, 1, 0, 1, 0, 1], .co [1, 1, 1, 1]] [(2, .bool false)] (by kernel_rfl) ?_
        refine retR [2] [.bool false] (by kernel_rfl) (by kernel_rfl) (by kernel_rfl) ?_
        have hret := (Option.some.inj hf)
        subst hret
        exact ⟨_, rfl, rfl, H.scalar⟩
theorem ref01_Load_c {m : Mem} {w : World} (hm : Has m w) (b : (List UInt8)) (A0_0 : Option Addr) (c0_0 : Nat) (s0_0 : SlI rU8 m A0_0 c0_0 b) (at_ : Int) (w_ : Int) {r : UInt64} (hf : ref01_Load b at_ w_ = some r) :
    Calls Try.prog 53 #[.slice A0_0 b.length c0_0, .int .i64 at_, .int .i64 w_] w fun e w' => ∃ v, e = .returned v ∧ v = .int .u64 (r.toNat : Int) ∧ Ex w w' := by
  unfold ref01_Load at hf
  have H := St.start0 hm
  refine callsR Try.func53 (by kernel_rfl) (by kernel_rfl) ?_
  refine seg 15 [.co [1, 1, 0, 1], .co [1, 1, 1]] [(0, .slice A0_0 b.length c0_0), (1, .int .i64 at_), (7, .int .u64 0), (8, .int .i64 (IntKind.i64.wrap (w_ - 1)))] (by kernel_rfl) ?_
  obtain ⟨y28, hp28, hf⟩ := bindE hf
  refine joinR 0 (fun (x : UInt64) => [(7, .int .u64 (x.toNat : Int))]) (fun (x : UInt64) (wj28 : World) => y28 = x ∧ St w noF m m [] wj28) (by kernel_rfl) ?_ ?_
  · refine seg 1 [.co [1, 1, 0, 1, 0], .bl 0, .le 0, .co [1, 1, 1]] [(0, .slice A0_0 b.length c0_0), (1, .int .i64 at_), (7, .int .u64 0), (8, .int .i64 (IntKind.i64.wrap (w_ - 1)))] (by kernel_rfl) ?_
    obtain ⟨nn38, hR38⟩ := loopO_iff.1 hp28
    refine loopR 1 (fun (x : Nat × UInt64 × Int) => [(0, .slice A0_0 b.length c0_0), (1, .int .i64 at_), (7, .int .u64 (x.2.1.toNat : Int)), (8, .int .i64 x.2.2)]) (fun (x : Nat × UInt64 × Int) (wl38 : World) => iter (fun s => ref01_Load_l1 b at_ s.1 s.2) x.1 (x.2.1, x.2.2) = some y28 ∧ St w noF m m [] wl38) (fun (x : Nat × UInt64 × Int) => x.1) (nn38, (0 : UInt64), (IntKind.i64.wrap (w_ - 1))) (by kernel_rfl) (by kernel_rfl) (by kernel_rfl) ?_ ?_
    · exact ⟨hR38, H⟩
    rintro ⟨n38, n_, i⟩ wl38 ⟨hR38, H⟩
    try dsimp only at hR38
    try dsimp only at H
    obtain ⟨nk38, q38, rfl, hb_38, hnx38, hfin38⟩ := iterE hR38
    replace hb_38 : ref01_Load_l1 b at_ n_ i = some q38 := hb_38
    unfold ref01_Load_l1 at hb_38
    refine seg 6 [.co [1, 1, 0, 1, 0, 0, 0, 1], .co [1, 1, 0, 1, 0, 0, 1], .le 1, .bl 0, .le 0, .co [1, 1, 1]] [(0, .slice A0_0 b.length c0_0), (1, .int .i64 at_), (7, .int .u64 (n_.toNat : Int)), (8, .int .i64 i), (12, .bool (decide (i ≥ 0)))] (by kernel_rfl) ?_
    rcases condT hb_38 with ⟨hb40, hb_38⟩ | ⟨hb40, hb_38⟩
    · rw [hb40]
      have p40 := of_decide_eq_true hb40
      refine seg 11 [.op [1, 1, 0, 1, 0, 0, 1, 0, 0] 6, .bl 1, .co [1, 1, 0, 1, 0, 0, 1, 1], .le 1, .bl 0, .le 0, .co [1, 1, 1]] [(0, .slice A0_0 b.length c0_0), (1, .int .i64 at_), (8, .int .i64 i), (16, .int .u64 (IntKind.u64.wrap ((n_.toNat : Int) * 256))), (17, .slice A0_0 b.length c0_0), (20, .int .i64 (IntKind.i64.wrap (at_ + i)))] (by kernel_rfl) ?_
      rw [q64_mul n_ (256 : UInt64) (n_.toNat : Int) 256 (by rfl) (by rfl)]
      obtain ⟨x_, h_x_, hb_38⟩ := bindE hb_38
      obtain ⟨i041, i141, ix41⟩ := idx_some h_x_
      obtain ⟨ad42, _, ea42, rfl, hc42⟩ := s0_0.at_ ix41 (by decide)
      refine st (idxS (some 21) 30 5 1 A0_0 ad42 b.length c0_0 .i64 (IntKind.i64.wrap (at_ + i)) ea42 (by kernel_rfl) (by kernel_rfl) i041 i141 ?_)
      refine st (ldR (some 22) 5 (ad42.add ((IntKind.i64.wrap (at_ + i)).toNat * 1)) (.int .u8 (x_.toNat : Int)) (by kernel_rfl) (by kernel_rfl) (H.cellI (mc0 (hc42 0 _ rfl))) ?_)
      refine seg 10 [.le 1, .bl 0, .le 0, .co [1, 1, 1]] [(0, .slice A0_0 b.length c0_0), (1, .int .i64 at_), (7, .int .u64 (IntKind.u64.wrap (((n_ * (256 : UInt64)).toNat : Int) + (IntKind.u64.wrap (x_.toNat : Int))))), (8, .int .i64 (IntKind.i64.wrap (i - 1)))] (by kernel_rfl) ?_
      rw [q64_u8 x_]
      rw [q64_add (n_ * (256 : UInt64)) x_.toUInt64 ((n_ * (256 : UInt64)).toNat : Int) (x_.toUInt64.toNat : Int) (by rfl) (by rfl)]
      refine leR (nk38, ((n_ * (256 : UInt64)) + x_.toUInt64), (IntKind.i64.wrap (i - 1))) (Nat.lt_succ_self _) ⟨hnx38 _ (Option.some.inj hb_38).symm, H⟩ (by kernel_rfl)
    · rw [hb40]
      have p40 := of_decide_eq_false hb40
      refine seg 2 [.le 0, .co [1, 1, 1]] [(7, .int .u64 (n_.toNat : Int))] (by kernel_rfl) ?_
      refine leR_up (k' := []) (by rfl) ?_
      refine leJ (n_) ⟨(hfin38 _ (Option.some.inj hb_38).symm).symm, H⟩ (by kernel_rfl)
  rintro n_ wj28 ⟨hy28, H⟩
  rw [hy28] at hf
  refine seg 5 [.co [1, 1, 1, 1]] [(6, .int .u64 (n_.toNat : Int))] (by kernel_rfl) ?_
  refine retR [6] [.int .u64 (n_.toNat : Int)] (by kernel_rfl) (by kernel_rfl) (by kernel_rfl) ?_
  have hret := (Option.some.inj hf)
  subst hret
  exact ⟨_, rfl, rfl, H.scalar⟩
theorem ref16_Decode_c {m : Mem} {w : World} (hm : Has m w) (b : (List UInt8)) (A0_0 : Option Addr) (c0_0 : Nat) (s0_0 : SlI rU8 m A0_0 c0_0 b) {r : ((List TApiKid) × Int)} (hf : ref16_Decode b = some r) :
    Calls Try.prog 22 #[.slice A0_0 b.length c0_0] w fun e w' => ∃ v, e = .returned v ∧ ∃ Az_0 : Option Addr, ∃ cz_0 : Nat, ∃ m' : Mem, v = .tuple #[.slice Az_0 r.1.length cz_0, .int .i64 r.2] ∧ St w noF m m' [rowI rApiKid 28 Az_0 cz_0 r.1] w' := by
  unfold ref16_Decode at hf
  have H := St.start0 hm
  refine callsR Try.func22 (by kernel_rfl) (by kernel_rfl) ?_
  refine seg 14 [.co [1, 1, 0, 1], .co [1, 1, 1]] [(0, .slice A0_0 b.length c0_0), (4, .slice none 0 0), (5, .int .i64 0)] (by kernel_rfl) ?_
  obtain ⟨y409, hp409, hfl409, hfr409⟩ := bndE hf
  refine joinR 0 (fun (x : (List TApiKid) × Option Addr × Nat) => [(0, .slice A0_0 b.length c0_0), (4, .slice (x.2.1) x.1.length (x.2.2))]) (fun (x : (List TApiKid) × Option Addr × Nat) (wj409 : World) => y409 = .inl x.1 ∧ St w noF m m [rowI rApiKid 28 (x.2.1) (x.2.2) x.1] wj409) (by kernel_rfl) ?_ ?_
  · refine seg 1 [.co [1, 1, 0, 1, 0], .bl 0, .le 0, .co [1, 1, 1]] [(0, .slice A0_0 b.length c0_0), (4, .slice none 0 0), (5, .int .i64 0)] (by kernel_rfl) ?_
    have H := H.nilR rApiKid 28
    obtain ⟨nn511, hR511⟩ := loopO_iff.1 hp409
    refine loopR 1 (fun (x : Nat × (List TApiKid) × Int × Option Addr × Nat) => [(0, .slice A0_0 b.length c0_0), (4, .slice (x.2.2.2.1) x.2.1.length (x.2.2.2.2)), (5, .int .i64 x.2.2.1)]) (fun (x : Nat × (List TApiKid) × Int × Option Addr × Nat) (wl511 : World) => iter (fun s => ref16_Decode_l1 b s.1 s.2) x.1 (x.2.1, x.2.2.1) = some y409 ∧ St w noF m m [rowI rApiKid 28 (x.2.2.2.1) (x.2.2.2.2) x.2.1] wl511) (fun (x : Nat × (List TApiKid) × Int × Option Addr × Nat) => x.1) (nn511, [], 0, none, 0) (by kernel_rfl) (by kernel_rfl) (by kernel_rfl) ?_ ?_
    · exact ⟨hR511, H⟩
    rintro ⟨n511, l_, at_, A_1_512, c_2_512⟩ wl511 ⟨hR511, H⟩
    try dsimp only at hR511
    try dsimp only at H
    obtain ⟨nk511, q511, rfl, hb_511, hnx511, hfin511⟩ := iterE hR511
    replace hb_511 : ref16_Decode_l1 b l_ at_ = some q511 := hb_511
    unfold ref16_Decode_l1 at hb_511
    refine seg 8 [.co [1, 1, 0, 1, 0, 0, 0, 1], .co [1, 1, 0, 1, 0, 0, 1], .le 1, .bl 0, .le 0, .co [1, 1, 1]] [(0, .slice A0_0 b.length c0_0), (4, .slice A_1_512 l_.length c_2_512), (5, .int .i64 at_), (13, .bool (decide (at_ < (b.length : Int))))] (by kernel_rfl) ?_
    rcases condT hb_511 with ⟨hb513, hb_511⟩ | ⟨hb513, hb_511⟩
    · rw [hb513]
      have p513 := of_decide_eq_true hb513
      refine seg 12 [.co [1, 1, 0, 1, 0, 0, 1, 0, 0, 1], .co [1, 1, 0, 1, 0, 0, 1, 0, 1], .bl 1, .le 1, .bl 0, .le 0, .co [1, 1, 1]] [(0, .slice A0_0 b.length c0_0), (4, .slice A_1_512 l_.length c_2_512), (5, .int .i64 at_), (18, .bool (decide ((IntKind.i64.wrap (at_ + 6)) > (b.length : Int))))] (by kernel_rfl) ?_
      rcases condT hb_511 with ⟨hb514, hb_511⟩ | ⟨hb514, hb_511⟩
      · rw [hb514]
        have p514 := of_decide_eq_true hb514
        refine seg 6 [.co [1, 1, 0, 1, 0, 0, 1, 0, 0, 1, 0, 1], .co [1, 1, 0, 1, 0, 0, 1, 0, 1], .bl 1, .le 1, .bl 0, .le 0, .co [1, 1, 1]] [(2, .slice none 0 0), (3, .int .i64 6)] (by kernel_rfl) ?_
        have H := H.nilR rApiKid 28
        refine retR [2, 3] [.slice none 0 0, .int .i64 6] (by kernel_rfl) (by kernel_rfl) (by kernel_rfl) ?_
        obtain rfl : ([], 6) = r := (hfr409 _ (hfin511 _ (Option.some.inj hb_511).symm).symm)
        exact ⟨_, rfl, none, 0, m, rfl, (St.takeN 1 H)⟩
      · rw [hb514]
        have p514 := of_decide_eq_false hb514
        refine seg 6 [.op [1, 1, 0, 1, 0, 0, 1, 0, 1, 0] 2, .co [1, 1, 0, 1, 0, 0, 1, 0, 1, 1], .bl 1, .le 1, .bl 0, .le 0, .co [1, 1, 1]] [(0, .slice A0_0 b.length c0_0), (4, .slice A_1_512 l_.length c_2_512), (5, .int .i64 at_), (19, .slice A0_0 b.length c0_0), (20, .int .i64 at_)] (by kernel_rfl) ?_
        obtain ⟨load, h_load, hb_511⟩ := bindE hb_511
        refine st (callR (some 21) 53 #[.slice A0_0 b.length c0_0, .int .i64 at_, .int .i64 2] Try.call53 (ref01_Load_c H.has b A0_0 c0_0 s0_0 at_ 2 h_load) (by kernel_rfl) ?_)
        rintro _ w515 ⟨rfl, hx515⟩
        replace H := H.ex hx515
        refine seg 8 [.op [1, 1, 0, 1, 0, 0, 1, 0, 1, 1, 0] 3, .co [1, 1, 0, 1, 0, 0, 1, 0, 1, 1, 1], .bl 1, .le 1, .bl 0, .le 0, .co [1, 1, 1]] [(0, .slice A0_0 b.length c0_0), (4, .slice A_1_512 l_.length c_2_512), (5, .int .i64 at_), (6, .int .i64 (IntKind.i64.wrap (load.toNat : Int))), (23, .slice A0_0 b.length c0_0), (25, .int .i64 (IntKind.i64.wrap (at_ + 2)))] (by kernel_rfl) ?_
        replace H : St w noF m m [rowI rApiKid 28 A_1_512 c_2_512 l_] w515 := H
        obtain ⟨load1, h_load1, hb_511⟩ := bindE hb_511
        refine st (callR (some 26) 53 #[.slice A0_0 b.length c0_0, .int .i64 (IntKind.i64.wrap (at_ + 2)), .int .i64 4] Try.call53 (ref01_Load_c H.has b A0_0 c0_0 s0_0 (IntKind.i64.wrap (at_ + 2)) 4 h_load1) (by kernel_rfl) ?_)
        rintro _ w516 ⟨rfl, hx516⟩
        replace H := H.ex hx516
        refine seg 13 [.co [1, 1, 0, 1, 0, 0, 1, 0, 1, 1, 1, 1, 1], .bl 1, .le 1, .bl 0, .le 0, .co [1, 1, 1]] [(0, .slice A0_0 b.length c0_0), (4, .slice A_1_512 l_.length c_2_512), (5, .int .i64 (IntKind.i64.wrap (at_ + 6))), (6, .int .i64 (IntKind.i64.wrap (load.toNat : Int))), (7, .int .i64 (IntKind.i64.wrap (load1.toNat : Int))), (8, .int .i64 0)] (by kernel_rfl) ?_
        obtain ⟨y561, hp561, hfl561, hfr561⟩ := bndE hb_511
        refine joinR 2 (fun (x : (List TApiKid) × Int × Option Addr × Nat) => [(0, .slice A0_0 b.length c0_0), (4, .slice (x.2.2.1) x.1.length (x.2.2.2)), (5, .int .i64 x.2.1)]) (fun (x : (List TApiKid) × Int × Option Addr × Nat) (wj561 : World) => y561 = .inl (x.1, x.2.1) ∧ St w noF m m [rowI rApiKid 28 (x.2.2.1) (x.2.2.2) x.1] wj561) (by kernel_rfl) ?_ ?_
        · refine seg 1 [.co [1, 1, 0, 1, 0, 0, 1, 0, 1, 1, 1, 1, 1, 0], .bl 2, .le 2, .bl 1, .le 1, .bl 0, .le 0, .co [1, 1, 1]] [(0, .slice A0_0 b.length c0_0), (4, .slice A_1_512 l_.length c_2_512), (5, .int .i64 (IntKind.i64.wrap (at_ + 6))), (6, .int .i64 (IntKind.i64.wrap (load.toNat : Int))), (7, .int .i64 (IntKind.i64.wrap (load1.toNat : Int))), (8, .int .i64 0)] (by kernel_rfl) ?_
          obtain ⟨nn596, hR596⟩ := loopO_iff.1 hp561
          refine loopR 3 (fun (x : Nat × (List TApiKid) × Int × Int × Option Addr × Nat) => [(0, .slice A0_0 b.length c0_0), (4, .slice (x.2.2.2.2.1) x.2.1.length (x.2.2.2.2.2)), (5, .int .i64 x.2.2.1), (6, .int .i64 (IntKind.i64.wrap (load.toNat : Int))), (7, .int .i64 (IntKind.i64.wrap (load1.toNat : Int))), (8, .int .i64 x.2.2.2.1)]) (fun (x : Nat × (List TApiKid) × Int × Int × Option Addr × Nat) (wl596 : World) => iter (fun s => ref16_Decode_l2 b load load1 s.1 s.2.1 s.2.2) x.1 (x.2.1, x.2.2.1, x.2.2.2.1) = some y561 ∧ St w noF m m [rowI rApiKid 28 (x.2.2.2.2.1) (x.2.2.2.2.2) x.2.1] wl596) (fun (x : Nat × (List TApiKid) × Int × Int × Option Addr × Nat) => x.1) (nn596, l_, (IntKind.i64.wrap (at_ + 6)), 0, A_1_512, c_2_512) (by kernel_rfl) (by kernel_rfl) (by kernel_rfl) ?_ ?_
          · exact ⟨hR596, H⟩
          rintro ⟨n596, l_1, at_1, i, A_1_597, c_2_597⟩ wl596 ⟨hR596, H⟩
          try dsimp only at hR596
          try dsimp only at H
          obtain ⟨nk596, q596, rfl, hb_596, hnx596, hfin596⟩ := iterE hR596
          replace hb_596 : ref16_Decode_l2 b load load1 l_1 at_1 i = some q596 := hb_596
          unfold ref16_Decode_l2 at hb_596
          refine seg 7 [.co [1, 1, 0, 1, 0, 0, 1, 0, 1, 1, 1, 1, 1, 0, 0, 0, 1], .co [1, 1, 0, 1, 0, 0, 1, 0, 1, 1, 1, 1, 1, 0, 0, 1], .le 3, .bl 2, .le 2, .bl 1, .le 1, .bl 0, .le 0, .co [1, 1, 1]] [(0, .slice A0_0 b.length c0_0), (4, .slice A_1_597 l_1.length c_2_597), (5, .int .i64 at_1), (6, .int .i64 (IntKind.i64.wrap (load.toNat : Int))), (7, .int .i64 (IntKind.i64.wrap (load1.toNat : Int))), (8, .int .i64 i), (32, .bool (decide (i < (IntKind.i64.wrap (load.toNat : Int)))))] (by kernel_rfl) ?_
          rcases condT hb_596 with ⟨hb598, hb_596⟩ | ⟨hb598, hb_596⟩
          · rw [hb598]
            have p598 := of_decide_eq_true hb598
            refine seg 13 [.op [1, 1, 0, 1, 0, 0, 1, 0, 1, 1, 1, 1, 1, 0, 0, 1, 0, 0, 0, 0] 6, .co [1, 1, 0, 1, 0, 0, 1, 0, 1, 1, 1, 1, 1, 0, 0, 1, 0, 0, 0, 1], .co [1, 1, 0, 1, 0, 0, 1, 0, 1, 1, 1, 1, 1, 0, 0, 1, 0, 0, 1], .bl 3, .co [1, 1, 0, 1, 0, 0, 1, 0, 1, 1, 1, 1, 1, 0, 0, 1, 1], .le 3, .bl 2, .le 2, .bl 1, .le 1, .bl 0, .le 0, .co [1, 1, 1]] [(0, .slice A0_0 b.length c0_0), (4, .slice A_1_597 l_1.length c_2_597), (5, .int .i64 at_1), (6, .int .i64 (IntKind.i64.wrap (load.toNat : Int))), (7, .int .i64 (IntKind.i64.wrap (load1.toNat : Int))), (8, .int .i64 i), (40, .bool (decide ((IntKind.i64.wrap (at_1 + 3)) > (b.length : Int))))] (by kernel_rfl) ?_
            rcases condT hb_596 with ⟨hb599, hb_596⟩ | ⟨hb599, hb_596⟩
            · rw [hb599]
              have p599 := of_decide_eq_true hb599
              refine seg 20 [.co [1, 1, 0, 1, 0, 0, 1, 0, 1, 1, 1, 1, 1, 0, 0, 1, 0, 0, 0, 1, 0, 1], .co [1, 1, 0, 1, 0, 0, 1, 0, 1, 1, 1, 1, 1, 0, 0, 1, 0, 0, 1], .bl 3, .co [1, 1, 0, 1, 0, 0, 1, 0, 1, 1, 1, 1, 1, 0, 0, 1, 1], .le 3, .bl 2, .le 2, .bl 1, .le 1, .bl 0, .le 0, .co [1, 1, 1]] [(2, .slice none 0 0), (3, .int .i64 6)] (by kernel_rfl) ?_
              have H := H.nilR rApiKid 28
              refine retR [2, 3] [.slice none 0 0, .int .i64 6] (by kernel_rfl) (by kernel_rfl) (by kernel_rfl) ?_
              obtain rfl : ([], 6) = r := (hfr409 _ (hfin511 _ (hfr561 _ (hfin596 _ (Option.some.inj hb_596).symm).symm).symm).symm)
              exact ⟨_, rfl, none, 0, m, rfl, (St.takeN 1 H)⟩
            · rw [hb599]
              have p599 := of_decide_eq_false hb599
              refine seg 5 [.op [1, 1, 0, 1, 0, 0, 1, 0, 1, 1, 1, 1, 1, 0, 0, 1, 0, 0, 0, 0] 11, .co [1, 1, 0, 1, 0, 0, 1, 0, 1, 1, 1, 1, 1, 0, 0, 1, 0, 0, 0, 1], .co [1, 1, 0, 1, 0, 0, 1, 0, 1, 1, 1, 1, 1, 0, 0, 1, 0, 0, 1], .bl 3, .co [1, 1, 0, 1, 0, 0, 1, 0, 1, 1, 1, 1, 1, 0, 0, 1, 1], .le 3, .bl 2, .le 2, .bl 1, .le 1, .bl 0, .le 0, .co [1, 1, 1]] [(0, .slice A0_0 b.length c0_0), (4, .slice A_1_597 l_1.length c_2_597), (5, .int .i64 at_1), (6, .int .i64 (IntKind.i64.wrap (load.toNat : Int))), (7, .int .i64 (IntKind.i64.wrap (load1.toNat : Int))), (8, .int .i64 i), (40, .bool false), (42, .int .i64 (IntKind.i64.wrap (at_1 + 3))), (43, .slice A0_0 b.length c0_0), (45, .int .i64 (IntKind.i64.wrap (at_1 + 2)))] (by kernel_rfl) ?_
              replace H : St w noF m m [rowI rApiKid 28 A_1_597 c_2_597 l_1] wl596 := H
              obtain ⟨x_, h_x_, hb_596⟩ := bindE hb_596
              obtain ⟨i0600, i1600, ix600⟩ := idx_some h_x_
              obtain ⟨ad601, _, ea601, rfl, hc601⟩ := s0_0.at_ ix600 (by decide)
              refine st (idxS (some 46) 30 5 1 A0_0 ad601 b.length c0_0 .i64 (IntKind.i64.wrap (at_1 + 2)) ea601 (by kernel_rfl) (by kernel_rfl) i0600 i1600 ?_)
              refine st (ldR (some 47) 5 (ad601.add ((IntKind.i64.wrap (at_1 + 2)).toNat * 1)) (.int .u8 (x_.toNat : Int)) (by kernel_rfl) (by kernel_rfl) (H.cellI (mc0 (hc601 0 _ rfl))) ?_)
              refine seg 7 [.co [1, 1, 0, 1, 0, 0, 1, 0, 1, 1, 1, 1, 1, 0, 0, 1, 0, 0, 0, 1], .co [1, 1, 0, 1, 0, 0, 1, 0, 1, 1, 1, 1, 1, 0, 0, 1, 0, 0, 1], .bl 3, .co [1, 1, 0, 1, 0, 0, 1, 0, 1, 1, 1, 1, 1, 0, 0, 1, 1], .le 3, .bl 2, .le 2, .bl 1, .le 1, .bl 0, .le 0, .co [1, 1, 1]] [(0, .slice A0_0 b.length c0_0), (4, .slice A_1_597 l_1.length c_2_597), (5, .int .i64 at_1), (6, .int .i64 (IntKind.i64.wrap (load.toNat : Int))), (7, .int .i64 (IntKind.i64.wrap (load1.toNat : Int))), (8, .int .i64 i), (53, .bool (decide ((IntKind.i64.wrap ((IntKind.i64.wrap (at_1 + 3)) + (IntKind.i64.wrap (x_.toNat : Int)))) > (b.length : Int))))] (by kernel_rfl) ?_
              have := x_.toNat_lt
              rw [show IntKind.i64.wrap (x_.toNat : Int) = (x_.toNat : Int) from w64 (by omega)]
              rcases condT hb_596 with ⟨hb602, hb_596⟩ | ⟨hb602, hb_596⟩
              · rw [hb602]
                have p602 := of_decide_eq_true hb602
                refine seg 6 [.co [1, 1, 0, 1, 0, 0, 1, 0, 1, 1, 1, 1, 1, 0, 0, 1, 0, 0, 0, 1, 0, 1], .co [1, 1, 0, 1, 0, 0, 1, 0, 1, 1, 1, 1, 1, 0, 0, 1, 0, 0, 1], .bl 3, .co [1, 1, 0, 1, 0, 0, 1, 0, 1, 1, 1, 1, 1, 0, 0, 1, 1], .le 3, .bl 2, .le 2, .bl 1, .le 1, .bl 0, .le 0, .co [1, 1, 1]] [(2, .slice none 0 0), (3, .int .i64 6)] (by kernel_rfl) ?_
                have H := H.nilR rApiKid 28
                refine retR [2, 3] [.slice none 0 0, .int .i64 6] (by kernel_rfl) (by kernel_rfl) (by kernel_rfl) ?_
                obtain rfl : ([], 6) = r := (hfr409 _ (hfin511 _ (hfr561 _ (hfin596 _ (Option.some.inj hb_596).symm).symm).symm).symm)
                exact ⟨_, rfl, none, 0, m, rfl, (St.takeN 1 H)⟩
              · rw [hb602]
                have p602 := of_decide_eq_false hb602
                refine seg 7 [.op [1, 1, 0, 1, 0, 0, 1, 0, 1, 1, 1, 1, 1, 0, 0, 1, 0, 0, 1, 0] 3, .co [1, 1, 0, 1, 0, 0, 1, 0, 1, 1, 1, 1, 1, 0, 0, 1, 0, 0, 1, 1], .bl 3, .co [1, 1, 0, 1, 0, 0, 1, 0, 1, 1, 1, 1, 1, 0, 0, 1, 1], .le 3, .bl 2, .le 2, .bl 1, .le 1, .bl 0, .le 0, .co [1, 1, 1]] [(0, .slice A0_0 b.length c0_0), (4, .slice A_1_597 l_1.length c_2_597), (5, .int .i64 at_1), (6, .int .i64 (IntKind.i64.wrap (load.toNat : Int))), (7, .int .i64 (IntKind.i64.wrap (load1.toNat : Int))), (8, .int .i64 i), (54, .slice A0_0 b.length c0_0), (56, .int .i64 (IntKind.i64.wrap (at_1 + 2)))] (by kernel_rfl) ?_
                refine st (idxS (some 57) 30 5 1 A0_0 ad601 b.length c0_0 .i64 (IntKind.i64.wrap (at_1 + 2)) ea601 (by kernel_rfl) (by kernel_rfl) i0600 i1600 ?_)
                refine st (ldR (some 58) 5 (ad601.add ((IntKind.i64.wrap (at_1 + 2)).toNat * 1)) (.int .u8 (x_.toNat : Int)) (by kernel_rfl) (by kernel_rfl) (H.cellI (mc0 (hc601 0 _ rfl))) ?_)
                refine seg 4 [.co [1, 1, 0, 1, 0, 0, 1, 0, 1, 1, 1, 1, 1, 0, 0, 1, 0, 0, 1, 1, 0], .co [1, 1, 0, 1, 0, 0, 1, 0, 1, 1, 1, 1, 1, 0, 0, 1, 0, 0, 1, 1, 1], .bl 3, .co [1, 1, 0, 1, 0, 0, 1, 0, 1, 1, 1, 1, 1, 0, 0, 1, 1], .le 3, .bl 2, .le 2, .bl 1, .le 1, .bl 0, .le 0, .co [1, 1, 1]] [(0, .slice A0_0 b.length c0_0), (4, .slice A_1_597 l_1.length c_2_597), (5, .int .i64 at_1), (6, .int .i64 (IntKind.i64.wrap (load.toNat : Int))), (7, .int .i64 (IntKind.i64.wrap (load1.toNat : Int))), (8, .int .i64 i), (9, .int .i64 (IntKind.i64.wrap (x_.toNat : Int)))] (by kernel_rfl) ?_
                have := x_.toNat_lt
                rw [show IntKind.i64.wrap (x_.toNat : Int) = (x_.toNat : Int) from w64 (by omega)]
                obtain ⟨y_, h_y_, hb_596⟩ := bindE hb_596
                obtain ⟨load2, h_load2, hb_596⟩ := bindE hb_596
                obtain ⟨b1, h_b1, hb_596⟩ := bindE hb_596
                have hst : statB (bodyOf Try.f22) [1, 1, 0, 1, 0, 0, 1, 0, 1, 1, 1, 1, 1, 0, 0, 1, 0, 0, 1, 1, 0] = true := by kernel_rfl
                refine drawS (Has m) H (by kernel_rfl) (by kernel_rfl) ?_
                intro w608 H
                refine segD2 hst [0, 1, 2, 3] [0, 1, 2, 3] [(0, .slice A0_0 b.length c0_0), (5, .int .i64 at_1), (6, .int .i64 (IntKind.i64.wrap (load.toNat : Int))), (7, .int .i64 (IntKind.i64.wrap (load1.toNat : Int))), (8, .int .i64 i), (9, .int .i64 (x_.toNat : Int)), (60, .slice A_1_597 l_1.length c_2_597), (61, .slice A0_0 b.length c0_0), (63, .int .i64 (IntKind.i64.wrap (at_1 + 3)))] (by kernel_rfl) ?_
                refine segD2 hst [4, 5] [0, 1, 2, 3, 4, 5] [(0, .slice A0_0 b.length c0_0), (5, .int .i64 at_1), (6, .int .i64 (IntKind.i64.wrap (load.toNat : Int))), (7, .int .i64 (IntKind.i64.wrap (load1.toNat : Int))), (8, .int .i64 i), (9, .int .i64 (x_.toNat : Int)), (60, .slice A_1_597 l_1.length c_2_597), (61, .slice A0_0 b.length c0_0), (63, .int .i64 (IntKind.i64.wrap (at_1 + 3))), (65, .int .i64 (IntKind.i64.wrap (at_1 + 3)))] (by kernel_rfl) ?_
                refine segD2 hst [6, 7] [0, 1, 2, 3, 4, 5, 6, 7] [(0, .slice A0_0 b.length c0_0), (5, .int .i64 at_1), (6, .int .i64 (IntKind.i64.wrap (load.toNat : Int))), (7, .int .i64 (IntKind.i64.wrap (load1.toNat : Int))), (8, .int .i64 i), (9, .int .i64 (x_.toNat : Int)), (60, .slice A_1_597 l_1.length c_2_597), (61, .slice A0_0 b.length c0_0), (63, .int .i64 (IntKind.i64.wrap (at_1 + 3))), (67, .int .i64 (IntKind.i64.wrap ((IntKind.i64.wrap (at_1 + 3)) + (x_.toNat : Int))))] (by kernel_rfl) ?_
                refine segD2 hst [10, 11, 12] [0, 1, 2, 3, 4, 5, 6, 7, 10, 11, 12] [(0, .slice A0_0 b.length c0_0), (5, .int .i64 at_1), (6, .int .i64 (IntKind.i64.wrap (load.toNat : Int))), (7, .int .i64 (IntKind.i64.wrap (load1.toNat : Int))), (8, .int .i64 i), (9, .int .i64 (x_.toNat : Int)), (60, .slice A_1_597 l_1.length c_2_597), (61, .slice A0_0 b.length c0_0), (63, .int .i64 (IntKind.i64.wrap (at_1 + 3))), (67, .int .i64 (IntKind.i64.wrap ((IntKind.i64.wrap (at_1 + 3)) + (x_.toNat : Int)))), (70, .int .i64 (IntKind.i64.wrap (load1.toNat : Int))), (71, .slice A0_0 b.length c0_0), (72, .int .i64 at_1)] (by kernel_rfl) ?_
                refine allD2 [8, 13] (by kernel_rfl) H.has ⟨?_, ?_, trivial⟩
                · refine (sliS (r := rU8) (some 68) 30 5 A0_0 c0_0 b y_ (some (.int .i64 (IntKind.i64.wrap (at_1 + 3)))) (some (.int .i64 (IntKind.i64.wrap ((IntKind.i64.wrap (at_1 + 3)) + (x_.toNat : Int))))) (IntKind.i64.wrap (at_1 + 3)) (IntKind.i64.wrap ((IntKind.i64.wrap (at_1 + 3)) + (x_.toNat : Int))) s0_0 (by kernel_rfl) (by kernel_rfl) (.inr ⟨_, rfl⟩) (.inr ⟨_, rfl⟩) h_y_ ?_)
                  intro A610 c610 hs610
                  refine allD2 [9, 13] (by kernel_rfl) H.has ⟨?_, ?_, trivial⟩
                  · refine (b2sS (some 69) 30 9 5 A610 c610 y_ Try.underlying30 Try.underlying5 Try.underlying9 (by kernel_rfl) (hs610.bytes.cs H.has) ?_)
                    have hl611 : y_.length ≤ 9223372036854775807 := hs610.bound
                    refine stD2 (i := 13) (by kernel_rfl) H.has (callR (some 73) 53 #[.slice A0_0 b.length c0_0, .int .i64 at_1, .int .i64 2] Try.call53 (ref01_Load_c H.has b A0_0 c0_0 s0_0 at_1 2 h_load2) (by kernel_rfl) ?_)
                    rintro _ w612 ⟨rfl, hx612⟩
                    replace H := H.ex hx612
                    refine segD2 hst [14] [0, 1, 2, 3, 4, 5, 6, 7, 10, 11, 12, 8, 9, 13, 14] [(0, .slice A0_0 b.length c0_0), (5, .int .i64 at_1), (6, .int .i64 (IntKind.i64.wrap (load.toNat : Int))), (7, .int .i64 (IntKind.i64.wrap (load1.toNat : Int))), (8, .int .i64 i), (9, .int .i64 (x_.toNat : Int)), (60, .slice A_1_597 l_1.length c_2_597), (69, .string ⟨y_.toArray⟩), (70, .int .i64 (IntKind.i64.wrap (load1.toNat : Int))), (74, .int .i64 (IntKind.i64.wrap (load2.toNat : Int)))] (by kernel_rfl) ?_
                    refine segD2 hst [15] [0, 1, 2, 3, 4, 5, 6, 7, 10, 11, 12, 8, 9, 13, 14, 15] [(0, .slice A0_0 b.length c0_0), (5, .int .i64 at_1), (6, .int .i64 (IntKind.i64.wrap (load.toNat : Int))), (7, .int .i64 (IntKind.i64.wrap (load1.toNat : Int))), (8, .int .i64 i), (9, .int .i64 (x_.toNat : Int)), (60, .slice A_1_597 l_1.length c_2_597), (69, .string ⟨y_.toArray⟩), (75, .int .i64 (IntKind.i64.wrap ((IntKind.i64.wrap (load1.toNat : Int)) + (IntKind.i64.wrap (load2.toNat : Int)))))] (by kernel_rfl) ?_
                    refine segD2 hst [16] [0, 1, 2, 3, 4, 5, 6, 7, 10, 11, 12, 8, 9, 13, 14, 15, 16] [(0, .slice A0_0 b.length c0_0), (5, .int .i64 at_1), (6, .int .i64 (IntKind.i64.wrap (load.toNat : Int))), (7, .int .i64 (IntKind.i64.wrap (load1.toNat : Int))), (8, .int .i64 i), (9, .int .i64 (x_.toNat : Int)), (60, .slice A_1_597 l_1.length c_2_597), (76, .agg #[.string ⟨y_.toArray⟩, .int .i64 (IntKind.i64.wrap ((IntKind.i64.wrap (load1.toNat : Int)) + (IntKind.i64.wrap (load2.toNat : Int))))])] (by kernel_rfl) ?_
                    replace H : St w noF m m [rowI rApiKid 28 A_1_597 c_2_597 l_1] w612 := H
                    refine stD2 (i := 17) (by kernel_rfl) H.has (newS (some 77) (fun g => .slice (some ⟨g, 0, none⟩) 1 1) [.string ⟨y_.toArray⟩, .int .i64 (IntKind.i64.wrap ((IntKind.i64.wrap (load1.toNat : Int)) + (IntKind.i64.wrap (load2.toNat : Int))))] 28 H (by kernel_rfl) ?_)
                    intro g613 w613 H
                    refine stD2 (i := 18) (by kernel_rfl) H.has (appS (r := rApiKid) (some 78) 22 28 24 (.agg #[.string ⟨([] : List UInt8).toArray⟩, .int .i64 0]) 22 1 A_1_597 (some ⟨g613, 0, none⟩) c_2_597 1 1 l_1 [({ Name := y_, Ino := (IntKind.i64.wrap ((IntKind.i64.wrap (load1.toNat : Int)) + (IntKind.i64.wrap (load2.toNat : Int)))) } : TApiKid)] b1 _ H rfl ⟨Try.underlying22, by kernel_rfl⟩ rfl (by decide) (by kernel_rfl) (Cs.of_blk (H.blk 0 rfl)) (Rows.cons (cs := [.string ⟨y_.toArray⟩, .int .i64 (IntKind.i64.wrap ((IntKind.i64.wrap (load1.toNat : Int)) + (IntKind.i64.wrap (load2.toNat : Int))))]) ⟨rfl, hl611⟩ Rows.nil) rfl h_b1 (by decide) (by decide) ?_)
                    intro A614 c614 w614 H
                    replace H := H.drop 0 rfl
                    refine segD2 hst [19] [0, 1, 2, 3, 4, 5, 6, 7, 10, 11, 12, 8, 9, 13, 14, 15, 16, 17, 18, 19] [(0, .slice A0_0 b.length c0_0), (4, .slice A614 b1.length c614), (5, .int .i64 at_1), (6, .int .i64 (IntKind.i64.wrap (load.toNat : Int))), (7, .int .i64 (IntKind.i64.wrap (load1.toNat : Int))), (8, .int .i64 i), (9, .int .i64 (x_.toNat : Int))] (by kernel_rfl) ?_
                    refine endD2 (by kernel_rfl) H.has ?_
                    refine seg 13 [.le 3, .bl 2, .le 2, .bl 1, .le 1, .bl 0, .le 0, .co [1, 1, 1]] [(0, .slice A0_0 b.length c0_0), (4, .slice A614 b1.length c614), (5, .int .i64 (IntKind.i64.wrap ((IntKind.i64.wrap (at_1 + 3)) + (x_.toNat : Int)))), (6, .int .i64 (IntKind.i64.wrap (load.toNat : Int))), (7, .int .i64 (IntKind.i64.wrap (load1.toNat : Int))), (8, .int .i64 (IntKind.i64.wrap (i + 1)))] (by kernel_rfl) ?_
                    refine leR (nk596, b1, (IntKind.i64.wrap ((IntKind.i64.wrap (at_1 + 3)) + (x_.toNat : Int))), (IntKind.i64.wrap (i + 1)), A614, c614) (Nat.lt_succ_self _) ⟨hnx596 _ (Option.some.inj hb_596).symm, H⟩ (by kernel_rfl)
                  · refine (callR (some 73) 53 #[.slice A0_0 b.length c0_0, .int .i64 at_1, .int .i64 2] Try.call53 (ref01_Load_c H.has b A0_0 c0_0 s0_0 at_1 2 h_load2) (by kernel_rfl) ?_)
                    rintro _ w615 ⟨rfl, hx615⟩
                    replace H := H.ex hx615
                    refine segD2 hst [14] [0, 1, 2, 3, 4, 5, 6, 7, 10, 11, 12, 8, 13, 14] [(0, .slice A0_0 b.length c0_0), (5, .int .i64 at_1), (6, .int .i64 (IntKind.i64.wrap (load.toNat : Int))), (7, .int .i64 (IntKind.i64.wrap (load1.toNat : Int))), (8, .int .i64 i), (9, .int .i64 (x_.toNat : Int)), (60, .slice A_1_597 l_1.length c_2_597), (68, .slice A610 y_.length c610), (70, .int .i64 (IntKind.i64.wrap (load1.toNat : Int))), (74, .int .i64 (IntKind.i64.wrap (load2.toNat : Int)))] (by kernel_rfl) ?_
                    refine segD2 hst [15] [0, 1, 2, 3, 4, 5, 6, 7, 10, 11, 12, 8, 13, 14, 15] [(0, .slice A0_0 b.length c0_0), (5, .int .i64 at_1), (6, .int .i64 (IntKind.i64.wrap (load.toNat : Int))), (7, .int .i64 (IntKind.i64.wrap (load1.toNat : Int))), (8, .int .i64 i), (9, .int .i64 (x_.toNat : Int)), (60, .slice A_1_597 l_1.length c_2_597), (68, .slice A610 y_.length c610), (75, .int .i64 (IntKind.i64.wrap ((IntKind.i64.wrap (load1.toNat : Int)) + (IntKind.i64.wrap (load2.toNat : Int)))))] (by kernel_rfl) ?_
                    refine stD2 (i := 9) (by kernel_rfl) H.has (b2sS (some 69) 30 9 5 A610 c610 y_ Try.underlying30 Try.underlying5 Try.underlying9 (by kernel_rfl) (hs610.bytes.cs H.has) ?_)
                    have hl616 : y_.length ≤ 9223372036854775807 := hs610.bound
                    refine segD2 hst [16] [0, 1, 2, 3, 4, 5, 6, 7, 10, 11, 12, 8, 13, 14, 15, 9, 16] [(0, .slice A0_0 b.length c0_0), (5, .int .i64 at_1), (6, .int .i64 (IntKind.i64.wrap (load.toNat : Int))), (7, .int .i64 (IntKind.i64.wrap (load1.toNat : Int))), (8, .int .i64 i), (9, .int .i64 (x_.toNat : Int)), (60, .slice A_1_597 l_1.length c_2_597), (76, .agg #[.string ⟨y_.toArray⟩, .int .i64 (IntKind.i64.wrap ((IntKind.i64.wrap (load1.toNat : Int)) + (IntKind.i64.wrap (load2.toNat : Int))))])] (by kernel_rfl) ?_
                    refine stD2 (i := 17) (by kernel_rfl) H.has (newS (some 77) (fun g => .slice (some ⟨g, 0, none⟩) 1 1) [.string ⟨y_.toArray⟩, .int .i64 (IntKind.i64.wrap ((IntKind.i64.wrap (load1.toNat : Int)) + (IntKind.i64.wrap (load2.toNat : Int))))] 28 H (by kernel_rfl) ?_)
                    intro g617 w617 H
                    replace H : St w noF m m [blkI g617 [.string ⟨y_.toArray⟩, .int .i64 (IntKind.i64.wrap ((IntKind.i64.wrap (load1.toNat : Int)) + (IntKind.i64.wrap (load2.toNat : Int))))] 28, rowI rApiKid 28 A_1_597 c_2_597 l_1] w617 := H
                    refine stD2 (i := 18) (by kernel_rfl) H.has (appS (r := rApiKid) (some 78) 22 28 24 (.agg #[.string ⟨([] : List UInt8).toArray⟩, .int .i64 0]) 22 1 A_1_597 (some ⟨g617, 0, none⟩) c_2_597 1 1 l_1 [({ Name := y_, Ino := (IntKind.i64.wrap ((IntKind.i64.wrap (load1.toNat : Int)) + (IntKind.i64.wrap (load2.toNat : Int)))) } : TApiKid)] b1 _ H rfl ⟨Try.underlying22, by kernel_rfl⟩ rfl (by decide) (by kernel_rfl) (Cs.of_blk (H.blk 0 rfl)) (Rows.cons (cs := [.string ⟨y_.toArray⟩, .int .i64 (IntKind.i64.wrap ((IntKind.i64.wrap (load1.toNat : Int)) + (IntKind.i64.wrap (load2.toNat : Int))))]) ⟨rfl, hl616⟩ Rows.nil) rfl h_b1 (by decide) (by decide) ?_)
                    intro A618 c618 w618 H
                    replace H := H.drop 0 rfl
                    refine segD2 hst [19] [0, 1, 2, 3, 4, 5, 6, 7, 10, 11, 12, 8, 13, 14, 15, 9, 16, 17, 18, 19] [(0, .slice A0_0 b.length c0_0), (4, .slice A618 b1.length c618), (5, .int .i64 at_1), (6, .int .i64 (IntKind.i64.wrap (load.toNat : Int))), (7, .int .i64 (IntKind.i64.wrap (load1.toNat : Int))), (8, .int .i64 i), (9, .int .i64 (x_.toNat : Int))] (by kernel_rfl) ?_
                    refine endD2 (by kernel_rfl) H.has ?_
                    refine seg 13 [.le 3, .bl 2, .le 2, .bl 1, .le 1, .bl 0, .le 0, .co [1, 1, 1]] [(0, .slice A0_0 b.length c0_0), (4, .slice A618 b1.length c618), (5, .int .i64 (IntKind.i64.wrap ((IntKind.i64.wrap (at_1 + 3)) + (x_.toNat : Int)))), (6, .int .i64 (IntKind.i64.wrap (load.toNat : Int))), (7, .int .i64 (IntKind.i64.wrap (load1.toNat : Int))), (8, .int .i64 (IntKind.i64.wrap (i + 1)))] (by kernel_rfl) ?_
                    refine leR (nk596, b1, (IntKind.i64.wrap ((IntKind.i64.wrap (at_1 + 3)) + (x_.toNat : Int))), (IntKind.i64.wrap (i + 1)), A618, c618) (Nat.lt_succ_self _) ⟨hnx596 _ (Option.some.inj hb_596).symm, H⟩ (by kernel_rfl)
                · refine (callR (some 73) 53 #[.slice A0_0 b.length c0_0, .int .i64 at_1, .int .i64 2] Try.call53 (ref01_Load_c H.has b A0_0 c0_0 s0_0 at_1 2 h_load2) (by kernel_rfl) ?_)
                  rintro _ w619 ⟨rfl, hx619⟩
                  replace H := H.ex hx619
                  refine segD2 hst [14] [0, 1, 2, 3, 4, 5, 6, 7, 10, 11, 12, 13, 14] [(0, .slice A0_0 b.length c0_0), (5, .int .i64 at_1), (6, .int .i64 (IntKind.i64.wrap (load.toNat : Int))), (7, .int .i64 (IntKind.i64.wrap (load1.toNat : Int))), (8, .int .i64 i), (9, .int .i64 (x_.toNat : Int)), (60, .slice A_1_597 l_1.length c_2_597), (61, .slice A0_0 b.length c0_0), (63, .int .i64 (IntKind.i64.wrap (at_1 + 3))), (67, .int .i64 (IntKind.i64.wrap ((IntKind.i64.wrap (at_1 + 3)) + (x_.toNat : Int)))), (70, .int .i64 (IntKind.i64.wrap (load1.toNat : Int))), (74, .int .i64 (IntKind.i64.wrap (load2.toNat : Int)))] (by kernel_rfl) ?_
                  refine segD2 hst [15] [0, 1, 2, 3, 4, 5, 6, 7, 10, 11, 12, 13, 14, 15] [(0, .slice A0_0 b.length c0_0), (5, .int .i64 at_1), (6, .int .i64 (IntKind.i64.wrap (load.toNat : Int))), (7, .int .i64 (IntKind.i64.wrap (load1.toNat : Int))), (8, .int .i64 i), (9, .int .i64 (x_.toNat : Int)), (60, .slice A_1_597 l_1.length c_2_597), (61, .slice A0_0 b.length c0_0), (63, .int .i64 (IntKind.i64.wrap (at_1 + 3))), (67, .int .i64 (IntKind.i64.wrap ((IntKind.i64.wrap (at_1 + 3)) + (x_.toNat : Int)))), (75, .int .i64 (IntKind.i64.wrap ((IntKind.i64.wrap (load1.toNat : Int)) + (IntKind.i64.wrap (load2.toNat : Int)))))] (by kernel_rfl) ?_
                  refine stD2 (i := 8) (by kernel_rfl) H.has (sliS (r := rU8) (some 68) 30 5 A0_0 c0_0 b y_ (some (.int .i64 (IntKind.i64.wrap (at_1 + 3)))) (some (.int .i64 (IntKind.i64.wrap ((IntKind.i64.wrap (at_1 + 3)) + (x_.toNat : Int))))) (IntKind.i64.wrap (at_1 + 3)) (IntKind.i64.wrap ((IntKind.i64.wrap (at_1 + 3)) + (x_.toNat : Int))) s0_0 (by kernel_rfl) (by kernel_rfl) (.inr ⟨_, rfl⟩) (.inr ⟨_, rfl⟩) h_y_ ?_)
                  intro A620 c620 hs620
                  refine stD2 (i := 9) (by kernel_rfl) H.has (b2sS (some 69) 30 9 5 A620 c620 y_ Try.underlying30 Try.underlying5 Try.underlying9 (by kernel_rfl) (hs620.bytes.cs H.has) ?_)
                  have hl621 : y_.length ≤ 9223372036854775807 := hs620.bound
                  refine segD2 hst [16] [0, 1, 2, 3, 4, 5, 6, 7, 10, 11, 12, 13, 14, 15, 8, 9, 16] [(0, .slice A0_0 b.length c0_0), (5, .int .i64 at_1), (6, .int .i64 (IntKind.i64.wrap (load.toNat : Int))), (7, .int .i64 (IntKind.i64.wrap (load1.toNat : Int))), (8, .int .i64 i), (9, .int .i64 (x_.toNat : Int)), (60, .slice A_1_597 l_1.length c_2_597), (76, .agg #[.string ⟨y_.toArray⟩, .int .i64 (IntKind.i64.wrap ((IntKind.i64.wrap (load1.toNat : Int)) + (IntKind.i64.wrap (load2.toNat : Int))))])] (by kernel_rfl) ?_
                  refine stD2 (i := 17) (by kernel_rfl) H.has (newS (some 77) (fun g => .slice (some ⟨g, 0, none⟩) 1 1) [.string ⟨y_.toArray⟩, .int .i64 (IntKind.i64.wrap ((IntKind.i64.wrap (load1.toNat : Int)) + (IntKind.i64.wrap (load2.toNat : Int))))] 28 H (by kernel_rfl) ?_)
                  intro g622 w622 H
                  refine stD2 (i := 18) (by kernel_rfl) H.has (appS (r := rApiKid) (some 78) 22 28 24 (.agg #[.string ⟨([] : List UInt8).toArray⟩, .int .i64 0]) 22 1 A_1_597 (some ⟨g622, 0, none⟩) c_2_597 1 1 l_1 [({ Name := y_, Ino := (IntKind.i64.wrap ((IntKind.i64.wrap (load1.toNat : Int)) + (IntKind.i64.wrap (load2.toNat : Int)))) } : TApiKid)] b1 _ H rfl ⟨Try.underlying22, by kernel_rfl⟩ rfl (by decide) (by kernel_rfl) (Cs.of_blk (H.blk 0 rfl)) (Rows.cons (cs := [.string ⟨y_.toArray⟩, .int .i64 (IntKind.i64.wrap ((IntKind.i64.wrap (load1.toNat : Int)) + (IntKind.i64.wrap (load2.toNat : Int))))]) ⟨rfl, hl621⟩ Rows.nil) rfl h_b1 (by decide) (by decide) ?_)
                  intro A623 c623 w623 H
                  replace H := H.drop 0 rfl
                  refine segD2 hst [19] [0, 1, 2, 3, 4, 5, 6, 7, 10, 11, 12, 13, 14, 15, 8, 9, 16, 17, 18, 19] [(0, .slice A0_0 b.length c0_0), (4, .slice A623 b1.length c623), (5, .int .i64 at_1), (6, .int .i64 (IntKind.i64.wrap (load.toNat : Int))), (7, .int .i64 (IntKind.i64.wrap (load1.toNat : Int))), (8, .int .i64 i), (9, .int .i64 (x_.toNat : Int))] (by kernel_rfl) ?_
                  refine endD2 (by kernel_rfl) H.has ?_
                  refine seg 13 [.le 3, .bl 2, .le 2, .bl 1, .le 1, .bl 0, .le 0, .co [1, 1, 1]] [(0, .slice A0_0 b.length c0_0), (4, .slice A623 b1.length c623), (5, .int .i64 (IntKind.i64.wrap ((IntKind.i64.wrap (at_1 + 3)) + (x_.toNat : Int)))), (6, .int .i64 (IntKind.i64.wrap (load.toNat : Int))), (7, .int .i64 (IntKind.i64.wrap (load1.toNat : Int))), (8, .int .i64 (IntKind.i64.wrap (i + 1)))] (by kernel_rfl) ?_
                  refine leR (nk596, b1, (IntKind.i64.wrap ((IntKind.i64.wrap (at_1 + 3)) + (x_.toNat : Int))), (IntKind.i64.wrap (i + 1)), A623, c623) (Nat.lt_succ_self _) ⟨hnx596 _ (Option.some.inj hb_596).symm, H⟩ (by kernel_rfl)
          · rw [hb598]
            have p598 := of_decide_eq_false hb598
            refine seg 2 [.le 2, .bl 1, .le 1, .bl 0, .le 0, .co [1, 1, 1]] [(0, .slice A0_0 b.length c0_0), (4, .slice A_1_597 l_1.length c_2_597), (5, .int .i64 at_1)] (by kernel_rfl) ?_
            refine leR_up (k' := []) (by rfl) ?_
            refine leJ (l_1, at_1, A_1_597, c_2_597) ⟨(hfin596 _ (Option.some.inj hb_596).symm).symm, H⟩ (by kernel_rfl)
        rintro ⟨l_1, at_1, A_1_562, c_2_562⟩ wj561 ⟨hy561, H⟩
        try dsimp only at hy561
        try dsimp only at H
        have hb_511 := hfl561 _ hy561
        try dsimp only at hb_511
        refine seg 1 [.le 1, .bl 0, .le 0, .co [1, 1, 1]] [(0, .slice A0_0 b.length c0_0), (4, .slice A_1_562 l_1.length c_2_562), (5, .int .i64 at_1)] (by kernel_rfl) ?_
        refine leR (nk511, l_1, at_1, A_1_562, c_2_562) (Nat.lt_succ_self _) ⟨hnx511 _ (Option.some.inj hb_511).symm, H⟩ (by kernel_rfl)
    · rw [hb513]
      have p513 := of_decide_eq_false hb513
      refine seg 2 [.le 0, .co [1, 1, 1]] [(0, .slice A0_0 b.length c0_0), (4, .slice A_1_512 l_.length c_2_512)] (by kernel_rfl) ?_
      refine leR_up (k' := []) (by rfl) ?_
      refine leJ (l_, A_1_512, c_2_512) ⟨(hfin511 _ (Option.some.inj hb_511).symm).symm, H⟩ (by kernel_rfl)
  rintro ⟨l_, A_1_410, c_2_410⟩ wj409 ⟨hy409, H⟩
  try dsimp only at hy409
  try dsimp only at H
  have hf := hfl409 _ hy409
  refine seg 2 [.co [1, 1, 1, 0, 0], .co [1, 1, 1, 0, 1], .co [1, 1, 1, 1]] [(0, .slice A0_0 b.length c0_0), (4, .slice A_1_410 l_.length c_2_410)] (by kernel_rfl) ?_
  obtain ⟨right, h_right, hf⟩ := bindE hf
  rcases condT hf with ⟨hb644, hf⟩ | ⟨hb644, hf⟩
  · obtain ⟨bytes, h_bytes, hf⟩ := bindE hf
    have hst : statB (bodyOf Try.f22) [1, 1, 1, 0, 0] = true := by kernel_rfl
    refine drawS (Has m) H (by kernel_rfl) (by kernel_rfl) ?_
    intro w653 H
    refine segD2 hst [0] [0] [(0, .slice A0_0 b.length c0_0), (4, .slice A_1_410 l_.length c_2_410), (83, .slice A_1_410 l_.length c_2_410)] (by kernel_rfl) ?_
    replace H : St w noF m m [rowI rApiKid 28 A_1_410 c_2_410 l_] w653 := H
    have H0_654 := H
    obtain ⟨mf655, hsub655, hsf655, H⟩ := H.fixR 0 rfl
    refine stD2 (i := 1) (by kernel_rfl) (H.has.sub hsub655) (callR (some 84) 16 #[.slice A_1_410 l_.length c_2_410] Try.call16 (ref16_Right_c H.has l_ A_1_410 c_2_410 hsf655 h_right) (by kernel_rfl) ?_)
    rintro _ w656 ⟨rfl, hx656⟩
    replace H := H0_654.ex hx656
    refine segD2 hst [2] [0, 1, 2] [(0, .slice A0_0 b.length c0_0), (4, .slice A_1_410 l_.length c_2_410), (85, .bool (!right))] (by kernel_rfl) ?_
    rw [show right = true from hb644]
    refine segD2 hst [3, 4, 7] [0, 1, 2, 3, 4, 7] [(4, .slice A_1_410 l_.length c_2_410), (86, .bool false), (87, .slice A_1_410 l_.length c_2_410), (90, .slice A0_0 b.length c0_0)] (by kernel_rfl) ?_
    refine takeD2 (i := 8) (d := (some 91)) (s := vS (convert 30 9 (.slice A0_0 b.length c0_0))) (v := .string ⟨b.toArray⟩) hst (by kernel_rfl) (by kernel_rfl) (fun w' hw' => b2s_run _ _ 5 _ _ _ _ Try.underlying30 Try.underlying5 Try.underlying9 (s0_0.bytes.cs hw') rfl) ?_
    have hl657 : b.length ≤ 9223372036854775807 := s0_0.bound
    have H0_658 := H
    obtain ⟨mf659, hsub659, hsf659, H⟩ := H.fixR 0 rfl
    refine stD2 (i := 5) (by kernel_rfl) (H.has.sub hsub659) (callR (some 88) 19 #[.slice A_1_410 l_.length c_2_410] Try.call19 (ref16_Bytes_c H.has l_ A_1_410 c_2_410 hsf659 h_bytes) (by kernel_rfl) ?_)
    rintro _ w660 ⟨A660_0, c660_0, mk660, rfl, hS660⟩
    replace H := H0_658.callB hS660 ⟨rowI_ind (fun _ _ _ _ h => h), trivial⟩
    refine stD2 (i := 6) (by kernel_rfl) H.has (b2sS (some 89) 30 9 5 A660_0 c660_0 bytes Try.underlying30 Try.underlying5 Try.underlying9 (by kernel_rfl) (H.rowCs 0 rfl) ?_)
    have hl661 : bytes.length ≤ 9223372036854775807 := (Nat.le_trans (H.rowCap 0 rfl).1 (H.rowCap 0 rfl).2)
    refine segD2 hst [9] [0, 1, 2, 3, 4, 7, 8, 5, 6, 9] [(4, .slice A_1_410 l_.length c_2_410), (86, .bool false), (92, .bool (!((ByteArray.toList ⟨bytes.toArray⟩) == (ByteArray.toList ⟨b.toArray⟩))))] (by kernel_rfl) ?_
    rw [sne_raw bytes b]
    refine segD2 hst [10] [0, 1, 2, 3, 4, 7, 8, 5, 6, 9, 10] [(4, .slice A_1_410 l_.length c_2_410), (93, .bool (bytes != b))] (by kernel_rfl) ?_
    refine endD2 (by kernel_rfl) H.has ?_
    rcases condT hf with ⟨hb662, hf⟩ | ⟨hb662, hf⟩
    · rw [hb662]
      refine seg 6 [.co [1, 1, 1, 0, 1, 0, 1], .co [1, 1, 1, 1]] [(2, .slice none 0 0), (3, .int .i64 6)] (by kernel_rfl) ?_
      have H := H.nilR rApiKid 28
      refine retR [2, 3] [.slice none 0 0, .int .i64 6] (by kernel_rfl) (by kernel_rfl) (by kernel_rfl) ?_
      obtain rfl : ([], 6) = r := (Option.some.inj hf)
      exact ⟨_, rfl, none, 0, m, rfl, (St.takeN 1 H)⟩
    · rw [hb662]
      refine seg 8 [.co [1, 1, 1, 1, 1]] [(2, .slice A_1_410 l_.length c_2_410), (3, .int .i64 0)] (by kernel_rfl) ?_
      refine retR [2, 3] [.slice A_1_410 l_.length c_2_410, .int .i64 0] (by kernel_rfl) (by kernel_rfl) (by kernel_rfl) ?_
      obtain rfl : (l_, 0) = r := (Option.some.inj hf)
      exact ⟨_, rfl, A_1_410, c_2_410, m, rfl, (St.takeN 1 (H.pull 1 rfl))⟩
  · have hst : statB (bodyOf Try.f22) [1, 1, 1, 0, 0] = true := by kernel_rfl
    refine drawS (Has m) H (by kernel_rfl) (by kernel_rfl) ?_
    intro w666 H
    refine segD2 hst [0] [0] [(0, .slice A0_0 b.length c0_0), (4, .slice A_1_410 l_.length c_2_410), (83, .slice A_1_410 l_.length c_2_410)] (by kernel_rfl) ?_
    have H0_667 := H
    obtain ⟨mf668, hsub668, hsf668, H⟩ := H.fixR 0 rfl
    refine stD2 (i := 1) (by kernel_rfl) (H.has.sub hsub668) (callR (some 84) 16 #[.slice A_1_410 l_.length c_2_410] Try.call16 (ref16_Right_c H.has l_ A_1_410 c_2_410 hsf668 h_right) (by kernel_rfl) ?_)
    rintro _ w669 ⟨rfl, hx669⟩
    replace H := H0_667.ex hx669
    refine segD2 hst [2] [0, 1, 2] [(0, .slice A0_0 b.length c0_0), (4, .slice A_1_410 l_.length c_2_410), (85, .bool (!right))] (by kernel_rfl) ?_
    rw [show right = false from hb644]
    refine segD2 hst [3, 4, 5, 6, 7, 8, 9, 10] [0, 1, 2, 3, 4, 5, 6, 7, 8, 9, 10] [(4, .slice A_1_410 l_.length c_2_410), (93, .bool true)] (by kernel_rfl) ?_
    refine endD2 (by kernel_rfl) H.has ?_
    refine seg 6 [.co [1, 1, 1, 0, 1, 0, 1], .co [1, 1, 1, 1]] [(2, .slice none 0 0), (3, .int .i64 6)] (by kernel_rfl) ?_
    have H := H.nilR rApiKid 28
    refine retR [2, 3] [.slice none 0 0, .int .i64 6] (by kernel_rfl) (by kernel_rfl) (by kernel_rfl) ?_
    obtain rfl : ([], 6) = r := (Option.some.inj hf)
    exact ⟨_, rfl, none, 0, m, rfl, (St.takeN 1 H)⟩
theorem law16_DirentDecodes_c {m : Mem} {w : World} (hm : Has m w) (b : (List UInt8)) (A0_0 : Option Addr) (c0_0 : Nat) (s0_0 : SlI rU8 m A0_0 c0_0 b) {r : Bool} (hf : law16_DirentDecodes b = some r) :
    Calls Try.prog 5 #[.slice A0_0 b.length c0_0] w fun e w' => ∃ v, e = .returned v ∧ v = .bool r ∧ Ex w w' := by
  unfold law16_DirentDecodes at hf
  have H := St.start0 hm
  refine callsR Try.func5 (by kernel_rfl) (by kernel_rfl) ?_
  refine seg 11 [.co [1, 0, 1], .co [1, 1]] [(0, .slice A0_0 b.length c0_0), (12, .bool (decide ((b.length : Int) > 3000)))] (by kernel_rfl) ?_
  rcases condT hf with ⟨hb3, hf⟩ | ⟨hb3, hf⟩
  · rw [hb3]
    have p3 := of_decide_eq_true hb3
    refine seg 3 [.op [1, 0, 1, 0, 0] 0, .co [1, 0, 1, 0, 1], .co [1, 1]] [] (by kernel_rfl) ?_
    obtain ⟨live, h_live, hf⟩ := bindE hf
    refine st (callR (some 13) 13 #[] Try.call13 (law16_live_c H.has  h_live) (by kernel_rfl) ?_)
    rintro _ w4 ⟨rfl, hx4⟩
    replace H := H.ex hx4
    refine seg 2 [.co [1, 0, 1, 0, 1], .co [1, 1]] [(2, .bool live)] (by kernel_rfl) ?_
    refine retR [2] [.bool live] (by kernel_rfl) (by kernel_rfl) (by kernel_rfl) ?_
    have hret := (Option.some.inj hf)
    subst hret
    exact ⟨_, rfl, rfl, H.scalar⟩
  · rw [hb3]
    have p3 := of_decide_eq_false hb3
    refine seg 4 [.op [1, 1, 0] 0, .co [1, 1, 1]] [(0, .slice A0_0 b.length c0_0)] (by kernel_rfl) ?_
    refine st (newS (some 14) (fun g => .slice (some ⟨g, 0, none⟩) 0 0) [] 5 H (by kernel_rfl) ?_)
    intro g5 w5 H
    refine seg 1 [.op [1, 1, 0] 2, .co [1, 1, 1]] [(0, .slice A0_0 b.length c0_0), (14, .slice (some ⟨g5, 0, none⟩) 0 0), (15, .slice A0_0 b.length c0_0)] (by kernel_rfl) ?_
    have H := H.toRow (r := rU8) (l := ([] : List UInt8)) 0 rfl (Rows.u8.2 rfl) (Nat.le_of_ble_eq_true rfl)
    obtain ⟨xs6, hr6, hx6⟩ := s0_0.cs
    obtain ⟨b1, h_b1, hf⟩ := bindE hf
    refine st (appS (r := rU8) (some 16) 30 5 1 (.int .u8 0) 30 0 (some ⟨g5, 0, none⟩) A0_0 0 b.length c0_0 ([] : List UInt8) b b1 _ H rfl ⟨Try.underlying30, by kernel_rfl⟩ rfl (by decide) (by kernel_rfl) (hx6.cs H.has) hr6 rfl h_b1 (by decide) (by decide) ?_)
    intro A7 c7 w7 H
    refine seg 5 [.op [1, 1, 1, 0] 1, .co [1, 1, 1, 1]] [(0, .slice A0_0 b.length c0_0), (3, .slice A7 b1.length c7), (18, .slice A7 b1.length c7)] (by kernel_rfl) ?_
    replace H : St w noF m m [rowI rU8 5 A7 c7 b1] w7 := H
    have H0_8 := H
    obtain ⟨mf9, hsub9, hsf9, H⟩ := H.fixR 0 rfl
    obtain ⟨decode, h_decode, hf⟩ := bindE hf
    refine st (callR (some 19) 20 #[.slice A7 b1.length c7] Try.call20 (dirent_Decode_c H.has b1 A7 c7 hsf9 h_decode) (by kernel_rfl) ?_)
    rintro _ w10 ⟨A10_0, c10_0, mk10, rfl, hS10⟩
    replace H := H0_8.callB hS10 ⟨rowI_ind (fun _ _ _ _ h => h), trivial⟩
    refine seg 9 [.op [1, 1, 1, 1, 0] 1, .co [1, 1, 1, 1, 1]] [(0, .slice A0_0 b.length c0_0), (3, .slice A7 b1.length c7), (4, .slice A10_0 decode.1.length c10_0), (5, .int .i64 decode.2), (23, .slice A0_0 b.length c0_0)] (by kernel_rfl) ?_
    obtain ⟨decode1, h_decode1, hf⟩ := bindE hf
    refine st (callR (some 24) 22 #[.slice A0_0 b.length c0_0] Try.call22 (ref16_Decode_c H.has b A0_0 c0_0 s0_0 h_decode1) (by kernel_rfl) ?_)
    rintro _ w11 ⟨A11_0, c11_0, mk11, rfl, hS11⟩
    have hsub11 := hS11.sub
    replace H := H.call0 hS11
    refine seg 11 [.op [1, 1, 1, 1, 1, 0, 0] 2, .co [1, 1, 1, 1, 1, 0, 1], .co [1, 1, 1, 1, 1, 1]] [(0, .slice A0_0 b.length c0_0), (3, .slice A7 b1.length c7), (4, .slice A10_0 decode.1.length c10_0), (5, .int .i64 decode.2), (7, .int .i64 decode1.2), (27, .slice A10_0 decode.1.length c10_0), (28, .slice A11_0 decode1.1.length c11_0)] (by kernel_rfl) ?_
    have H0_21 := H
    obtain ⟨mf22, hsub22, hsf22, H⟩ := H.fixR 1 rfl
    obtain ⟨mf23, hsub23, hsf23, H⟩ := H.fixR 0 rfl
    obtain ⟨same, h_same, hf⟩ := bindE hf
    refine st (callR (some 29) 21 #[.slice A10_0 decode.1.length c10_0, .slice A11_0 decode1.1.length c11_0] Try.call21 (ref16_Same_c H.has decode.1 A10_0 c10_0 (hsf22.mono hsub23) decode1.1 A11_0 c11_0 hsf23 h_same) (by kernel_rfl) ?_)
    rintro _ w24 ⟨rfl, hx24⟩
    replace H := H0_21.ex hx24
    refine seg 2 [.op [1, 1, 1, 1, 1, 0, 0] 5, .co [1, 1, 1, 1, 1, 0, 1], .co [1, 1, 1, 1, 1, 1]] [(0, .slice A0_0 b.length c0_0), (3, .slice A7 b1.length c7), (4, .slice A10_0 decode.1.length c10_0), (5, .int .i64 decode.2), (7, .int .i64 decode1.2), (31, .bool (!same))] (by kernel_rfl) ?_
    rcases condT hf with ⟨hb25, hf⟩ | ⟨hb25, hf⟩
    · rw [hb25]
      refine seg 1 [.op [1, 1, 1, 1, 1, 0, 0] 6, .co [1, 1, 1, 1, 1, 0, 1], .co [1, 1, 1, 1, 1, 1]] [(0, .slice A0_0 b.length c0_0), (3, .slice A7 b1.length c7), (4, .slice A10_0 decode.1.length c10_0), (7, .int .i64 decode1.2), (31, .bool false), (32, .int .i64 decode.2)] (by kernel_rfl) ?_
      refine st (callR (some 33) 17 #[.int .i64 decode.2] Try.call17 (law16_num_c H.has decode.2) (by kernel_rfl) ?_)
      rintro _ w26 ⟨rfl, hx26⟩
      replace H := H.ex hx26
      refine seg 4 [.op [1, 1, 1, 1, 1, 0, 0] 11, .co [1, 1, 1, 1, 1, 0, 1], .co [1, 1, 1, 1, 1, 1]] [(0, .slice A0_0 b.length c0_0), (3, .slice A7 b1.length c7), (4, .slice A10_0 decode.1.length c10_0), (7, .int .i64 decode1.2), (37, .bool ((law16_num decode.2) != decode1.2))] (by kernel_rfl) ?_
      rcases condT hf with ⟨hb27, hf⟩ | ⟨hb27, hf⟩
      · rw [hb27]
        refine seg 12 [.co [1, 1, 1, 1, 1, 0, 1, 0, 1], .co [1, 1, 1, 1, 1, 1]] [(2, .bool false)] (by kernel_rfl) ?_
        refine retR [2] [.bool false] (by kernel_rfl) (by kernel_rfl) (by kernel_rfl) ?_
        have hret := (Option.some.inj hf)
        subst hret
        exact ⟨_, rfl, rfl, H.scalar⟩
      · rw [hb27]
        refine seg 1 [.op [1, 1, 1, 1, 1, 0, 0] 12, .co [1, 1, 1, 1, 1, 0, 1], .co [1, 1, 1, 1, 1, 1]] [(0, .slice A0_0 b.length c0_0), (4, .slice A10_0 decode.1.length c10_0), (7, .int .i64 decode1.2), (37, .bool false), (38, .slice A7 b1.length c7)] (by kernel_rfl) ?_
        refine st (b2sS (some 39) 30 9 5 A7 c7 b1 Try.underlying30 Try.underlying5 Try.underlying9 (by kernel_rfl) (H.rowCs 2 rfl) ?_)
        have hl28 : b1.length ≤ 9223372036854775807 := (Nat.le_trans (H.rowCap 2 rfl).1 (H.rowCap 2 rfl).2)
        refine seg 1 [.op [1, 1, 1, 1, 1, 0, 0] 14, .co [1, 1, 1, 1, 1, 0, 1], .co [1, 1, 1, 1, 1, 1]] [(0, .slice A0_0 b.length c0_0), (4, .slice A10_0 decode.1.length c10_0), (7, .int .i64 decode1.2), (37, .bool false), (39, .string ⟨b1.toArray⟩), (40, .slice A0_0 b.length c0_0)] (by kernel_rfl) ?_
        refine st (b2sS (some 41) 30 9 5 A0_0 c0_0 b Try.underlying30 Try.underlying5 Try.underlying9 (by kernel_rfl) ((s0_0.mono hsub11).bytes.cs H.has) ?_)
        have hl29 : b.length ≤ 9223372036854775807 := s0_0.bound
        refine seg 3 [.co [1, 1, 1, 1, 1, 0, 1], .co [1, 1, 1, 1, 1, 1]] [(0, .slice A0_0 b.length c0_0), (4, .slice A10_0 decode.1.length c10_0), (7, .int .i64 decode1.2), (43, .bool (!((ByteArray.toList ⟨b1.toArray⟩) == (ByteArray.toList ⟨b.toArray⟩))))] (by kernel_rfl) ?_
        rw [sne_raw b1 b]
        rcases condT hf with ⟨hb31, hf⟩ | ⟨hb31, hf⟩
        · rw [hb31]
          refine seg 5 [.co [1, 1, 1, 1, 1, 0, 1, 0, 1], .co [1, 1, 1, 1, 1, 1]] [(2, .bool false)] (by kernel_rfl) ?_
          refine retR [2] [.bool false] (by kernel_rfl) (by kernel_rfl) (by kernel_rfl) ?_
          have hret := (Option.some.inj hf)
          subst hret
          exact ⟨_, rfl, rfl, H.scalar⟩
        · rw [hb31]
          refine seg 8 [.co [1, 1, 1, 1, 1, 1, 0, 1], .co [1, 1, 1, 1, 1, 1, 1]] [(0, .slice A0_0 b.length c0_0), (4, .slice A10_0 decode.1.length c10_0), (45, .bool (decode1.2 != 0))] (by kernel_rfl) ?_
          rcases condT hf with ⟨hb34, hf⟩ | ⟨hb34, hf⟩
          · rw [hb34]
            refine seg 3 [.op [1, 1, 1, 1, 1, 1, 0, 1, 0, 0] 0, .co [1, 1, 1, 1, 1, 1, 0, 1, 0, 1], .co [1, 1, 1, 1, 1, 1, 1]] [] (by kernel_rfl) ?_
            obtain ⟨live1, h_live1, hf⟩ := bindE hf
            refine st (callR (some 46) 13 #[] Try.call13 (law16_live_c H.has  h_live1) (by kernel_rfl) ?_)
            rintro _ w35 ⟨rfl, hx35⟩
            replace H := H.ex hx35
            refine seg 2 [.co [1, 1, 1, 1, 1, 1, 0, 1, 0, 1], .co [1, 1, 1, 1, 1, 1, 1]] [(2, .bool live1)] (by kernel_rfl) ?_
            refine retR [2] [.bool live1] (by kernel_rfl) (by kernel_rfl) (by kernel_rfl) ?_
            have hret := (Option.some.inj hf)
            subst hret
            exact ⟨_, rfl, rfl, H.scalar⟩
          · rw [hb34]
            refine seg 5 [.op [1, 1, 1, 1, 1, 1, 1, 0] 1, .co [1, 1, 1, 1, 1, 1, 1, 1]] [(0, .slice A0_0 b.length c0_0), (48, .slice A10_0 decode.1.length c10_0)] (by kernel_rfl) ?_
            replace H : St w noF m mk11 [rowI rApiKid 28 A10_0 c10_0 decode.1] w26 := ((H.drop 2 rfl).drop 0 rfl)
            have H0_36 := H
            obtain ⟨mf37, hsub37, hsf37, H⟩ := H.fixR 0 rfl
            obtain ⟨encode, h_encode, hf⟩ := bindE hf
            refine st (callR (some 49) 15 #[.slice A10_0 decode.1.length c10_0] Try.call15 (dirent_Encode_c H.has decode.1 A10_0 c10_0 hsf37 h_encode) (by kernel_rfl) ?_)
            rintro _ w38 ⟨A38_0, c38_0, mk38, rfl, hS38⟩
            replace H := H0_36.callB hS38 ⟨rowI_ind (fun _ _ _ _ h => h), trivial⟩
            refine seg 9 [.op [1, 1, 1, 1, 1, 1, 1, 1, 0] 1, .co [1, 1, 1, 1, 1, 1, 1, 1, 1]] [(0, .slice A0_0 b.length c0_0), (8, .slice A38_0 encode.1.length c38_0), (52, .int .i64 encode.2)] (by kernel_rfl) ?_
            refine st (callR (some 53) 17 #[.int .i64 encode.2] Try.call17 (law16_num_c H.has encode.2) (by kernel_rfl) ?_)
            rintro _ w44 ⟨rfl, hx44⟩
            replace H := H.ex hx44
            refine seg 2 [.op [1, 1, 1, 1, 1, 1, 1, 1, 0] 4, .co [1, 1, 1, 1, 1, 1, 1, 1, 1]] [(0, .slice A0_0 b.length c0_0), (8, .slice A38_0 encode.1.length c38_0), (55, .bool ((law16_num encode.2) == 0))] (by kernel_rfl) ?_
            rcases condT hf with ⟨hb45, hf⟩ | ⟨hb45, hf⟩
            · rw [hb45]
              refine seg 1 [.op [1, 1, 1, 1, 1, 1, 1, 1, 0] 5, .co [1, 1, 1, 1, 1, 1, 1, 1, 1]] [(0, .slice A0_0 b.length c0_0), (55, .bool true), (56, .slice A38_0 encode.1.length c38_0)] (by kernel_rfl) ?_
              replace H : St w noF m mk11 [rowI rU8 5 A38_0 c38_0 encode.1] w44 := (H.drop 1 rfl)
              refine st (b2sS (some 57) 30 9 5 A38_0 c38_0 encode.1 Try.underlying30 Try.underlying5 Try.underlying9 (by kernel_rfl) (H.rowCs 0 rfl) ?_)
              have hl46 : encode.1.length ≤ 9223372036854775807 := (Nat.le_trans (H.rowCap 0 rfl).1 (H.rowCap 0 rfl).2)
              refine seg 1 [.op [1, 1, 1, 1, 1, 1, 1, 1, 0] 7, .co [1, 1, 1, 1, 1, 1, 1, 1, 1]] [(55, .bool true), (57, .string ⟨encode.1.toArray⟩), (58, .slice A0_0 b.length c0_0)] (by kernel_rfl) ?_
              refine st (b2sS (some 59) 30 9 5 A0_0 c0_0 b Try.underlying30 Try.underlying5 Try.underlying9 (by kernel_rfl) ((s0_0.mono hsub11).bytes.cs H.has) ?_)
              refine seg 3 [.op [1, 1, 1, 1, 1, 1, 1, 1, 0] 11, .co [1, 1, 1, 1, 1, 1, 1, 1, 1]] [(62, .bool ((ByteArray.toList ⟨encode.1.toArray⟩) == (ByteArray.toList ⟨b.toArray⟩)))] (by kernel_rfl) ?_
              rw [seq_raw encode.1 b]
              rcases condT hf with ⟨hb47, hf⟩ | ⟨hb47, hf⟩
              · rw [hb47]
                obtain ⟨live2, h_live2, hf⟩ := bindE hf
                refine st (callR (some 63) 13 #[] Try.call13 (law16_live_c H.has  h_live2) (by kernel_rfl) ?_)
                rintro _ w48 ⟨rfl, hx48⟩
                replace H := H.ex hx48
                refine seg 3 [.co [1, 1, 1, 1, 1, 1, 1, 1, 1]] [(2, .bool live2)] (by kernel_rfl) ?_
                refine retR [2] [.bool live2] (by kernel_rfl) (by kernel_rfl) (by kernel_rfl) ?_
                have hret := (Option.some.inj hf)
                subst hret
                exact ⟨_, rfl, rfl, H.scalar⟩
              · rw [hb47]
                refine seg 4 [.co [1, 1, 1, 1, 1, 1, 1, 1, 1]] [(2, .bool false)] (by kernel_rfl) ?_
                refine retR [2] [.bool false] (by kernel_rfl) (by kernel_rfl) (by kernel_rfl) ?_
                have hret := (Option.some.inj hf)
                subst hret
                exact ⟨_, rfl, rfl, H.scalar⟩
            · rw [hb45]
              refine seg 11 [.co [1, 1, 1, 1, 1, 1, 1, 1, 1]] [(2, .bool false)] (by kernel_rfl) ?_
              refine retR [2] [.bool false] (by kernel_rfl) (by kernel_rfl) (by kernel_rfl) ?_
              have hret := (Option.some.inj hf)
              subst hret
              exact ⟨_, rfl, rfl, H.scalar⟩
    · rw [hb25]
      refine seg 18 [.co [1, 1, 1, 1, 1, 0, 1, 0, 1], .co [1, 1, 1, 1, 1, 1]] [(2, .bool false)] (by kernel_rfl) ?_
      refine retR [2] [.bool false] (by kernel_rfl) (by kernel_rfl) (by kernel_rfl) ?_
      have hret := (Option.some.inj hf)
      subst hret
      exact ⟨_, rfl, rfl, H.scalar⟩
theorem law16_DirentRows_c {m : Mem} {w : World} (hm : Has m w) (n_ : Int) (down : Bool) {r : Bool} (hf : law16_DirentRows n_ down = some r) :
    Calls Try.prog 6 #[.int .i64 n_, .bool down] w fun e w' => ∃ v, e = .returned v ∧ v = .bool r ∧ Ex w w' := by
  unfold law16_DirentRows at hf
  have H := St.start0 hm
  refine callsR Try.func6 (by kernel_rfl) (by kernel_rfl) ?_
  refine seg 10 [.op [1, 0, 0] 3, .co [1, 0, 1], .co [1, 1]] [(0, .int .i64 n_), (1, .bool down), (15, .bool (decide (n_ < 0)))] (by kernel_rfl) ?_
  rcases condT hf with ⟨hb3, hf⟩ | ⟨hb3, hf⟩
  · rw [hb3]
    have p3 := of_decide_eq_true hb3
    refine seg 7 [.op [1, 0, 1, 0, 0] 0, .co [1, 0, 1, 0, 1], .co [1, 1]] [] (by kernel_rfl) ?_
    obtain ⟨live, h_live, hf⟩ := bindE hf
    refine st (callR (some 19) 13 #[] Try.call13 (law16_live_c H.has  h_live) (by kernel_rfl) ?_)
    rintro _ w4 ⟨rfl, hx4⟩
    replace H := H.ex hx4
    refine seg 2 [.co [1, 0, 1, 0, 1], .co [1, 1]] [(4, .bool live)] (by kernel_rfl) ?_
    refine retR [4] [.bool live] (by kernel_rfl) (by kernel_rfl) (by kernel_rfl) ?_
    have hret := (Option.some.inj hf)
    subst hret
    exact ⟨_, rfl, rfl, H.scalar⟩
  · rw [hb3]
    have p3 := of_decide_eq_false hb3
    refine seg 4 [.co [1, 0, 1], .co [1, 1]] [(0, .int .i64 n_), (1, .bool down), (18, .bool (decide (n_ > 600)))] (by kernel_rfl) ?_
    rcases condT hf with ⟨hb7, hf⟩ | ⟨hb7, hf⟩
    · rw [hb7]
      have p7 := of_decide_eq_true hb7
      refine seg 3 [.op [1, 0, 1, 0, 0] 0, .co [1, 0, 1, 0, 1], .co [1, 1]] [] (by kernel_rfl) ?_
      obtain ⟨live1, h_live1, hf⟩ := bindE hf
      refine st (callR (some 19) 13 #[] Try.call13 (law16_live_c H.has  h_live1) (by kernel_rfl) ?_)
      rintro _ w8 ⟨rfl, hx8⟩
      replace H := H.ex hx8
      refine seg 2 [.co [1, 0, 1, 0, 1], .co [1, 1]] [(4, .bool live1)] (by kernel_rfl) ?_
      refine retR [4] [.bool live1] (by kernel_rfl) (by kernel_rfl) (by kernel_rfl) ?_
      have hret := (Option.some.inj hf)
      subst hret
      exact ⟨_, rfl, rfl, H.scalar⟩
    · rw [hb7]
      have p7 := of_decide_eq_false hb7
      refine seg 11 [.co [1, 1, 1, 0, 1], .co [1, 1, 1, 1]] [(0, .int .i64 n_), (1, .bool down), (5, .slice none 0 0), (6, .int .i64 0)] (by kernel_rfl) ?_
      obtain ⟨y120, hp120, hf⟩ := bindE hf
      refine joinR 0 (fun (x : Bool × (List TApiKid) × Option Addr × Nat) => [(0, .int .i64 n_), (1, .bool x.1), (5, .slice (x.2.2.1) x.2.1.length (x.2.2.2))]) (fun (x : Bool × (List TApiKid) × Option Addr × Nat) (wj120 : World) => y120 = (x.1, x.2.1) ∧ St w noF m m [rowI rApiKid 28 (x.2.2.1) (x.2.2.2) x.2.1] wj120) (by kernel_rfl) ?_ ?_
      · refine seg 1 [.co [1, 1, 1, 0, 1, 0], .bl 0, .le 0, .co [1, 1, 1, 1]] [(0, .int .i64 n_), (1, .bool down), (5, .slice none 0 0), (6, .int .i64 0)] (by kernel_rfl) ?_
        have H := H.nilR rApiKid 28
        obtain ⟨nn158, hR158⟩ := loopO_iff.1 hp120
        refine loopR 1 (fun (x : Nat × Bool × (List TApiKid) × Int × Option Addr × Nat) => [(0, .int .i64 n_), (1, .bool x.2.1), (5, .slice (x.2.2.2.2.1) x.2.2.1.length (x.2.2.2.2.2)), (6, .int .i64 x.2.2.2.1)]) (fun (x : Nat × Bool × (List TApiKid) × Int × Option Addr × Nat) (wl158 : World) => iter (fun s => law16_DirentRows_l1 n_ s.1 s.2.1 s.2.2) x.1 (x.2.1, x.2.2.1, x.2.2.2.1) = some y120 ∧ St w noF m m [rowI rApiKid 28 (x.2.2.2.2.1) (x.2.2.2.2.2) x.2.2.1] wl158) (fun (x : Nat × Bool × (List TApiKid) × Int × Option Addr × Nat) => x.1) (nn158, down, [], 0, none, 0) (by kernel_rfl) (by kernel_rfl) (by kernel_rfl) ?_ ?_
        · exact ⟨hR158, H⟩
        rintro ⟨n158, down1, l_, i, A_1_159, c_2_159⟩ wl158 ⟨hR158, H⟩
        try dsimp only at hR158
        try dsimp only at H
        obtain ⟨nk158, q158, rfl, hb_158, hnx158, hfin158⟩ := iterE hR158
        replace hb_158 : law16_DirentRows_l1 n_ down1 l_ i = some q158 := hb_158
        unfold law16_DirentRows_l1 at hb_158
        refine seg 7 [.co [1, 1, 1, 0, 1, 0, 0, 0, 1], .co [1, 1, 1, 0, 1, 0, 0, 1], .le 1, .bl 0, .le 0, .co [1, 1, 1, 1]] [(0, .int .i64 n_), (1, .bool down1), (5, .slice A_1_159 l_.length c_2_159), (6, .int .i64 i), (22, .bool (decide (i < n_)))] (by kernel_rfl) ?_
        rcases condT hb_158 with ⟨hb160, hb_158⟩ | ⟨hb160, hb_158⟩
        · rw [hb160]
          have p160 := of_decide_eq_true hb160
          refine seg 14 [.op [1, 1, 1, 0, 1, 0, 0, 1, 0, 0, 0] 8, .co [1, 1, 1, 0, 1, 0, 0, 1, 0, 0, 1], .bl 1, .co [1, 1, 1, 0, 1, 0, 0, 1, 1], .le 1, .bl 0, .le 0, .co [1, 1, 1, 1]] [(0, .int .i64 n_), (1, .bool down1), (5, .slice A_1_159 l_.length c_2_159), (6, .int .i64 i), (28, .int .u8 (IntKind.u8.wrap (IntKind.i64.wrap (97 + (IntKind.i64.wrap (Int.tdiv i 26)))))), (32, .int .u8 (IntKind.u8.wrap (IntKind.i64.wrap (97 + (Int.tmod i 26)))))] (by kernel_rfl) ?_
          rw [q8_wrap (IntKind.i64.wrap (97 + (IntKind.i64.wrap (Int.tdiv i 26))))]
          rw [q8_wrap (IntKind.i64.wrap (97 + (Int.tmod i 26)))]
          refine st (newS (some 33) (fun g => .slice (some ⟨g, 0, none⟩) 2 2) [.int .u8 ((UInt8.ofInt (IntKind.i64.wrap (97 + (IntKind.i64.wrap (Int.tdiv i 26))))).toNat : Int), .int .u8 ((UInt8.ofInt (IntKind.i64.wrap (97 + (Int.tmod i 26)))).toNat : Int)] 5 H (by kernel_rfl) ?_)
          intro g161 w161 H
          replace H : St w noF m m [blkI g161 [.int .u8 ((UInt8.ofInt (IntKind.i64.wrap (97 + (IntKind.i64.wrap (Int.tdiv i 26))))).toNat : Int), .int .u8 ((UInt8.ofInt (IntKind.i64.wrap (97 + (Int.tmod i 26)))).toNat : Int)] 5, rowI rApiKid 28 A_1_159 c_2_159 l_] w161 := H
          have H := H.toRow (r := rU8) (l := [(UInt8.ofInt (IntKind.i64.wrap (97 + (IntKind.i64.wrap (Int.tdiv i 26))))), (UInt8.ofInt (IntKind.i64.wrap (97 + (Int.tmod i 26))))]) 0 rfl (Rows.u8.2 rfl) (Nat.le_of_ble_eq_true rfl)
          refine st (b2sS (some 34) 30 9 5 (some ⟨g161, 0, none⟩) 2 [(UInt8.ofInt (IntKind.i64.wrap (97 + (IntKind.i64.wrap (Int.tdiv i 26))))), (UInt8.ofInt (IntKind.i64.wrap (97 + (Int.tmod i 26))))] Try.underlying30 Try.underlying5 Try.underlying9 (by kernel_rfl) (H.rowCs 0 rfl) ?_)
          have hl162 : [(UInt8.ofInt (IntKind.i64.wrap (97 + (IntKind.i64.wrap (Int.tdiv i 26))))), (UInt8.ofInt (IntKind.i64.wrap (97 + (Int.tmod i 26))))].length ≤ 9223372036854775807 := (Nat.le_trans (H.rowCap 0 rfl).1 (H.rowCap 0 rfl).2)
          refine seg 2 [.op [1, 1, 1, 0, 1, 0, 0, 1, 0, 0, 0] 12, .co [1, 1, 1, 0, 1, 0, 0, 1, 0, 0, 1], .bl 1, .co [1, 1, 1, 0, 1, 0, 0, 1, 1], .le 1, .bl 0, .le 0, .co [1, 1, 1, 1]] [(0, .int .i64 n_), (1, .bool down1), (5, .slice A_1_159 l_.length c_2_159), (6, .int .i64 i), (36, .agg #[.string ⟨([(UInt8.ofInt (IntKind.i64.wrap (97 + (IntKind.i64.wrap (Int.tdiv i 26))))), (UInt8.ofInt (IntKind.i64.wrap (97 + (Int.tmod i 26))))]).toArray⟩, .int .i64 i])] (by kernel_rfl) ?_
          refine st (newS (some 7) (fun g => .pointer (some ⟨g, 0, none⟩)) [.string ⟨([] : List UInt8).toArray⟩, .int .i64 0] 28 H (by kernel_rfl) ?_)
          intro g163 w163 H
          refine st (stAggS none 28 0 g163 0 [.string ⟨([(UInt8.ofInt (IntKind.i64.wrap (97 + (IntKind.i64.wrap (Int.tdiv i 26))))), (UInt8.ofInt (IntKind.i64.wrap (97 + (Int.tmod i 26))))]).toArray⟩, .int .i64 i] [.string ⟨([] : List UInt8).toArray⟩, .int .i64 0] [.string ⟨([(UInt8.ofInt (IntKind.i64.wrap (97 + (IntKind.i64.wrap (Int.tdiv i 26))))), (UInt8.ofInt (IntKind.i64.wrap (97 + (Int.tmod i 26))))]).toArray⟩, .int .i64 i] 28 H rfl (by kernel_rfl) (by kernel_rfl) (by rfl) (of_decide_eq_true rfl) rfl ?_)
          intro w164 H
          refine seg 6 [.co [1, 1, 1, 0, 1, 0, 0, 1, 0, 0, 1, 0, 1], .co [1, 1, 1, 0, 1, 0, 0, 1, 0, 0, 1, 1], .bl 1, .co [1, 1, 1, 0, 1, 0, 0, 1, 1], .le 1, .bl 0, .le 0, .co [1, 1, 1, 1]] [(0, .int .i64 n_), (1, .bool down1), (5, .slice A_1_159 l_.length c_2_159), (6, .int .i64 i), (7, .pointer (some (⟨g163, 0, none⟩))), (37, .bool down1)] (by kernel_rfl) ?_
          rcases condT hb_158 with ⟨hb165, hb_158⟩ | ⟨hb165, hb_158⟩
          · rw [hb165]
            refine seg 6 [.op [1, 1, 1, 0, 1, 0, 0, 1, 0, 0, 1, 0, 1, 0] 4, .co [1, 1, 1, 0, 1, 0, 0, 1, 0, 0, 1, 1], .bl 1, .co [1, 1, 1, 0, 1, 0, 0, 1, 1], .le 1, .bl 0, .le 0, .co [1, 1, 1, 1]] [(0, .int .i64 n_), (1, .bool true), (5, .slice A_1_159 l_.length c_2_159), (6, .int .i64 i), (7, .pointer (some (⟨g163, 0, none⟩))), (40, .int .i64 (IntKind.i64.wrap (n_ - i))), (41, .pointer (some (⟨g163, 1, none⟩)))] (by kernel_rfl) ?_
            refine st (stS none 3 0 g163 1 (.int .i64 (IntKind.i64.wrap (n_ - i))) [.string ⟨([(UInt8.ofInt (IntKind.i64.wrap (97 + (IntKind.i64.wrap (Int.tdiv i 26))))), (UInt8.ofInt (IntKind.i64.wrap (97 + (Int.tmod i 26))))]).toArray⟩, .int .i64 i] 28 H rfl (by kernel_rfl) (by kernel_rfl) rfl (of_decide_eq_true rfl) ?_)
            intro w166 H
            refine seg 3 [.op [1, 1, 1, 0, 1, 0, 0, 1, 0, 0, 1, 1] 1, .bl 1, .co [1, 1, 1, 0, 1, 0, 0, 1, 1], .le 1, .bl 0, .le 0, .co [1, 1, 1, 1]] [(0, .int .i64 n_), (1, .bool true), (6, .int .i64 i), (7, .pointer (some (⟨g163, 0, none⟩))), (42, .slice A_1_159 l_.length c_2_159)] (by kernel_rfl) ?_
            refine st (ldAggR (some 43) 28 (⟨g163, 0, none⟩) [.string ⟨([(UInt8.ofInt (IntKind.i64.wrap (97 + (IntKind.i64.wrap (Int.tdiv i 26))))), (UInt8.ofInt (IntKind.i64.wrap (97 + (Int.tmod i 26))))]).toArray⟩, .int .i64 (IntKind.i64.wrap (n_ - i))] (by kernel_rfl) (by kernel_rfl) (H.cellsB 0 rfl (by rfl)) ?_)
            refine st (newS (some 44) (fun g => .slice (some ⟨g, 0, none⟩) 1 1) [.string ⟨([(UInt8.ofInt (IntKind.i64.wrap (97 + (IntKind.i64.wrap (Int.tdiv i 26))))), (UInt8.ofInt (IntKind.i64.wrap (97 + (Int.tmod i 26))))]).toArray⟩, .int .i64 (IntKind.i64.wrap (n_ - i))] 28 H (by kernel_rfl) ?_)
            intro g167 w167 H
            replace H : St w noF m m [blkI g167 [.string ⟨([(UInt8.ofInt (IntKind.i64.wrap (97 + (IntKind.i64.wrap (Int.tdiv i 26))))), (UInt8.ofInt (IntKind.i64.wrap (97 + (Int.tmod i 26))))]).toArray⟩, .int .i64 (IntKind.i64.wrap (n_ - i))] 28, rowI rApiKid 28 A_1_159 c_2_159 l_] w167 := ((H.drop 2 rfl).drop 1 rfl)
            obtain ⟨b, h_b, hb_158⟩ := bindE hb_158
            refine st (appS (r := rApiKid) (some 45) 22 28 24 (.agg #[.string ⟨([] : List UInt8).toArray⟩, .int .i64 0]) 22 1 A_1_159 (some ⟨g167, 0, none⟩) c_2_159 1 1 l_ [({ Name := [(UInt8.ofInt (IntKind.i64.wrap (97 + (IntKind.i64.wrap (Int.tdiv i 26))))), (UInt8.ofInt (IntKind.i64.wrap (97 + (Int.tmod i 26))))], Ino := (IntKind.i64.wrap (n_ - i)) } : TApiKid)] b _ H rfl ⟨Try.underlying22, by kernel_rfl⟩ rfl (by decide) (by kernel_rfl) (Cs.of_blk (H.blk 0 rfl)) (Rows.cons (cs := [.string ⟨([(UInt8.ofInt (IntKind.i64.wrap (97 + (IntKind.i64.wrap (Int.tdiv i 26))))), (UInt8.ofInt (IntKind.i64.wrap (97 + (Int.tmod i 26))))]).toArray⟩, .int .i64 (IntKind.i64.wrap (n_ - i))]) ⟨rfl, hl162⟩ Rows.nil) rfl h_b (by decide) (by decide) ?_)
            intro A168 c168 w168 H
            replace H := H.drop 0 rfl
            refine seg 8 [.le 1, .bl 0, .le 0, .co [1, 1, 1, 1]] [(0, .int .i64 n_), (1, .bool true), (5, .slice A168 b.length c168), (6, .int .i64 (IntKind.i64.wrap (i + 1)))] (by kernel_rfl) ?_
            refine leR (nk158, true, b, (IntKind.i64.wrap (i + 1)), A168, c168) (Nat.lt_succ_self _) ⟨hnx158 _ (Option.some.inj hb_158).symm, H⟩ (by kernel_rfl)
          · rw [hb165]
            refine seg 4 [.op [1, 1, 1, 0, 1, 0, 0, 1, 0, 0, 1, 1] 1, .bl 1, .co [1, 1, 1, 0, 1, 0, 0, 1, 1], .le 1, .bl 0, .le 0, .co [1, 1, 1, 1]] [(0, .int .i64 n_), (1, .bool false), (6, .int .i64 i), (7, .pointer (some (⟨g163, 0, none⟩))), (42, .slice A_1_159 l_.length c_2_159)] (by kernel_rfl) ?_
            refine st (ldAggR (some 43) 28 (⟨g163, 0, none⟩) [.string ⟨([(UInt8.ofInt (IntKind.i64.wrap (97 + (IntKind.i64.wrap (Int.tdiv i 26))))), (UInt8.ofInt (IntKind.i64.wrap (97 + (Int.tmod i 26))))]).toArray⟩, .int .i64 i] (by kernel_rfl) (by kernel_rfl) (H.cellsB 0 rfl (by rfl)) ?_)
            refine st (newS (some 44) (fun g => .slice (some ⟨g, 0, none⟩) 1 1) [.string ⟨([(UInt8.ofInt (IntKind.i64.wrap (97 + (IntKind.i64.wrap (Int.tdiv i 26))))), (UInt8.ofInt (IntKind.i64.wrap (97 + (Int.tmod i 26))))]).toArray⟩, .int .i64 i] 28 H (by kernel_rfl) ?_)
            intro g169 w169 H
            obtain ⟨b1, h_b1, hb_158⟩ := bindE hb_158
            refine st (appS (r := rApiKid) (some 45) 22 28 24 (.agg #[.string ⟨([] : List UInt8).toArray⟩, .int .i64 0]) 22 3 A_1_159 (some ⟨g169, 0, none⟩) c_2_159 1 1 l_ [({ Name := [(UInt8.ofInt (IntKind.i64.wrap (97 + (IntKind.i64.wrap (Int.tdiv i 26))))), (UInt8.ofInt (IntKind.i64.wrap (97 + (Int.tmod i 26))))], Ino := i } : TApiKid)] b1 _ H rfl ⟨Try.underlying22, by kernel_rfl⟩ rfl (by decide) (by kernel_rfl) (Cs.of_blk (H.blk 0 rfl)) (Rows.cons (cs := [.string ⟨([(UInt8.ofInt (IntKind.i64.wrap (97 + (IntKind.i64.wrap (Int.tdiv i 26))))), (UInt8.ofInt (IntKind.i64.wrap (97 + (Int.tmod i 26))))]).toArray⟩, .int .i64 i]) ⟨rfl, hl162⟩ Rows.nil) rfl h_b1 (by decide) (by decide) ?_)
            intro A170 c170 w170 H
            replace H := H.drop 0 rfl
            refine seg 8 [.le 1, .bl 0, .le 0, .co [1, 1, 1, 1]] [(0, .int .i64 n_), (1, .bool false), (5, .slice A170 b1.length c170), (6, .int .i64 (IntKind.i64.wrap (i + 1)))] (by kernel_rfl) ?_
            refine leR (nk158, false, b1, (IntKind.i64.wrap (i + 1)), A170, c170) (Nat.lt_succ_self _) ⟨hnx158 _ (Option.some.inj hb_158).symm, (St.takeN 1 (H.pull 2 rfl))⟩ (by kernel_rfl)
        · rw [hb160]
          have p160 := of_decide_eq_false hb160
          refine seg 2 [.le 0, .co [1, 1, 1, 1]] [(0, .int .i64 n_), (1, .bool down1), (5, .slice A_1_159 l_.length c_2_159)] (by kernel_rfl) ?_
          refine leR_up (k' := []) (by rfl) ?_
          refine leJ (down1, l_, A_1_159, c_2_159) ⟨(hfin158 _ (Option.some.inj hb_158).symm).symm, H⟩ (by kernel_rfl)
      rintro ⟨down1, l_, A_1_121, c_2_121⟩ wj120 ⟨hy120, H⟩
      try dsimp only at hy120
      try dsimp only at H
      rw [hy120] at hf
      try dsimp only at hf
      refine seg 3 [.op [1, 1, 1, 1, 0] 1, .co [1, 1, 1, 1, 1]] [(0, .int .i64 n_), (1, .bool down1), (5, .slice A_1_121 l_.length c_2_121), (47, .slice A_1_121 l_.length c_2_121)] (by kernel_rfl) ?_
      have H0_171 := H
      obtain ⟨mf172, hsub172, hsf172, H⟩ := H.fixR 0 rfl
      obtain ⟨encode, h_encode, hf⟩ := bindE hf
      refine st (callR (some 48) 15 #[.slice A_1_121 l_.length c_2_121] Try.call15 (dirent_Encode_c H.has l_ A_1_121 c_2_121 hsf172 h_encode) (by kernel_rfl) ?_)
      rintro _ w173 ⟨A173_0, c173_0, mk173, rfl, hS173⟩
      replace H := H0_171.callB hS173 ⟨rowI_ind (fun _ _ _ _ h => h), trivial⟩
      refine seg 18 [.co [1, 1, 1, 1, 1, 1, 0, 1], .co [1, 1, 1, 1, 1, 1, 1]] [(0, .int .i64 n_), (5, .slice A_1_121 l_.length c_2_121), (8, .slice A173_0 encode.1.length c173_0), (9, .int .i64 encode.2), (10, .int .i64 (IntKind.i64.wrap (Int.tdiv (IntKind.i64.wrap (n_ + 255)) 256))), (54, .bool down1)] (by kernel_rfl) ?_
      rw [show IntKind.i64.wrap (n_ + 255) = (n_ + 255) from w64 (by omega)]
      obtain ⟨y199, hp199, hf⟩ := ltE hf
      refine joinR 0 (fun (x : Int) => [(0, .int .i64 n_), (5, .slice A_1_121 l_.length c_2_121), (8, .slice A173_0 encode.1.length c173_0), (9, .int .i64 encode.2), (10, .int .i64 x)]) (fun (x : Int) (wj199 : World) => y199 = x ∧ St w noF m m [rowI rApiKid 28 A_1_121 c_2_121 l_, rowI rU8 5 A173_0 c173_0 encode.1] wj199) (by kernel_rfl) ?_ ?_
      · rcases condT hp199 with ⟨hb201, hp199⟩ | ⟨hb201, hp199⟩
        · rw [hb201]
          refine seg 5 [.le 0, .co [1, 1, 1, 1, 1, 1, 1]] [(0, .int .i64 n_), (5, .slice A_1_121 l_.length c_2_121), (8, .slice A173_0 encode.1.length c173_0), (9, .int .i64 encode.2), (10, .int .i64 n_)] (by kernel_rfl) ?_
          refine leJ (n_) ⟨hp199.symm, (H.pull 1 rfl)⟩ (by kernel_rfl)
        · rw [hb201]
          refine seg 2 [.le 0, .co [1, 1, 1, 1, 1, 1, 1]] [(0, .int .i64 n_), (5, .slice A_1_121 l_.length c_2_121), (8, .slice A173_0 encode.1.length c173_0), (9, .int .i64 encode.2), (10, .int .i64 (IntKind.i64.wrap (Int.tdiv (n_ + 255) 256)))] (by kernel_rfl) ?_
          refine leJ ((IntKind.i64.wrap (Int.tdiv (n_ + 255) 256))) ⟨hp199.symm, (H.pull 1 rfl)⟩ (by kernel_rfl)
      rintro rows wj199 ⟨hy199, H⟩
      rw [hy199] at hf
      refine seg 3 [.op [1, 1, 1, 1, 1, 1, 1, 0] 1, .co [1, 1, 1, 1, 1, 1, 1, 1]] [(0, .int .i64 n_), (5, .slice A_1_121 l_.length c_2_121), (8, .slice A173_0 encode.1.length c173_0), (9, .int .i64 encode.2), (10, .int .i64 rows), (57, .slice A173_0 encode.1.length c173_0)] (by kernel_rfl) ?_
      have H0_202 := H
      obtain ⟨mf203, hsub203, hsf203, H⟩ := H.fixR 1 rfl
      obtain ⟨decode, h_decode, hf⟩ := bindE hf
      refine st (callR (some 58) 20 #[.slice A173_0 encode.1.length c173_0] Try.call20 (dirent_Decode_c H.has encode.1 A173_0 c173_0 hsf203 h_decode) (by kernel_rfl) ?_)
      rintro _ w204 ⟨A204_0, c204_0, mk204, rfl, hS204⟩
      replace H := H0_202.callB hS204 ⟨rowI_ind (fun _ _ _ _ h => h), trivial⟩
      refine seg 9 [.op [1, 1, 1, 1, 1, 1, 1, 1, 0] 1, .co [1, 1, 1, 1, 1, 1, 1, 1, 1]] [(0, .int .i64 n_), (5, .slice A_1_121 l_.length c_2_121), (8, .slice A173_0 encode.1.length c173_0), (10, .int .i64 rows), (11, .slice A204_0 decode.1.length c204_0), (12, .int .i64 decode.2), (61, .int .i64 encode.2)] (by kernel_rfl) ?_
      refine st (callR (some 62) 17 #[.int .i64 encode.2] Try.call17 (law16_num_c H.has encode.2) (by kernel_rfl) ?_)
      rintro _ w205 ⟨rfl, hx205⟩
      replace H := H.ex hx205
      refine seg 1 [.op [1, 1, 1, 1, 1, 1, 1, 1, 0] 3, .co [1, 1, 1, 1, 1, 1, 1, 1, 1]] [(0, .int .i64 n_), (5, .slice A_1_121 l_.length c_2_121), (8, .slice A173_0 encode.1.length c173_0), (10, .int .i64 rows), (11, .slice A204_0 decode.1.length c204_0), (62, .int .i64 (law16_num encode.2)), (63, .int .i64 decode.2)] (by kernel_rfl) ?_
      refine st (callR (some 64) 17 #[.int .i64 decode.2] Try.call17 (law16_num_c H.has decode.2) (by kernel_rfl) ?_)
      rintro _ w206 ⟨rfl, hx206⟩
      replace H := H.ex hx206
      refine seg 3 [.op [1, 1, 1, 1, 1, 1, 1, 1, 0] 7, .co [1, 1, 1, 1, 1, 1, 1, 1, 1]] [(0, .int .i64 n_), (5, .slice A_1_121 l_.length c_2_121), (8, .slice A173_0 encode.1.length c173_0), (10, .int .i64 rows), (11, .slice A204_0 decode.1.length c204_0), (67, .bool ((IntKind.i64.wrap ((law16_num encode.2) + (law16_num decode.2))) == 0))] (by kernel_rfl) ?_
      rcases condT hf with ⟨hb207, hf⟩ | ⟨hb207, hf⟩
      · rw [hb207]
        refine seg 10 [.op [1, 1, 1, 1, 1, 1, 1, 1, 0] 17, .co [1, 1, 1, 1, 1, 1, 1, 1, 1]] [(5, .slice A_1_121 l_.length c_2_121), (11, .slice A204_0 decode.1.length c204_0), (77, .bool ((encode.1.length : Int) == (IntKind.i64.wrap ((IntKind.i64.wrap (6 * rows)) + (IntKind.i64.wrap (5 * n_))))))] (by kernel_rfl) ?_
        rw [show IntKind.i64.wrap (5 * n_) = (5 * n_) from w64 (by omega)]
        rcases condT hf with ⟨hb208, hf⟩ | ⟨hb208, hf⟩
        · rw [hb208]
          refine seg 2 [.op [1, 1, 1, 1, 1, 1, 1, 1, 0] 19, .co [1, 1, 1, 1, 1, 1, 1, 1, 1]] [(77, .bool true), (78, .slice A_1_121 l_.length c_2_121), (79, .slice A204_0 decode.1.length c204_0)] (by kernel_rfl) ?_
          replace H : St w noF m m [rowI rApiKid 28 A204_0 c204_0 decode.1, rowI rApiKid 28 A_1_121 c_2_121 l_] w206 := (H.drop 2 rfl)
          have H0_209 := H
          obtain ⟨mf210, hsub210, hsf210, H⟩ := H.fixR 1 rfl
          obtain ⟨mf211, hsub211, hsf211, H⟩ := H.fixR 0 rfl
          obtain ⟨same, h_same, hf⟩ := bindE hf
          refine st (callR (some 80) 21 #[.slice A_1_121 l_.length c_2_121, .slice A204_0 decode.1.length c204_0] Try.call21 (ref16_Same_c H.has l_ A_1_121 c_2_121 (hsf210.mono hsub211) decode.1 A204_0 c204_0 hsf211 h_same) (by kernel_rfl) ?_)
          rintro _ w212 ⟨rfl, hx212⟩
          replace H := H0_209.ex hx212
          refine seg 2 [.op [1, 1, 1, 1, 1, 1, 1, 1, 0] 22, .co [1, 1, 1, 1, 1, 1, 1, 1, 1]] [(82, .bool same)] (by kernel_rfl) ?_
          rcases condT hf with ⟨hb213, hf⟩ | ⟨hb213, hf⟩
          · rw [hb213]
            obtain ⟨live2, h_live2, hf⟩ := bindE hf
            refine st (callR (some 83) 13 #[] Try.call13 (law16_live_c H.has  h_live2) (by kernel_rfl) ?_)
            rintro _ w214 ⟨rfl, hx214⟩
            replace H := H.ex hx214
            refine seg 3 [.co [1, 1, 1, 1, 1, 1, 1, 1, 1]] [(4, .bool live2)] (by kernel_rfl) ?_
            refine retR [4] [.bool live2] (by kernel_rfl) (by kernel_rfl) (by kernel_rfl) ?_
            have hret := (Option.some.inj hf)
            subst hret
            exact ⟨_, rfl, rfl, H.scalar⟩
          · rw [hb213]
            refine seg 4 [.co [1, 1, 1, 1, 1, 1, 1, 1, 1]] [(4, .bool false)] (by kernel_rfl) ?_
            refine retR [4] [.bool false] (by kernel_rfl) (by kernel_rfl) (by kernel_rfl) ?_
            have hret := (Option.some.inj hf)
            subst hret
            exact ⟨_, rfl, rfl, H.scalar⟩
        · rw [hb208]
          refine seg 9 [.co [1, 1, 1, 1, 1, 1, 1, 1, 1]] [(4, .bool false)] (by kernel_rfl) ?_
          refine retR [4] [.bool false] (by kernel_rfl) (by kernel_rfl) (by kernel_rfl) ?_
          have hret := (Option.some.inj hf)
          subst hret
          exact ⟨_, rfl, rfl, H.scalar⟩
      · rw [hb207]
        refine seg 19 [.co [1, 1, 1, 1, 1, 1, 1, 1, 1]] [(4, .bool false)] (by kernel_rfl) ?_
        refine retR [4] [.bool false] (by kernel_rfl) (by kernel_rfl) (by kernel_rfl) ?_
        have hret := (Option.some.inj hf)
        subst hret
        exact ⟨_, rfl, rfl, H.scalar⟩
end Go.Proofs.Ytebbaokcgnjfiaa.F
