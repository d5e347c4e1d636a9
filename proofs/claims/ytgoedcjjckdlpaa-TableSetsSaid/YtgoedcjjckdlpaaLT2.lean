/- The code computes them: printed by lift.py, part 2. -/
import Derived.Test.YtgoedcjjckdlpaaProg
import Derived.Test.YtgoedcjjckdlpaaLTP
import Derived.Test.YtgoedcjjckdlpaaLT1
set_option linter.unusedVariables false
set_option linter.unusedSimpArgs false
namespace Go.Proofs.Ytgoedcjjckdlpaa.F
open Go Go.RowKit Go.Proofs.Ytgoedcjjckdlpaa Go.Proofs.Ytgoedcjjckdlpaa.K
set_option maxRecDepth 100000
theorem field_within_c {m : Mem} {w : World} (hm : Has m w) (b : (List UInt8)) (A0_0 : Option Addr) (c0_0 : Nat) (s0_0 : SlI rU8 m A0_0 c0_0 b) (at_ : Int) (n_ : Int) :
    Calls Try.prog 84 #[.slice A0_0 b.length c0_0, .int .i64 at_, .int .i64 n_] w fun e w' => ∃ v, e = .returned v ∧ v = .bool (field_within b at_ n_) ∧ Ex w w' := by
  generalize hf : field_within b at_ n_ = r
  unfold field_within at hf
  have H := St.start0 hm
  refine callsR Try.func84 (by kernel_rfl) (by kernel_rfl) ?_
  refine seg 9 [.op [1, 0] 3, .co [1, 1]] [(0, .slice A0_0 b.length c0_0), (1, .int .i64 at_), (2, .int .i64 n_), (9, .bool (decide (at_ ≥ 0)))] (by kernel_rfl) ?_
  rcases condT hf with ⟨hb4, hf⟩ | ⟨hb4, hf⟩
  · rw [hb4]
    have p4 := of_decide_eq_true hb4
    refine seg 4 [.op [1, 0] 7, .co [1, 1]] [(0, .slice A0_0 b.length c0_0), (1, .int .i64 at_), (2, .int .i64 n_), (13, .bool (decide (n_ ≥ 0)))] (by kernel_rfl) ?_
    rcases condT hf with ⟨hb5, hf⟩ | ⟨hb5, hf⟩
    · rw [hb5]
      have p5 := of_decide_eq_true hb5
      refine seg 6 [.op [1, 0] 13, .co [1, 1]] [(0, .slice A0_0 b.length c0_0), (1, .int .i64 at_), (2, .int .i64 n_), (19, .bool (decide (n_ ≤ (b.length : Int))))] (by kernel_rfl) ?_
      rcases condT hf with ⟨hb6, hf⟩ | ⟨hb6, hf⟩
      · rw [hb6]
        have p6 := of_decide_eq_true hb6
        refine seg 9 [.co [1, 1]] [(6, .bool (decide (at_ ≤ (IntKind.i64.wrap ((b.length : Int) - n_)))))] (by kernel_rfl) ?_
        have := s0_0.bound
        rw [show IntKind.i64.wrap ((b.length : Int) - n_) = ((b.length : Int) - n_) from w64 (by omega)]
        refine retR [6] [.bool (decide (at_ ≤ ((b.length : Int) - n_)))] (by kernel_rfl) (by kernel_rfl) (by kernel_rfl) ?_
        obtain rfl : (decide (at_ ≤ ((b.length : Int) - n_))) = r := hf
        exact ⟨_, rfl, rfl, H.scalar⟩
      · rw [hb6]
        have p6 := of_decide_eq_false hb6
        refine seg 9 [.co [1, 1]] [(6, .bool false)] (by kernel_rfl) ?_
        refine retR [6] [.bool false] (by kernel_rfl) (by kernel_rfl) (by kernel_rfl) ?_
        have hret := hf
        subst hret
        exact ⟨_, rfl, rfl, H.scalar⟩
    · rw [hb5]
      have p5 := of_decide_eq_false hb5
      refine seg 15 [.co [1, 1]] [(6, .bool false)] (by kernel_rfl) ?_
      refine retR [6] [.bool false] (by kernel_rfl) (by kernel_rfl) (by kernel_rfl) ?_
      have hret := hf
      subst hret
      exact ⟨_, rfl, rfl, H.scalar⟩
  · rw [hb4]
    have p4 := of_decide_eq_false hb4
    refine seg 19 [.co [1, 1]] [(6, .bool false)] (by kernel_rfl) ?_
    refine retR [6] [.bool false] (by kernel_rfl) (by kernel_rfl) (by kernel_rfl) ?_
    have hret := hf
    subst hret
    exact ⟨_, rfl, rfl, H.scalar⟩
theorem field_Reader_take_c {m : Mem} {w : World} (hm : Has m w) (g0 : Nat) (r_ : TFieldReader) (A0_0 : Option Addr) (c0_0 : Nat) (s0_0 : SlI rU8 m A0_0 c0_0 r_.f_b) (n_ : Int) {F : Nat → Prop} (hsep : Sep m w [blkI g0 [.slice A0_0 r_.f_b.length c0_0, .int .i64 r_.f_at, .int .i64 r_.f_e] 114] F) (hF : ∀ k, F k → m k = none) {r : ((List UInt8) × TFieldReader)} (hf : field_Reader_take r_ n_ = some r) :
    Calls Try.prog 69 #[.pointer (some (⟨g0, 0, none⟩)), .int .i64 n_] w fun e w' => ∃ v, e = .returned v ∧ ∃ Az_0 : Option Addr, ∃ cz_0 : Nat, ∃ Az_o0_0 : Option Addr, ∃ cz_o0_0 : Nat, ∃ m' : Mem, v = .slice Az_0 r.1.length cz_0 ∧ St w F m m' [blkI g0 [.slice Az_o0_0 r.2.f_b.length cz_o0_0, .int .i64 r.2.f_at, .int .i64 r.2.f_e] 114] w' ∧ SlI rU8 m' Az_0 cz_0 r.1 ∧ SlI rU8 m' Az_o0_0 cz_o0_0 r.2.f_b := by
  unfold field_Reader_take at hf
  have H := St.start hm hsep hF
  refine callsR Try.func69 (by kernel_rfl) (by kernel_rfl) ?_
  refine seg 13 [.op [1, 0, 0] 6, .co [1, 0, 1], .co [1, 1]] [(0, .pointer (some (⟨g0, 0, none⟩))), (1, .int .i64 n_), (7, .bool false), (10, .pointer (some (⟨g0, 2, none⟩)))] (by kernel_rfl) ?_
  refine st (ldR (some 11) 30 (⟨g0, 2, none⟩) (.int .i64 r_.f_e) (by kernel_rfl) (by kernel_rfl) (H.cellB 0 rfl rfl) ?_)
  refine seg 3 [.co [1, 0, 1], .co [1, 1]] [(0, .pointer (some (⟨g0, 0, none⟩))), (1, .int .i64 n_), (13, .bool (r_.f_e != 0))] (by kernel_rfl) ?_
  rcases condT hf with ⟨hb2, hf⟩ | ⟨hb2, hf⟩
  · rw [hb2]
    refine seg 5 [.co [1, 0, 1, 0, 1], .co [1, 1]] [(4, .slice none 0 0)] (by kernel_rfl) ?_
    refine retR [4] [.slice none 0 0] (by kernel_rfl) (by kernel_rfl) (by kernel_rfl) ?_
    obtain rfl : ([], r_) = r := (Option.some.inj hf)
    exact ⟨_, rfl, none, 0, A0_0, c0_0, m, rfl, H, (SlI.nil _ _), s0_0⟩
  · rw [hb2]
    refine seg 10 [.co [1, 1, 0, 0, 1], .bl 0, .co [1, 1, 1]] [(0, .pointer (some (⟨g0, 0, none⟩))), (1, .int .i64 n_), (14, .bool (decide (n_ < 0)))] (by kernel_rfl) ?_
    rcases condT hf with ⟨hb17, hf⟩ | ⟨hb17, hf⟩
    · rw [hb17]
      have p17 := of_decide_eq_true hb17
      refine seg 6 [.op [1, 1, 0, 0, 1, 0, 0] 3, .co [1, 1, 0, 0, 1, 0, 1], .bl 0, .co [1, 1, 1]] [(19, .pointer (some (⟨g0, 2, none⟩)))] (by kernel_rfl) ?_
      refine st (stS none 30 0 g0 2 (.int .i64 1) [.slice A0_0 r_.f_b.length c0_0, .int .i64 r_.f_at, .int .i64 r_.f_e] 114 H rfl (by kernel_rfl) (by kernel_rfl) rfl (of_decide_eq_true rfl) ?_)
      intro w18 H
      refine seg 5 [.co [1, 1, 0, 0, 1, 0, 1, 1], .bl 0, .co [1, 1, 1]] [(4, .slice none 0 0)] (by kernel_rfl) ?_
      refine retR [4] [.slice none 0 0] (by kernel_rfl) (by kernel_rfl) (by kernel_rfl) ?_
      obtain rfl : ([], ({ f_b := r_.f_b, f_at := r_.f_at, f_e := 1 } : TFieldReader)) = r := (Option.some.inj hf)
      exact ⟨_, rfl, none, 0, A0_0, c0_0, m, rfl, H, (SlI.nil _ _), s0_0⟩
    · rw [hb17]
      have p17 := of_decide_eq_false hb17
      refine seg 2 [.co [1, 1, 0, 0, 1, 1, 0], .co [1, 1, 0, 0, 1, 1, 1], .bl 0, .co [1, 1, 1]] [(0, .pointer (some (⟨g0, 0, none⟩))), (1, .int .i64 n_)] (by kernel_rfl) ?_
      have hst : statB (bodyOf Try.f69) [1, 1, 0, 0, 1, 1, 0] = true := by kernel_rfl
      refine drawS (fun w' => Has m w' ∧ w'.heap[g0]? = some (.cells [.slice A0_0 r_.f_b.length c0_0, .int .i64 r_.f_at, .int .i64 r_.f_e].toArray 114 (0, 0))) H (by kernel_rfl) (by kernel_rfl) ?_
      intro w20 H
      refine segD2 hst [0, 1, 2, 4, 5, 6, 8] [0, 1, 2, 4, 5, 6, 8] [(0, .pointer (some (⟨g0, 0, none⟩))), (1, .int .i64 n_), (23, .pointer (some (⟨g0, 0, none⟩))), (27, .pointer (some (⟨g0, 1, none⟩))), (29, .int .i64 n_)] (by kernel_rfl) ?_
      refine takeD2 (i := 3) (d := (some 24)) (s := vS (Instr.loadAt 29 (.pointer (some (⟨g0, 0, none⟩))))) (v := (.slice A0_0 r_.f_b.length c0_0)) hst (by kernel_rfl) (by kernel_rfl) (fun w' hw' => ld_run _ _ _ (by kernel_rfl) (blk_cell hw'.2 rfl)) ?_
      replace H : St w F m m [blkI g0 [.slice A0_0 r_.f_b.length c0_0, .int .i64 r_.f_at, .int .i64 r_.f_e] 114] w20 := H
      refine stD2 (i := 7) (by kernel_rfl) ⟨H.has, H.blk 0 rfl⟩ (ldR (some 28) 3 (⟨g0, 1, none⟩) (.int .i64 r_.f_at) (by kernel_rfl) (by kernel_rfl) (H.cellB 0 rfl rfl) ?_)
      refine stD2 (i := 9) (by kernel_rfl) ⟨H.has, H.blk 0 rfl⟩ (callR (some 30) 84 #[.slice A0_0 r_.f_b.length c0_0, .int .i64 r_.f_at, .int .i64 n_] Try.call84 (field_within_c H.has r_.f_b A0_0 c0_0 s0_0 r_.f_at n_) (by kernel_rfl) ?_)
      rintro _ w21 ⟨rfl, hx21⟩
      replace H := H.ex hx21
      refine segD2 hst [10] [0, 1, 2, 4, 5, 6, 8, 3, 7, 9, 10] [(0, .pointer (some (⟨g0, 0, none⟩))), (1, .int .i64 n_), (31, .bool (!(field_within r_.f_b r_.f_at n_)))] (by kernel_rfl) ?_
      refine segD2 hst [11] [0, 1, 2, 4, 5, 6, 8, 3, 7, 9, 10, 11] [(0, .pointer (some (⟨g0, 0, none⟩))), (1, .int .i64 n_), (20, .bool (!(field_within r_.f_b r_.f_at n_)))] (by kernel_rfl) ?_
      refine endD2 (by kernel_rfl) ⟨H.has, H.blk 0 rfl⟩ ?_
      rcases condT hf with ⟨hb22, hf⟩ | ⟨hb22, hf⟩
      · rw [hb22]
        refine seg 8 [.op [1, 1, 1, 0] 3, .co [1, 1, 1, 1]] [(0, .pointer (some (⟨g0, 0, none⟩))), (1, .int .i64 n_), (35, .pointer (some (⟨g0, 0, none⟩))), (37, .pointer (some (⟨g0, 1, none⟩)))] (by kernel_rfl) ?_
        refine st (ldR (some 38) 3 (⟨g0, 1, none⟩) (.int .i64 r_.f_at) (by kernel_rfl) (by kernel_rfl) (H.cellB 0 rfl rfl) ?_)
        refine seg 4 [.op [1, 1, 1, 0] 8, .co [1, 1, 1, 1]] [(0, .pointer (some (⟨g0, 0, none⟩))), (1, .int .i64 n_), (40, .int .i64 (IntKind.i64.wrap (r_.f_at + n_))), (42, .pointer (some (⟨g0, 1, none⟩)))] (by kernel_rfl) ?_
        refine st (stS none 3 0 g0 1 (.int .i64 (IntKind.i64.wrap (r_.f_at + n_))) [.slice A0_0 r_.f_b.length c0_0, .int .i64 r_.f_at, .int .i64 r_.f_e] 114 H rfl (by kernel_rfl) (by kernel_rfl) rfl (of_decide_eq_true rfl) ?_)
        intro w23 H
        refine seg 2 [.co [1, 1, 1, 1, 0], .co [1, 1, 1, 1, 1]] [(0, .pointer (some (⟨g0, 0, none⟩))), (1, .int .i64 n_)] (by kernel_rfl) ?_
        obtain ⟨y_, h_y_, hf⟩ := bindE hf
        have hst : statB (bodyOf Try.f69) [1, 1, 1, 1, 0] = true := by kernel_rfl
        refine drawS (fun w' => Has m w' ∧ w'.heap[g0]? = some (.cells [.slice A0_0 r_.f_b.length c0_0, .int .i64 (IntKind.i64.wrap (r_.f_at + n_)), .int .i64 r_.f_e].toArray 114 (0, 0))) H (by kernel_rfl) (by kernel_rfl) ?_
        intro w25 H
        refine segD2 hst [0, 1, 2, 4, 5, 6, 8, 10, 11, 12] [0, 1, 2, 4, 5, 6, 8, 10, 11, 12] [(45, .pointer (some (⟨g0, 0, none⟩))), (49, .pointer (some (⟨g0, 1, none⟩))), (51, .int .i64 n_), (55, .pointer (some (⟨g0, 1, none⟩)))] (by kernel_rfl) ?_
        refine takeD2 (i := 3) (d := (some 46)) (s := vS (Instr.loadAt 29 (.pointer (some (⟨g0, 0, none⟩))))) (v := (.slice A0_0 r_.f_b.length c0_0)) hst (by kernel_rfl) (by kernel_rfl) (fun w' hw' => ld_run _ _ _ (by kernel_rfl) (blk_cell hw'.2 rfl)) ?_
        refine takeD2 (i := 7) (d := (some 50)) (s := vS (Instr.loadAt 3 (.pointer (some (⟨g0, 1, none⟩))))) (v := (.int .i64 (IntKind.i64.wrap (r_.f_at + n_)))) hst (by kernel_rfl) (by kernel_rfl) (fun w' hw' => ld_run _ _ _ (by kernel_rfl) (blk_cell hw'.2 rfl)) ?_
        refine segD2 hst [9] [0, 1, 2, 4, 5, 6, 8, 10, 11, 12, 3, 7, 9] [(46, .slice A0_0 r_.f_b.length c0_0), (52, .int .i64 (IntKind.i64.wrap ((IntKind.i64.wrap (r_.f_at + n_)) - n_))), (55, .pointer (some (⟨g0, 1, none⟩)))] (by kernel_rfl) ?_
        refine stD2 (i := 13) (by kernel_rfl) ⟨H.has, H.blk 0 rfl⟩ (ldR (some 56) 3 (⟨g0, 1, none⟩) (.int .i64 (IntKind.i64.wrap (r_.f_at + n_))) (by kernel_rfl) (by kernel_rfl) (H.cellB 0 rfl rfl) ?_)
        refine stD2 (i := 14) (by kernel_rfl) ⟨H.has, H.blk 0 rfl⟩ (sliS (r := rU8) (some 57) 29 5 A0_0 c0_0 r_.f_b y_ (some (.int .i64 (IntKind.i64.wrap ((IntKind.i64.wrap (r_.f_at + n_)) - n_)))) (some (.int .i64 (IntKind.i64.wrap (r_.f_at + n_)))) (IntKind.i64.wrap ((IntKind.i64.wrap (r_.f_at + n_)) - n_)) (IntKind.i64.wrap (r_.f_at + n_)) s0_0 (by kernel_rfl) (by kernel_rfl) (.inr ⟨_, rfl⟩) (.inr ⟨_, rfl⟩) h_y_ ?_)
        intro A26 c26 hs26
        refine segD2 hst [15] [0, 1, 2, 4, 5, 6, 8, 10, 11, 12, 3, 7, 9, 13, 14, 15] [(4, .slice A26 y_.length c26)] (by kernel_rfl) ?_
        refine endD2 (by kernel_rfl) ⟨H.has, H.blk 0 rfl⟩ ?_
        refine retR [4] [.slice A26 y_.length c26] (by kernel_rfl) (by kernel_rfl) (by kernel_rfl) ?_
        obtain rfl : (y_, ({ f_b := r_.f_b, f_at := (IntKind.i64.wrap (r_.f_at + n_)), f_e := r_.f_e } : TFieldReader)) = r := (Option.some.inj hf)
        exact ⟨_, rfl, A26, c26, A0_0, c0_0, m, rfl, H, hs26, s0_0⟩
      · rw [hb22]
        refine seg 6 [.op [1, 1, 0, 0, 1, 1, 1, 0, 0] 3, .co [1, 1, 0, 0, 1, 1, 1, 0, 1], .bl 0, .co [1, 1, 1]] [(34, .pointer (some (⟨g0, 2, none⟩)))] (by kernel_rfl) ?_
        refine st (stS none 30 0 g0 2 (.int .i64 6) [.slice A0_0 r_.f_b.length c0_0, .int .i64 r_.f_at, .int .i64 r_.f_e] 114 H rfl (by kernel_rfl) (by kernel_rfl) rfl (of_decide_eq_true rfl) ?_)
        intro w27 H
        refine seg 5 [.co [1, 1, 0, 0, 1, 1, 1, 0, 1, 1], .bl 0, .co [1, 1, 1]] [(4, .slice none 0 0)] (by kernel_rfl) ?_
        refine retR [4] [.slice none 0 0] (by kernel_rfl) (by kernel_rfl) (by kernel_rfl) ?_
        obtain rfl : ([], ({ f_b := r_.f_b, f_at := r_.f_at, f_e := 6 } : TFieldReader)) = r := (Option.some.inj hf)
        exact ⟨_, rfl, none, 0, A0_0, c0_0, m, rfl, H, (SlI.nil _ _), s0_0⟩
theorem field_load_c {m : Mem} {w : World} (hm : Has m w) (b : (List UInt8)) (A0_0 : Option Addr) (c0_0 : Nat) (s0_0 : SlI rU8 m A0_0 c0_0 b) {r : UInt64} (hf : field_load b = some r) :
    Calls Try.prog 68 #[.slice A0_0 b.length c0_0] w fun e w' => ∃ v, e = .returned v ∧ v = .int .u64 (r.toNat : Int) ∧ Ex w w' := by
  unfold field_load at hf
  have H := St.start0 hm
  refine callsR Try.func68 (by kernel_rfl) (by kernel_rfl) ?_
  refine seg 15 [.co [1, 1, 0, 1], .co [1, 1, 1]] [(0, .slice A0_0 b.length c0_0), (3, .int .u64 0), (6, .int .i64 (b.length : Int)), (7, .int .i64 0)] (by kernel_rfl) ?_
  obtain ⟨y38, hp38, hf⟩ := bindE hf
  refine joinR 0 (fun (x : UInt64) => [(3, .int .u64 (x.toNat : Int))]) (fun (x : UInt64) (wj38 : World) => y38 = x ∧ St w noF m m [] wj38) (by kernel_rfl) ?_ ?_
  · refine seg 1 [.co [1, 1, 0, 1, 0], .bl 0, .le 0, .co [1, 1, 1]] [(0, .slice A0_0 b.length c0_0), (3, .int .u64 0), (6, .int .i64 (b.length : Int)), (7, .int .i64 0)] (by kernel_rfl) ?_
    obtain ⟨nn49, hR49⟩ := loopO_iff.1 hp38
    refine loopR 1 (fun (x : Nat × UInt64 × Nat) => [(0, .slice A0_0 b.length c0_0), (3, .int .u64 (x.2.1.toNat : Int)), (6, .int .i64 (b.length : Int)), (7, .int .i64 (x.2.2 : Int))]) (fun (x : Nat × UInt64 × Nat) (wl49 : World) => iter (fun s => field_load_l1 b s.1 s.2) x.1 (x.2.1, x.2.2) = some y38 ∧ St w noF m m [] wl49) (fun (x : Nat × UInt64 × Nat) => x.1) (nn49, (0 : UInt64), 0) (by kernel_rfl) (by kernel_rfl) (by kernel_rfl) ?_ ?_
    · exact ⟨hR49, H⟩
    rintro ⟨n49, n_, t⟩ wl49 ⟨hR49, H⟩
    try dsimp only at hR49
    try dsimp only at H
    obtain ⟨nk49, q49, rfl, hb_49, hnx49, hfin49⟩ := iterE hR49
    replace hb_49 : field_load_l1 b n_ t = some q49 := hb_49
    unfold field_load_l1 at hb_49
    refine seg 5 [.co [1, 1, 0, 1, 0, 0, 1, 0], .co [1, 1, 0, 1, 0, 0, 1, 1], .le 1, .bl 0, .le 0, .co [1, 1, 1]] [(0, .slice A0_0 b.length c0_0), (3, .int .u64 (n_.toNat : Int)), (6, .int .i64 (b.length : Int)), (7, .int .i64 (t : Int)), (8, .bool (decide ((t : Int) < (b.length : Int))))] (by kernel_rfl) ?_
    rcases condT hb_49 with ⟨hb51, hb_49⟩ | ⟨hb51, hb_49⟩
    · rw [hb51]
      have p51 := of_decide_eq_true hb51
      refine seg 13 [.op [1, 1, 0, 1, 0, 0, 1, 1, 0, 0, 1] 3, .bl 1, .co [1, 1, 0, 1, 0, 0, 1, 1, 1], .le 1, .bl 0, .le 0, .co [1, 1, 1]] [(0, .slice A0_0 b.length c0_0), (4, .int .i64 (t : Int)), (6, .int .i64 (b.length : Int)), (7, .int .i64 (t : Int)), (10, .int .u64 (n_.toNat : Int)), (11, .slice A0_0 b.length c0_0), (12, .int .i64 (t : Int))] (by kernel_rfl) ?_
      obtain ⟨x_, h_x_, hb_49⟩ := bindE hb_49
      obtain ⟨ad53, _, ea53, rfl, hc53⟩ := s0_0.at_ h_x_ (by decide)
      refine st (idxS (some 13) 29 5 1 A0_0 ad53 b.length c0_0 .i64 (t : Int) ea53 (by kernel_rfl) (by kernel_rfl) (by omega) (by have := (List.getElem?_eq_some_iff.1 h_x_).1; omega) ?_)
      refine st (ldR (some 14) 5 (ad53.add (t * 1)) (.int .u8 (x_.toNat : Int)) (by kernel_rfl) (by kernel_rfl) (H.cellI (mc0 (hc53 0 _ rfl))) ?_)
      refine seg 3 [.op [1, 1, 0, 1, 0, 0, 1, 1, 0, 0, 1] 8, .bl 1, .co [1, 1, 0, 1, 0, 0, 1, 1, 1], .le 1, .bl 0, .le 0, .co [1, 1, 1]] [(0, .slice A0_0 b.length c0_0), (6, .int .i64 (b.length : Int)), (7, .int .i64 (t : Int)), (10, .int .u64 (n_.toNat : Int)), (15, .int .u64 (IntKind.u64.wrap (x_.toNat : Int))), (17, .int .i64 (IntKind.i64.wrap (8 * (t : Int))))] (by kernel_rfl) ?_
      rw [q64_u8 x_]
      obtain ⟨hc54, hb_49⟩ := chkE hb_49
      refine st (runR (by kernel_rfl : fetch _ _ _ _ _ = some ((some 18), vS (Op.shift .shl .u64 (x_.toUInt64.toNat : Int) .i64 (IntKind.i64.wrap (8 * (t : Int)))))) (shl64_run _ _ (of_decide_eq_true hc54)) ?_)
      refine seg 8 [.le 1, .bl 0, .le 0, .co [1, 1, 1]] [(0, .slice A0_0 b.length c0_0), (3, .int .u64 (Go.bits .or .u64 (n_.toNat : Int) ((shl64 x_.toUInt64 (IntKind.i64.wrap (8 * (t : Int)))).toNat : Int))), (6, .int .i64 (b.length : Int)), (7, .int .i64 (IntKind.i64.wrap ((t : Int) + 1)))] (by kernel_rfl) ?_
      rw [q64_or n_ (shl64 x_.toUInt64 (IntKind.i64.wrap (8 * (t : Int)))) (n_.toNat : Int) ((shl64 x_.toUInt64 (IntKind.i64.wrap (8 * (t : Int)))).toNat : Int) (by rfl) (by rfl)]
      have := s0_0.bound
      rw [show IntKind.i64.wrap ((t : Int) + 1) = ((t : Int) + 1) from w64 (by omega)]
      refine leR (nk49, (n_ ||| (shl64 x_.toUInt64 (IntKind.i64.wrap (8 * (t : Int))))), (t + 1)) (Nat.lt_succ_self _) ⟨hnx49 _ (Option.some.inj hb_49).symm, H⟩ (by kernel_rfl)
    · rw [hb51]
      have p51 := of_decide_eq_false hb51
      refine seg 2 [.le 0, .co [1, 1, 1]] [(3, .int .u64 (n_.toNat : Int))] (by kernel_rfl) ?_
      refine leR_up (k' := []) (by rfl) ?_
      refine leJ (n_) ⟨(hfin49 _ (Option.some.inj hb_49).symm).symm, H⟩ (by kernel_rfl)
  rintro n_ wj38 ⟨hy38, H⟩
  rw [hy38] at hf
  refine seg 5 [.co [1, 1, 1, 1]] [(2, .int .u64 (n_.toNat : Int))] (by kernel_rfl) ?_
  refine retR [2] [.int .u64 (n_.toNat : Int)] (by kernel_rfl) (by kernel_rfl) (by kernel_rfl) ?_
  have hret := (Option.some.inj hf)
  subst hret
  exact ⟨_, rfl, rfl, H.scalar⟩
theorem field_Reader_Num_c {m : Mem} {w : World} (hm : Has m w) (g0 : Nat) (r_ : TFieldReader) (A0_0 : Option Addr) (c0_0 : Nat) (s0_0 : SlI rU8 m A0_0 c0_0 r_.f_b) (width : Int) {F : Nat → Prop} (hsep : Sep m w [blkI g0 [.slice A0_0 r_.f_b.length c0_0, .int .i64 r_.f_at, .int .i64 r_.f_e] 114] F) (hF : ∀ k, F k → m k = none) {r : (UInt64 × TFieldReader)} (hf : field_Reader_Num r_ width = some r) :
    Calls Try.prog 38 #[.pointer (some (⟨g0, 0, none⟩)), .int .i64 width] w fun e w' => ∃ v, e = .returned v ∧ ∃ Az_o0_0 : Option Addr, ∃ cz_o0_0 : Nat, ∃ m' : Mem, v = .int .u64 (r.1.toNat : Int) ∧ St w F m m' [blkI g0 [.slice Az_o0_0 r.2.f_b.length cz_o0_0, .int .i64 r.2.f_at, .int .i64 r.2.f_e] 114] w' ∧ SlI rU8 m' Az_o0_0 cz_o0_0 r.2.f_b := by
  unfold field_Reader_Num at hf
  have H := St.start hm hsep hF
  refine callsR Try.func38 (by kernel_rfl) (by kernel_rfl) ?_
  refine seg 8 [.op [1, 0, 0] 1, .co [1, 0, 1], .co [1, 1]] [(0, .pointer (some (⟨g0, 0, none⟩))), (1, .int .i64 width), (5, .int .i64 width)] (by kernel_rfl) ?_
  refine st (callR (some 6) 63 #[.int .i64 width] Try.call63 (field_wide_c H.has width) (by kernel_rfl) ?_)
  rintro _ w1 ⟨rfl, hx1⟩
  replace H := H.ex hx1
  refine seg 2 [.co [1, 0, 1], .co [1, 1]] [(0, .pointer (some (⟨g0, 0, none⟩))), (1, .int .i64 width), (7, .bool (!(field_wide width)))] (by kernel_rfl) ?_
  rcases condT hf with ⟨hb5, hf⟩ | ⟨hb5, hf⟩
  · rw [hb5]
    refine seg 6 [.op [1, 1, 0] 2, .co [1, 1, 1]] [(8, .pointer (some (⟨g0, 0, none⟩))), (9, .int .i64 width)] (by kernel_rfl) ?_
    obtain ⟨take, h_take, hf⟩ := bindE hf
    obtain ⟨F6, hse6, hFn6, hcl6⟩ := St.call [blkI g0 [.slice A0_0 r_.f_b.length c0_0, .int .i64 r_.f_at, .int .i64 r_.f_e] 114] H
    refine st (callR (some 10) 69 #[.pointer (some (⟨g0, 0, none⟩)), .int .i64 width] Try.call69 (field_Reader_take_c H.has g0 r_ A0_0 c0_0 s0_0 width hse6 hFn6 h_take) (by kernel_rfl) ?_)
    rintro _ w6 ⟨A6_0, c6_0, A6_o0_0, c6_o0_0, mk6, rfl, hS6, hs6_0, hs6_1⟩
    have hsub6 := hS6.sub
    replace H := hcl6 _ _ _ hS6
    replace H : St w F m mk6 [blkI g0 [.slice A6_o0_0 take.2.f_b.length c6_o0_0, .int .i64 take.2.f_at, .int .i64 take.2.f_e] 114] w6 := H
    obtain ⟨load, h_load, hf⟩ := bindE hf
    refine st (callR (some 11) 68 #[.slice A6_0 take.1.length c6_0] Try.call68 (field_load_c H.has take.1 A6_0 c6_0 hs6_0 h_load) (by kernel_rfl) ?_)
    rintro _ w7 ⟨rfl, hx7⟩
    replace H := H.ex hx7
    refine seg 2 [.co [1, 1, 1]] [(4, .int .u64 (load.toNat : Int))] (by kernel_rfl) ?_
    refine retR [4] [.int .u64 (load.toNat : Int)] (by kernel_rfl) (by kernel_rfl) (by kernel_rfl) ?_
    obtain rfl : (load, take.2) = r := (Option.some.inj hf)
    exact ⟨_, rfl, A6_o0_0, c6_o0_0, mk6, rfl, H, hs6_1⟩
  · rw [hb5]
    refine seg 8 [.op [1, 1, 0] 2, .co [1, 1, 1]] [(8, .pointer (some (⟨g0, 0, none⟩))), (9, .int .i64 (-1))] (by kernel_rfl) ?_
    obtain ⟨take1, h_take1, hf⟩ := bindE hf
    obtain ⟨F9, hse9, hFn9, hcl9⟩ := St.call [blkI g0 [.slice A0_0 r_.f_b.length c0_0, .int .i64 r_.f_at, .int .i64 r_.f_e] 114] H
    refine st (callR (some 10) 69 #[.pointer (some (⟨g0, 0, none⟩)), .int .i64 (-1)] Try.call69 (field_Reader_take_c H.has g0 r_ A0_0 c0_0 s0_0 (-1) hse9 hFn9 h_take1) (by kernel_rfl) ?_)
    rintro _ w9 ⟨A9_0, c9_0, A9_o0_0, c9_o0_0, mk9, rfl, hS9, hs9_0, hs9_1⟩
    have hsub9 := hS9.sub
    replace H := hcl9 _ _ _ hS9
    obtain ⟨load1, h_load1, hf⟩ := bindE hf
    refine st (callR (some 11) 68 #[.slice A9_0 take1.1.length c9_0] Try.call68 (field_load_c H.has take1.1 A9_0 c9_0 hs9_0 h_load1) (by kernel_rfl) ?_)
    rintro _ w10 ⟨rfl, hx10⟩
    replace H := H.ex hx10
    refine seg 2 [.co [1, 1, 1]] [(4, .int .u64 (load1.toNat : Int))] (by kernel_rfl) ?_
    refine retR [4] [.int .u64 (load1.toNat : Int)] (by kernel_rfl) (by kernel_rfl) (by kernel_rfl) ?_
    obtain rfl : (load1, take1.2) = r := (Option.some.inj hf)
    exact ⟨_, rfl, A9_o0_0, c9_o0_0, mk9, rfl, H, hs9_1⟩
theorem table_DecodeIds_1_c {m : Mem} {w : World} (hm : Has m w) (g0 : Nat) (r_ : TFieldReader) (A0_0 : Option Addr) (c0_0 : Nat) (s0_0 : SlI rU8 m A0_0 c0_0 r_.f_b) {F : Nat → Prop} (hsep : Sep m w [blkI g0 [.slice A0_0 r_.f_b.length c0_0, .int .i64 r_.f_at, .int .i64 r_.f_e] 114] F) (hF : ∀ k, F k → m k = none) {r : (Int × TFieldReader)} (hf : table_DecodeIds_1 r_ = some r) :
    Calls Try.prog 37 #[.pointer (some (⟨g0, 0, none⟩))] w fun e w' => ∃ v, e = .returned v ∧ ∃ Az_o0_0 : Option Addr, ∃ cz_o0_0 : Nat, ∃ m' : Mem, v = .int .i64 r.1 ∧ St w F m m' [blkI g0 [.slice Az_o0_0 r.2.f_b.length cz_o0_0, .int .i64 r.2.f_at, .int .i64 r.2.f_e] 114] w' ∧ SlI rU8 m' Az_o0_0 cz_o0_0 r.2.f_b := by
  unfold table_DecodeIds_1 at hf
  have H := St.start hm hsep hF
  refine callsR Try.func37 (by kernel_rfl) (by kernel_rfl) ?_
  refine seg 7 [.op [1, 0] 1, .co [1, 1]] [(3, .pointer (some (⟨g0, 0, none⟩)))] (by kernel_rfl) ?_
  obtain ⟨num, h_num, hf⟩ := bindE hf
  obtain ⟨F1, hse1, hFn1, hcl1⟩ := St.call [blkI g0 [.slice A0_0 r_.f_b.length c0_0, .int .i64 r_.f_at, .int .i64 r_.f_e] 114] H
  refine st (callR (some 4) 38 #[.pointer (some (⟨g0, 0, none⟩)), .int .i64 4] Try.call38 (field_Reader_Num_c H.has g0 r_ A0_0 c0_0 s0_0 4 hse1 hFn1 h_num) (by kernel_rfl) ?_)
  rintro _ w1 ⟨A1_o0_0, c1_o0_0, mk1, rfl, hS1, hs1_0⟩
  have hsub1 := hS1.sub
  replace H := hcl1 _ _ _ hS1
  refine seg 3 [.co [1, 1]] [(2, .int .i64 (IntKind.i64.wrap (num.1.toNat : Int)))] (by kernel_rfl) ?_
  refine retR [2] [.int .i64 (IntKind.i64.wrap (num.1.toNat : Int))] (by kernel_rfl) (by kernel_rfl) (by kernel_rfl) ?_
  obtain rfl : ((IntKind.i64.wrap (num.1.toNat : Int)), num.2) = r := (Option.some.inj hf)
  exact ⟨_, rfl, A1_o0_0, c1_o0_0, mk1, rfl, H, hs1_0⟩
theorem table_read0_c {m : Mem} {w : World} (hm : Has m w) (b : (List UInt8)) (A0_0 : Option Addr) (c0_0 : Nat) (s0_0 : SlI rU8 m A0_0 c0_0 b) (size : Int) {r : ((List Int) × Bool)} (hf : table_read0 b size = some r) :
    Calls Try.prog 36 #[.slice A0_0 b.length c0_0, .int .i64 size, .func (.func 37) #[] #[]] w fun e w' => ∃ v, e = .returned v ∧ ∃ Az_0 : Option Addr, ∃ cz_0 : Nat, ∃ m' : Mem, v = .tuple #[.slice Az_0 r.1.length cz_0, .bool r.2] ∧ St w noF m m' [rowI rI64 3 Az_0 cz_0 r.1] w' := by
  unfold table_read0 at hf
  have H := St.start0 hm
  refine callsR Try.func36 (by kernel_rfl) (by kernel_rfl) ?_
  refine seg 11 [.op [1, 0, 0] 3, .co [1, 0, 1], .co [1, 1]] [(0, .slice A0_0 b.length c0_0), (1, .int .i64 size), (2, .func (.func 37) #[] #[]), (11, .int .i64 (b.length : Int)), (12, .int .i64 size)] (by kernel_rfl) ?_
  obtain ⟨hc4, hf⟩ := chkE hf
  refine st (runR (by kernel_rfl : fetch _ _ _ _ _ = some ((some 13), vS (Op.intDiv .rem .i64 (b.length : Int) size))) (rem_run .i64 (b.length : Int) size (of_decide_eq_true hc4)) ?_)
  refine seg 2 [.op [1, 0, 0] 6, .co [1, 0, 1], .co [1, 1]] [(0, .slice A0_0 b.length c0_0), (1, .int .i64 size), (2, .func (.func 37) #[] #[]), (15, .bool ((Int.tmod (b.length : Int) size) != 0))] (by kernel_rfl) ?_
  rcases condT hf with ⟨hb5, hf⟩ | ⟨hb5, hf⟩
  · rw [hb5]
    refine seg 13 [.co [1, 0, 1, 0, 1], .co [1, 1]] [(6, .slice none 0 0), (7, .bool false)] (by kernel_rfl) ?_
    have H := H.nilR rI64 3
    refine retR [6, 7] [.slice none 0 0, .bool false] (by kernel_rfl) (by kernel_rfl) (by kernel_rfl) ?_
    obtain rfl : ([], false) = r := (Option.some.inj hf)
    exact ⟨_, rfl, none, 0, m, rfl, H⟩
  · rw [hb5]
    refine seg 3 [.op [1, 0, 0] 9, .co [1, 0, 1], .co [1, 1]] [(0, .slice A0_0 b.length c0_0), (2, .func (.func 37) #[] #[]), (15, .bool false), (17, .int .i64 (b.length : Int)), (18, .int .i64 size)] (by kernel_rfl) ?_
    obtain ⟨hc6, hf⟩ := chkE hf
    refine st (runR (by kernel_rfl : fetch _ _ _ _ _ = some ((some 19), vS (Op.intDiv .quo .i64 (b.length : Int) size))) (quo_run .i64 (b.length : Int) size (of_decide_eq_true hc6)) ?_)
    refine seg 3 [.co [1, 0, 1], .co [1, 1]] [(0, .slice A0_0 b.length c0_0), (2, .func (.func 37) #[] #[]), (21, .bool (decide ((IntKind.i64.wrap (Int.tdiv (b.length : Int) size)) > 65536)))] (by kernel_rfl) ?_
    rcases condT hf with ⟨hb9, hf⟩ | ⟨hb9, hf⟩
    · rw [hb9]
      have p9 := of_decide_eq_true hb9
      refine seg 6 [.co [1, 0, 1, 0, 1], .co [1, 1]] [(6, .slice none 0 0), (7, .bool false)] (by kernel_rfl) ?_
      have H := H.nilR rI64 3
      refine retR [6, 7] [.slice none 0 0, .bool false] (by kernel_rfl) (by kernel_rfl) (by kernel_rfl) ?_
      obtain rfl : ([], false) = r := (Option.some.inj hf)
      exact ⟨_, rfl, none, 0, m, rfl, H⟩
    · rw [hb9]
      have p9 := of_decide_eq_false hb9
      refine seg 5 [.op [1, 1, 0] 1, .co [1, 1, 1]] [(2, .func (.func 37) #[] #[]), (22, .slice A0_0 b.length c0_0)] (by kernel_rfl) ?_
      obtain ⟨newRea, h_newRea, hf⟩ := bindE hf
      refine st (callR (some 23) 47 #[.slice A0_0 b.length c0_0] Try.call47 (field_NewReader_c H.has b A0_0 c0_0 s0_0 h_newRea) (by kernel_rfl) ?_)
      rintro _ w10 ⟨g10_0, A10_0_0, c10_0_0, mk10, rfl, hS10, hs10_0⟩
      have hsub10 := hS10.sub
      replace H := H.call0 hS10
      refine seg 7 [.co [1, 1, 1, 1, 0], .co [1, 1, 1, 1, 1]] [(2, .func (.func 37) #[] #[]), (8, .pointer (some (⟨g10_0, 0, none⟩))), (9, .slice none 0 0)] (by kernel_rfl) ?_
      obtain ⟨y53, hp53, hf⟩ := bindE hf
      refine joinR 0 (fun (x : (List Int) × Option Addr × Nat × Mem) => [(9, .slice (x.2.1) x.1.length (x.2.2.1))]) (fun (x : (List Int) × Option Addr × Nat × Mem) (wj53 : World) => y53 = x.1 ∧ St w noF m x.2.2.2 [rowI rI64 3 (x.2.1) (x.2.2.1) x.1] wj53 ∧ Sub mk10 x.2.2.2) (by kernel_rfl) ?_ ?_
      · refine seg 1 [.co [1, 1, 1, 1, 0, 0], .bl 0, .le 0, .co [1, 1, 1, 1, 1]] [(2, .func (.func 37) #[] #[]), (8, .pointer (some (⟨g10_0, 0, none⟩))), (9, .slice none 0 0)] (by kernel_rfl) ?_
        have H := H.nilR rI64 3
        obtain ⟨nn68, hR68⟩ := loopO_iff.1 hp53
        refine loopR 1 (fun (x : Nat × (List UInt8) × Int × Int × (List Int) × Option Addr × Nat × Option Addr × Nat × Mem) => [(2, .func (.func 37) #[] #[]), (8, .pointer (some (⟨g10_0, 0, none⟩))), (9, .slice (x.2.2.2.2.2.2.2.1) x.2.2.2.2.1.length (x.2.2.2.2.2.2.2.2.1))]) (fun (x : Nat × (List UInt8) × Int × Int × (List Int) × Option Addr × Nat × Option Addr × Nat × Mem) (wl68 : World) => iter (fun s => table_read0_l1 s.1 s.2.1 s.2.2.1 s.2.2.2) x.1 (x.2.1, x.2.2.1, x.2.2.2.1, x.2.2.2.2.1) = some y53 ∧ St w noF m x.2.2.2.2.2.2.2.2.2 [blkI g10_0 [.slice (x.2.2.2.2.2.1) x.2.1.length (x.2.2.2.2.2.2.1), .int .i64 x.2.2.1, .int .i64 x.2.2.2.1] 114, rowI rI64 3 (x.2.2.2.2.2.2.2.1) (x.2.2.2.2.2.2.2.2.1) x.2.2.2.2.1] wl68 ∧ Sub mk10 x.2.2.2.2.2.2.2.2.2 ∧ SlI rU8 x.2.2.2.2.2.2.2.2.2 x.2.2.2.2.2.1 x.2.2.2.2.2.2.1 x.2.1) (fun (x : Nat × (List UInt8) × Int × Int × (List Int) × Option Addr × Nat × Option Addr × Nat × Mem) => x.1) (nn68, newRea.f_b, newRea.f_at, newRea.f_e, [], A10_0_0, c10_0_0, none, 0, mk10) (by kernel_rfl) (by kernel_rfl) (by kernel_rfl) ?_ ?_
        · exact ⟨hR68, (H.pull 1 rfl), (Sub.refl _), hs10_0⟩
        rintro ⟨n68, b1, at_, e_, out, A_1_69, c_2_69, A_3_69, c_4_69, mm69⟩ wl68 ⟨hR68, H, hsub69, hs69_0⟩
        try dsimp only at hR68
        try dsimp only at H
        try dsimp only at hsub69
        try dsimp only at hs69_0
        obtain ⟨nk68, q68, rfl, hb_68, hnx68, hfin68⟩ := iterE hR68
        replace hb_68 : table_read0_l1 b1 at_ e_ out = some q68 := hb_68
        unfold table_read0_l1 at hb_68
        refine seg 4 [.op [1, 1, 1, 1, 0, 0, 0, 0, 0] 1, .co [1, 1, 1, 1, 0, 0, 0, 0, 1], .co [1, 1, 1, 1, 0, 0, 0, 1], .le 1, .bl 0, .le 0, .co [1, 1, 1, 1, 1]] [(2, .func (.func 37) #[] #[]), (8, .pointer (some (⟨g10_0, 0, none⟩))), (9, .slice A_3_69 out.length c_4_69), (24, .pointer (some (⟨g10_0, 0, none⟩)))] (by kernel_rfl) ?_
        replace H : St w noF m mm69 [blkI g10_0 [.slice A_1_69 b1.length c_2_69, .int .i64 at_, .int .i64 e_] 114, rowI rI64 3 A_3_69 c_4_69 out] wl68 := H
        obtain ⟨left, h_left, hb_68⟩ := bindE hb_68
        obtain ⟨F70, hse70, hFn70, hcl70⟩ := St.call [blkI g10_0 [.slice A_1_69 b1.length c_2_69, .int .i64 at_, .int .i64 e_] 114] H
        refine st (callR (some 25) 67 #[.pointer (some (⟨g10_0, 0, none⟩))] Try.call67 (field_Reader_Left_c H.has g10_0 ({ f_b := b1, f_at := at_, f_e := e_ } : TFieldReader) A_1_69 c_2_69 hs69_0 hse70 hFn70 h_left) (by kernel_rfl) ?_)
        rintro _ w70 ⟨mk70, rfl, hS70⟩
        have hsub70 := hS70.sub
        replace H := hcl70 _ _ _ hS70
        refine seg 2 [.co [1, 1, 1, 1, 0, 0, 0, 0, 1], .co [1, 1, 1, 1, 0, 0, 0, 1], .le 1, .bl 0, .le 0, .co [1, 1, 1, 1, 1]] [(2, .func (.func 37) #[] #[]), (8, .pointer (some (⟨g10_0, 0, none⟩))), (9, .slice A_3_69 out.length c_4_69), (26, .bool (decide (left > 0)))] (by kernel_rfl) ?_
        rcases condT hb_68 with ⟨hb71, hb_68⟩ | ⟨hb71, hb_68⟩
        · rw [hb71]
          have p71 := of_decide_eq_true hb71
          refine seg 7 [.op [1, 1, 1, 1, 0, 0, 0, 1, 0] 3, .bl 1, .le 1, .bl 0, .le 0, .co [1, 1, 1, 1, 1]] [(2, .func (.func 37) #[] #[]), (8, .pointer (some (⟨g10_0, 0, none⟩))), (27, .slice A_3_69 out.length c_4_69), (28, .func (.func 37) #[] #[]), (29, .pointer (some (⟨g10_0, 0, none⟩)))] (by kernel_rfl) ?_
          obtain ⟨decode, h_decode, hb_68⟩ := bindE hb_68
          obtain ⟨F72, hse72, hFn72, hcl72⟩ := St.call [blkI g10_0 [.slice A_1_69 b1.length c_2_69, .int .i64 at_, .int .i64 e_] 114] H
          refine st (callR (some 30) 37 #[.pointer (some (⟨g10_0, 0, none⟩))] Try.call37 (table_DecodeIds_1_c H.has g10_0 ({ f_b := b1, f_at := at_, f_e := e_ } : TFieldReader) A_1_69 c_2_69 (hs69_0.mono hsub70) hse72 hFn72 h_decode) (by kernel_rfl) ?_)
          rintro _ w72 ⟨A72_o0_0, c72_o0_0, mk72, rfl, hS72, hs72_0⟩
          have hsub72 := hS72.sub
          replace H := hcl72 _ _ _ hS72
          refine st (newS (some 31) (fun g => .slice (some ⟨g, 0, none⟩) 1 1) [.int .i64 decode.1] 3 H (by kernel_rfl) ?_)
          intro g73 w73 H
          obtain ⟨b2, h_b2, hb_68⟩ := bindE hb_68
          refine st (appS (r := rI64) (some 32) 22 3 8 (.int .i64 0) 22 2 A_3_69 (some ⟨g73, 0, none⟩) c_4_69 1 1 out [decode.1] b2 _ H rfl ⟨Try.underlying22, by kernel_rfl⟩ rfl (by decide) (by kernel_rfl) (Cs.of_blk (H.blk 0 rfl)) (Rows.cons (cs := [.int .i64 decode.1]) rfl Rows.nil) rfl h_b2 (by decide) (by decide) ?_)
          intro A74 c74 w74 H
          replace H := H.drop 0 rfl
          refine seg 3 [.le 1, .bl 0, .le 0, .co [1, 1, 1, 1, 1]] [(2, .func (.func 37) #[] #[]), (8, .pointer (some (⟨g10_0, 0, none⟩))), (9, .slice A74 b2.length c74)] (by kernel_rfl) ?_
          refine leR (nk68, decode.2.f_b, decode.2.f_at, decode.2.f_e, b2, A72_o0_0, c72_o0_0, A74, c74, mk72) (Nat.lt_succ_self _) ⟨hnx68 _ (Option.some.inj hb_68).symm, H, ((hsub69.trans hsub70).trans hsub72), hs72_0⟩ (by kernel_rfl)
        · rw [hb71]
          have p71 := of_decide_eq_false hb71
          refine seg 2 [.le 0, .co [1, 1, 1, 1, 1]] [(9, .slice A_3_69 out.length c_4_69)] (by kernel_rfl) ?_
          refine leR_up (k' := []) (by rfl) ?_
          refine leJ (out, A_3_69, c_4_69, mk70) ⟨(hfin68 _ (Option.some.inj hb_68).symm).symm, (St.takeN 1 (H.pull 1 rfl)), (hsub69.trans hsub70)⟩ (by kernel_rfl)
      rintro ⟨out, A_1_54, c_2_54, mm54⟩ wj53 ⟨hy53, H, hsub54⟩
      try dsimp only at hy53
      try dsimp only at H
      try dsimp only at hsub54
      rw [hy53] at hf
      refine seg 6 [.co [1, 1, 1, 1, 1, 1]] [(6, .slice A_1_54 out.length c_2_54), (7, .bool true)] (by kernel_rfl) ?_
      refine retR [6, 7] [.slice A_1_54 out.length c_2_54, .bool true] (by kernel_rfl) (by kernel_rfl) (by kernel_rfl) ?_
      obtain rfl : (out, true) = r := (Option.some.inj hf)
      exact ⟨_, rfl, A_1_54, c_2_54, mm54, rfl, H⟩
theorem table_DecodeIds_c {m : Mem} {w : World} (hm : Has m w) (b : (List UInt8)) (A0_0 : Option Addr) (c0_0 : Nat) (s0_0 : SlI rU8 m A0_0 c0_0 b) {r : ((List Int) × Int)} (hf : table_DecodeIds b = some r) :
    Calls Try.prog 16 #[.slice A0_0 b.length c0_0] w fun e w' => ∃ v, e = .returned v ∧ ∃ Az_0 : Option Addr, ∃ cz_0 : Nat, ∃ m' : Mem, v = .tuple #[.slice Az_0 r.1.length cz_0, .int .i64 r.2] ∧ St w noF m m' [rowI rI64 3 Az_0 cz_0 r.1] w' := by
  unfold table_DecodeIds at hf
  have H := St.start0 hm
  refine callsR Try.func16 (by kernel_rfl) (by kernel_rfl) ?_
  refine seg 8 [.op [1, 0] 1, .co [1, 1]] [(9, .slice A0_0 b.length c0_0)] (by kernel_rfl) ?_
  obtain ⟨readin, h_readin, hf⟩ := bindE hf
  refine st (callR (some 10) 36 #[.slice A0_0 b.length c0_0, .int .i64 4, .func (.func 37) #[] #[]] Try.call36 (table_read0_c H.has b A0_0 c0_0 s0_0 4 h_readin) (by kernel_rfl) ?_)
  rintro _ w1 ⟨A1_0, c1_0, mk1, rfl, hS1⟩
  have hsub1 := hS1.sub
  replace H := H.call0 hS1
  refine seg 10 [.op [1, 1, 0, 0] 1, .co [1, 1, 0, 1], .co [1, 1, 1]] [(4, .slice A1_0 readin.1.length c1_0), (5, .bool readin.2), (14, .slice A1_0 readin.1.length c1_0)] (by kernel_rfl) ?_
  have H0_2 := H
  obtain ⟨mf3, hsub3, hsf3, H⟩ := H.fixR 0 rfl
  obtain ⟨encode, h_encode, hf⟩ := bindE hf
  refine st (callR (some 15) 13 #[.slice A1_0 readin.1.length c1_0] Try.call13 (table_EncodeIds_c H.has readin.1 A1_0 c1_0 hsf3 h_encode) (by kernel_rfl) ?_)
  rintro _ w4 ⟨A4_0, c4_0, mk4, rfl, hS4⟩
  replace H := H0_2.callB hS4 ⟨rowI_ind (fun _ _ _ _ h => h), trivial⟩
  refine seg 11 [.op [1, 1, 0, 1, 0] 3, .co [1, 1, 0, 1, 1], .co [1, 1, 1]] [(4, .slice A1_0 readin.1.length c1_0), (7, .int .i64 encode.2), (20, .bool (!readin.2))] (by kernel_rfl) ?_
  rcases condT hf with ⟨hb9, hf⟩ | ⟨hb9, hf⟩
  · rw [hb9]
    refine seg 4 [.co [1, 1, 0, 1, 1], .co [1, 1, 1]] [(4, .slice A1_0 readin.1.length c1_0), (23, .bool (encode.2 != 0))] (by kernel_rfl) ?_
    rcases condT hf with ⟨hb10, hf⟩ | ⟨hb10, hf⟩
    · rw [hb10]
      refine seg 6 [.co [1, 1, 0, 1, 1, 0, 1], .co [1, 1, 1]] [(2, .slice none 0 0), (3, .int .i64 6)] (by kernel_rfl) ?_
      have H := H.nilR rI64 3
      refine retR [2, 3] [.slice none 0 0, .int .i64 6] (by kernel_rfl) (by kernel_rfl) (by kernel_rfl) ?_
      obtain rfl : ([], 6) = r := (Option.some.inj hf)
      exact ⟨_, rfl, none, 0, mk1, rfl, (St.takeN 1 H)⟩
    · rw [hb10]
      refine seg 8 [.co [1, 1, 1, 1]] [(2, .slice A1_0 readin.1.length c1_0), (3, .int .i64 0)] (by kernel_rfl) ?_
      refine retR [2, 3] [.slice A1_0 readin.1.length c1_0, .int .i64 0] (by kernel_rfl) (by kernel_rfl) (by kernel_rfl) ?_
      obtain rfl : (readin.1, 0) = r := (Option.some.inj hf)
      exact ⟨_, rfl, A1_0, c1_0, mk1, rfl, (St.takeN 1 (H.pull 1 rfl))⟩
  · rw [hb9]
    refine seg 10 [.co [1, 1, 0, 1, 1, 0, 1], .co [1, 1, 1]] [(2, .slice none 0 0), (3, .int .i64 6)] (by kernel_rfl) ?_
    have H := H.nilR rI64 3
    refine retR [2, 3] [.slice none 0 0, .int .i64 6] (by kernel_rfl) (by kernel_rfl) (by kernel_rfl) ?_
    obtain rfl : ([], 6) = r := (Option.some.inj hf)
    exact ⟨_, rfl, none, 0, mk1, rfl, (St.takeN 1 H)⟩
theorem ref01_Store_c {m : Mem} {w : World} (hm : Has m w) (n_ : UInt64) (w_ : Int) {r : (List UInt8)} (hf : ref01_Store n_ w_ = some r) :
    Calls Try.prog 39 #[.int .u64 (n_.toNat : Int), .int .i64 w_] w fun e w' => ∃ v, e = .returned v ∧ ∃ Az_0 : Option Addr, ∃ cz_0 : Nat, ∃ m' : Mem, v = .slice Az_0 r.length cz_0 ∧ St w noF m m' [rowI rU8 5 Az_0 cz_0 r] w' := by
  unfold ref01_Store at hf
  have H := St.start0 hm
  refine callsR Try.func39 (by kernel_rfl) (by kernel_rfl) ?_
  refine seg 13 [.co [1, 1, 0, 1], .co [1, 1, 1]] [(0, .int .u64 (n_.toNat : Int)), (1, .int .i64 w_), (5, .slice none 0 0), (6, .int .i64 0)] (by kernel_rfl) ?_
  obtain ⟨y43, hp43, hf⟩ := bindE hf
  refine joinR 0 (fun (x : (List UInt8) × Option Addr × Nat) => [(5, .slice (x.2.1) x.1.length (x.2.2))]) (fun (x : (List UInt8) × Option Addr × Nat) (wj43 : World) => y43 = x.1 ∧ St w noF m m [rowI rU8 5 (x.2.1) (x.2.2) x.1] wj43) (by kernel_rfl) ?_ ?_
  · refine seg 1 [.co [1, 1, 0, 1, 0], .bl 0, .le 0, .co [1, 1, 1]] [(0, .int .u64 (n_.toNat : Int)), (1, .int .i64 w_), (5, .slice none 0 0), (6, .int .i64 0)] (by kernel_rfl) ?_
    have H := H.nilR rU8 5
    obtain ⟨nn57, hR57⟩ := loopO_iff.1 hp43
    refine loopR 1 (fun (x : Nat × UInt64 × (List UInt8) × Int × Option Addr × Nat) => [(0, .int .u64 (x.2.1.toNat : Int)), (1, .int .i64 w_), (5, .slice (x.2.2.2.2.1) x.2.2.1.length (x.2.2.2.2.2)), (6, .int .i64 x.2.2.2.1)]) (fun (x : Nat × UInt64 × (List UInt8) × Int × Option Addr × Nat) (wl57 : World) => iter (fun s => ref01_Store_l1 w_ s.1 s.2.1 s.2.2) x.1 (x.2.1, x.2.2.1, x.2.2.2.1) = some y43 ∧ St w noF m m [rowI rU8 5 (x.2.2.2.2.1) (x.2.2.2.2.2) x.2.2.1] wl57) (fun (x : Nat × UInt64 × (List UInt8) × Int × Option Addr × Nat) => x.1) (nn57, n_, [], 0, none, 0) (by kernel_rfl) (by kernel_rfl) (by kernel_rfl) ?_ ?_
    · exact ⟨hR57, H⟩
    rintro ⟨n57, n_1, b, i, A_1_58, c_2_58⟩ wl57 ⟨hR57, H⟩
    try dsimp only at hR57
    try dsimp only at H
    obtain ⟨nk57, q57, rfl, hb_57, hnx57, hfin57⟩ := iterE hR57
    replace hb_57 : ref01_Store_l1 w_ n_1 b i = some q57 := hb_57
    unfold ref01_Store_l1 at hb_57
    refine seg 7 [.co [1, 1, 0, 1, 0, 0, 0, 1], .co [1, 1, 0, 1, 0, 0, 1], .le 1, .bl 0, .le 0, .co [1, 1, 1]] [(0, .int .u64 (n_1.toNat : Int)), (1, .int .i64 w_), (5, .slice A_1_58 b.length c_2_58), (6, .int .i64 i), (9, .bool (decide (i < w_)))] (by kernel_rfl) ?_
    rcases condT hb_57 with ⟨hb59, hb_57⟩ | ⟨hb59, hb_57⟩
    · rw [hb59]
      have p59 := of_decide_eq_true hb59
      refine seg 10 [.op [1, 1, 0, 1, 0, 0, 1, 0, 0, 0] 4, .co [1, 1, 0, 1, 0, 0, 1, 0, 0, 1], .bl 1, .co [1, 1, 0, 1, 0, 0, 1, 1], .le 1, .bl 0, .le 0, .co [1, 1, 1]] [(0, .int .u64 (n_1.toNat : Int)), (1, .int .i64 w_), (6, .int .i64 i), (12, .slice A_1_58 b.length c_2_58), (15, .int .u8 (IntKind.u8.wrap (Int.tmod (n_1.toNat : Int) 256)))] (by kernel_rfl) ?_
      rw [q64_rem n_1 (256 : UInt64) (n_1.toNat : Int) 256 (by rfl) (by rfl)]
      rw [q8_u64 (n_1 % (256 : UInt64))]
      replace H : St w noF m m [rowI rU8 5 A_1_58 c_2_58 b] wl57 := H
      refine st (newS (some 16) (fun g => .slice (some ⟨g, 0, none⟩) 1 1) [.int .u8 (((n_1 % (256 : UInt64)).toUInt8).toNat : Int)] 5 H (by kernel_rfl) ?_)
      intro g60 w60 H
      obtain ⟨b1, h_b1, hb_57⟩ := bindE hb_57
      refine st (appS (r := rU8) (some 17) 29 5 1 (.int .u8 0) 29 1 A_1_58 (some ⟨g60, 0, none⟩) c_2_58 1 1 b [(n_1 % (256 : UInt64)).toUInt8] b1 _ H rfl ⟨Try.underlying29, by kernel_rfl⟩ rfl (by decide) (by kernel_rfl) (Cs.of_blk (H.blk 0 rfl)) (Rows.u8.2 rfl) rfl h_b1 (by decide) (by decide) ?_)
      intro A61 c61 w61 H
      replace H := H.drop 0 rfl
      refine seg 13 [.le 1, .bl 0, .le 0, .co [1, 1, 1]] [(0, .int .u64 (IntKind.u64.wrap (Int.tdiv (n_1.toNat : Int) 256))), (1, .int .i64 w_), (5, .slice A61 b1.length c61), (6, .int .i64 (IntKind.i64.wrap (i + 1)))] (by kernel_rfl) ?_
      rw [q64_quo n_1 (256 : UInt64) (n_1.toNat : Int) 256 (by rfl) (by rfl)]
      refine leR (nk57, (n_1 / (256 : UInt64)), b1, (IntKind.i64.wrap (i + 1)), A61, c61) (Nat.lt_succ_self _) ⟨hnx57 _ (Option.some.inj hb_57).symm, H⟩ (by kernel_rfl)
    · rw [hb59]
      have p59 := of_decide_eq_false hb59
      refine seg 2 [.le 0, .co [1, 1, 1]] [(5, .slice A_1_58 b.length c_2_58)] (by kernel_rfl) ?_
      refine leR_up (k' := []) (by rfl) ?_
      refine leJ (b, A_1_58, c_2_58) ⟨(hfin57 _ (Option.some.inj hb_57).symm).symm, H⟩ (by kernel_rfl)
  rintro ⟨b, A_1_44, c_2_44⟩ wj43 ⟨hy43, H⟩
  try dsimp only at hy43
  try dsimp only at H
  rw [hy43] at hf
  refine seg 5 [.co [1, 1, 1, 1]] [(4, .slice A_1_44 b.length c_2_44)] (by kernel_rfl) ?_
  refine retR [4] [.slice A_1_44 b.length c_2_44] (by kernel_rfl) (by kernel_rfl) (by kernel_rfl) ?_
  have hret := (Option.some.inj hf)
  subst hret
  exact ⟨_, rfl, A_1_44, c_2_44, m, rfl, H⟩
theorem ref17_IdBytes_c {m : Mem} {w : World} (hm : Has m w) (l_ : (List Int)) (A0_0 : Option Addr) (c0_0 : Nat) (s0_0 : SlI rI64 m A0_0 c0_0 l_) {r : (List UInt8)} (hf : ref17_IdBytes l_ = some r) :
    Calls Try.prog 17 #[.slice A0_0 l_.length c0_0] w fun e w' => ∃ v, e = .returned v ∧ ∃ Az_0 : Option Addr, ∃ cz_0 : Nat, ∃ m' : Mem, v = .slice Az_0 r.length cz_0 ∧ St w noF m m' [rowI rU8 5 Az_0 cz_0 r] w' := by
  unfold ref17_IdBytes at hf
  have H := St.start0 hm
  refine callsR Try.func17 (by kernel_rfl) (by kernel_rfl) ?_
  refine seg 13 [.co [1, 1, 0, 1], .co [1, 1, 1]] [(0, .slice A0_0 l_.length c0_0), (3, .slice none 0 0), (4, .int .i64 0)] (by kernel_rfl) ?_
  obtain ⟨y57, hp57, hf⟩ := bindE hf
  refine joinR 0 (fun (x : (List UInt8) × Option Addr × Nat × Mem) => [(3, .slice (x.2.1) x.1.length (x.2.2.1))]) (fun (x : (List UInt8) × Option Addr × Nat × Mem) (wj57 : World) => y57 = x.1 ∧ St w noF m x.2.2.2 [rowI rU8 5 (x.2.1) (x.2.2.1) x.1] wj57 ∧ Sub m x.2.2.2) (by kernel_rfl) ?_ ?_
  · refine seg 1 [.co [1, 1, 0, 1, 0], .bl 0, .le 0, .co [1, 1, 1]] [(0, .slice A0_0 l_.length c0_0), (3, .slice none 0 0), (4, .int .i64 0)] (by kernel_rfl) ?_
    have H := H.nilR rU8 5
    obtain ⟨nn74, hR74⟩ := loopO_iff.1 hp57
    refine loopR 1 (fun (x : Nat × (List UInt8) × Nat × Option Addr × Nat × Mem) => [(0, .slice A0_0 l_.length c0_0), (3, .slice (x.2.2.2.1) x.2.1.length (x.2.2.2.2.1)), (4, .int .i64 (x.2.2.1 : Int))]) (fun (x : Nat × (List UInt8) × Nat × Option Addr × Nat × Mem) (wl74 : World) => iter (fun s => ref17_IdBytes_l1 l_ s.1 s.2) x.1 (x.2.1, x.2.2.1) = some y57 ∧ St w noF m x.2.2.2.2.2 [rowI rU8 5 (x.2.2.2.1) (x.2.2.2.2.1) x.2.1] wl74 ∧ Sub m x.2.2.2.2.2) (fun (x : Nat × (List UInt8) × Nat × Option Addr × Nat × Mem) => x.1) (nn74, [], 0, none, 0, m) (by kernel_rfl) (by kernel_rfl) (by kernel_rfl) ?_ ?_
    · exact ⟨hR74, H, (Sub.refl _)⟩
    rintro ⟨n74, b, i, A_1_75, c_2_75, mm75⟩ wl74 ⟨hR74, H, hsub75⟩
    try dsimp only at hR74
    try dsimp only at H
    try dsimp only at hsub75
    obtain ⟨nk74, q74, rfl, hb_74, hnx74, hfin74⟩ := iterE hR74
    replace hb_74 : ref17_IdBytes_l1 l_ b i = some q74 := hb_74
    unfold ref17_IdBytes_l1 at hb_74
    refine seg 8 [.co [1, 1, 0, 1, 0, 0, 0, 1], .co [1, 1, 0, 1, 0, 0, 1], .le 1, .bl 0, .le 0, .co [1, 1, 1]] [(0, .slice A0_0 l_.length c0_0), (3, .slice A_1_75 b.length c_2_75), (4, .int .i64 (i : Int)), (8, .bool (decide ((i : Int) < (l_.length : Int))))] (by kernel_rfl) ?_
    rcases condT hb_74 with ⟨hb76, hb_74⟩ | ⟨hb76, hb_74⟩
    · rw [hb76]
      have p76 := of_decide_eq_true hb76
      refine seg 8 [.op [1, 1, 0, 1, 0, 0, 1, 0, 0] 3, .bl 1, .co [1, 1, 0, 1, 0, 0, 1, 1], .le 1, .bl 0, .le 0, .co [1, 1, 1]] [(0, .slice A0_0 l_.length c0_0), (4, .int .i64 (i : Int)), (11, .slice A_1_75 b.length c_2_75), (12, .slice A0_0 l_.length c0_0), (13, .int .i64 (i : Int))] (by kernel_rfl) ?_
      replace H : St w noF m mm75 [rowI rU8 5 A_1_75 c_2_75 b] wl74 := H
      obtain ⟨x_, h_x_, hb_74⟩ := bindE hb_74
      obtain ⟨ad78, _, ea78, rfl, hc78⟩ := (s0_0.mono hsub75).at_ h_x_ (by decide)
      refine st (idxS (some 14) 22 3 1 A0_0 ad78 l_.length c0_0 .i64 (i : Int) ea78 (by kernel_rfl) (by kernel_rfl) (by omega) (by have := (List.getElem?_eq_some_iff.1 h_x_).1; omega) ?_)
      refine st (ldR (some 15) 3 (ad78.add (i * 1)) (.int .i64 x_) (by kernel_rfl) (by kernel_rfl) (H.cellI (mc0 (hc78 0 _ rfl))) ?_)
      refine seg 1 [.op [1, 1, 0, 1, 0, 0, 1, 0, 0] 6, .bl 1, .co [1, 1, 0, 1, 0, 0, 1, 1], .le 1, .bl 0, .le 0, .co [1, 1, 1]] [(0, .slice A0_0 l_.length c0_0), (4, .int .i64 (i : Int)), (11, .slice A_1_75 b.length c_2_75), (16, .int .u64 (IntKind.u64.wrap x_))] (by kernel_rfl) ?_
      rw [q64_wrap x_]
      obtain ⟨store, h_store, hb_74⟩ := bindE hb_74
      refine st (callR (some 17) 39 #[.int .u64 ((UInt64.ofInt x_).toNat : Int), .int .i64 4] Try.call39 (ref01_Store_c H.has (UInt64.ofInt x_) 4 h_store) (by kernel_rfl) ?_)
      rintro _ w79 ⟨A79_0, c79_0, mk79, rfl, hS79⟩
      have hsub79 := hS79.sub
      replace H := H.call0 hS79
      obtain ⟨xs80, hr80, hx80⟩ := H.rowCs' 0 rfl
      obtain ⟨b1, h_b1, hb_74⟩ := bindE hb_74
      refine st (appS (r := rU8) (some 18) 29 5 1 (.int .u8 0) 29 1 A_1_75 A79_0 c_2_75 store.length c79_0 b store b1 _ H rfl ⟨Try.underlying29, by kernel_rfl⟩ rfl (by decide) (by kernel_rfl) hx80 hr80 rfl h_b1 (by decide) (by decide) ?_)
      intro A81 c81 w81 H
      refine seg 8 [.le 1, .bl 0, .le 0, .co [1, 1, 1]] [(0, .slice A0_0 l_.length c0_0), (3, .slice A81 b1.length c81), (4, .int .i64 (IntKind.i64.wrap ((i : Int) + 1)))] (by kernel_rfl) ?_
      have := s0_0.bound
      rw [show IntKind.i64.wrap ((i : Int) + 1) = ((i : Int) + 1) from w64 (by omega)]
      refine leR (nk74, b1, (i + 1), A81, c81, mk79) (Nat.lt_succ_self _) ⟨hnx74 _ (Option.some.inj hb_74).symm, (St.takeN 1 (H.pull 1 rfl)), (hsub75.trans hsub79)⟩ (by kernel_rfl)
    · rw [hb76]
      have p76 := of_decide_eq_false hb76
      refine seg 2 [.le 0, .co [1, 1, 1]] [(3, .slice A_1_75 b.length c_2_75)] (by kernel_rfl) ?_
      refine leR_up (k' := []) (by rfl) ?_
      refine leJ (b, A_1_75, c_2_75, mm75) ⟨(hfin74 _ (Option.some.inj hb_74).symm).symm, H, hsub75⟩ (by kernel_rfl)
  rintro ⟨b, A_1_58, c_2_58, mm58⟩ wj57 ⟨hy57, H, hsub58⟩
  try dsimp only at hy57
  try dsimp only at H
  try dsimp only at hsub58
  rw [hy57] at hf
  refine seg 5 [.co [1, 1, 1, 1]] [(2, .slice A_1_58 b.length c_2_58)] (by kernel_rfl) ?_
  refine retR [2] [.slice A_1_58 b.length c_2_58] (by kernel_rfl) (by kernel_rfl) (by kernel_rfl) ?_
  have hret := (Option.some.inj hf)
  subst hret
  exact ⟨_, rfl, A_1_58, c_2_58, mm58, rfl, H⟩
theorem ref01_Load_c {m : Mem} {w : World} (hm : Has m w) (b : (List UInt8)) (A0_0 : Option Addr) (c0_0 : Nat) (s0_0 : SlI rU8 m A0_0 c0_0 b) (at_ : Int) (w_ : Int) {r : UInt64} (hf : ref01_Load b at_ w_ = some r) :
    Calls Try.prog 40 #[.slice A0_0 b.length c0_0, .int .i64 at_, .int .i64 w_] w fun e w' => ∃ v, e = .returned v ∧ v = .int .u64 (r.toNat : Int) ∧ Ex w w' := by
  unfold ref01_Load at hf
  have H := St.start0 hm
  refine callsR Try.func40 (by kernel_rfl) (by kernel_rfl) ?_
  refine seg 15 [.co [1, 1, 0, 1], .co [1, 1, 1]] [(0, .slice A0_0 b.length c0_0), (1, .int .i64 at_), (7, .int .u64 0), (8, .int .i64 (IntKind.i64.wrap (w_ - 1)))] (by kernel_rfl) ?_
  obtain ⟨y33, hp33, hf⟩ := bindE hf
  refine joinR 0 (fun (x : UInt64) => [(7, .int .u64 (x.toNat : Int))]) (fun (x : UInt64) (wj33 : World) => y33 = x ∧ St w noF m m [] wj33) (by kernel_rfl) ?_ ?_
  · refine seg 1 [.co [1, 1, 0, 1, 0], .bl 0, .le 0, .co [1, 1, 1]] [(0, .slice A0_0 b.length c0_0), (1, .int .i64 at_), (7, .int .u64 0), (8, .int .i64 (IntKind.i64.wrap (w_ - 1)))] (by kernel_rfl) ?_
    obtain ⟨nn43, hR43⟩ := loopO_iff.1 hp33
    refine loopR 1 (fun (x : Nat × UInt64 × Int) => [(0, .slice A0_0 b.length c0_0), (1, .int .i64 at_), (7, .int .u64 (x.2.1.toNat : Int)), (8, .int .i64 x.2.2)]) (fun (x : Nat × UInt64 × Int) (wl43 : World) => iter (fun s => ref01_Load_l1 b at_ s.1 s.2) x.1 (x.2.1, x.2.2) = some y33 ∧ St w noF m m [] wl43) (fun (x : Nat × UInt64 × Int) => x.1) (nn43, (0 : UInt64), (IntKind.i64.wrap (w_ - 1))) (by kernel_rfl) (by kernel_rfl) (by kernel_rfl) ?_ ?_
    · exact ⟨hR43, H⟩
    rintro ⟨n43, n_, i⟩ wl43 ⟨hR43, H⟩
    try dsimp only at hR43
    try dsimp only at H
    obtain ⟨nk43, q43, rfl, hb_43, hnx43, hfin43⟩ := iterE hR43
    replace hb_43 : ref01_Load_l1 b at_ n_ i = some q43 := hb_43
    unfold ref01_Load_l1 at hb_43
    refine seg 6 [.co [1, 1, 0, 1, 0, 0, 0, 1], .co [1, 1, 0, 1, 0, 0, 1], .le 1, .bl 0, .le 0, .co [1, 1, 1]] [(0, .slice A0_0 b.length c0_0), (1, .int .i64 at_), (7, .int .u64 (n_.toNat : Int)), (8, .int .i64 i), (12, .bool (decide (i ≥ 0)))] (by kernel_rfl) ?_
    rcases condT hb_43 with ⟨hb45, hb_43⟩ | ⟨hb45, hb_43⟩
    · rw [hb45]
      have p45 := of_decide_eq_true hb45
      refine seg 11 [.op [1, 1, 0, 1, 0, 0, 1, 0, 0] 6, .bl 1, .co [1, 1, 0, 1, 0, 0, 1, 1], .le 1, .bl 0, .le 0, .co [1, 1, 1]] [(0, .slice A0_0 b.length c0_0), (1, .int .i64 at_), (8, .int .i64 i), (16, .int .u64 (IntKind.u64.wrap ((n_.toNat : Int) * 256))), (17, .slice A0_0 b.length c0_0), (20, .int .i64 (IntKind.i64.wrap (at_ + i)))] (by kernel_rfl) ?_
      rw [q64_mul n_ (256 : UInt64) (n_.toNat : Int) 256 (by rfl) (by rfl)]
      obtain ⟨x_, h_x_, hb_43⟩ := bindE hb_43
      obtain ⟨i046, i146, ix46⟩ := idx_some h_x_
      obtain ⟨ad47, _, ea47, rfl, hc47⟩ := s0_0.at_ ix46 (by decide)
      refine st (idxS (some 21) 29 5 1 A0_0 ad47 b.length c0_0 .i64 (IntKind.i64.wrap (at_ + i)) ea47 (by kernel_rfl) (by kernel_rfl) i046 i146 ?_)
      refine st (ldR (some 22) 5 (ad47.add ((IntKind.i64.wrap (at_ + i)).toNat * 1)) (.int .u8 (x_.toNat : Int)) (by kernel_rfl) (by kernel_rfl) (H.cellI (mc0 (hc47 0 _ rfl))) ?_)
      refine seg 10 [.le 1, .bl 0, .le 0, .co [1, 1, 1]] [(0, .slice A0_0 b.length c0_0), (1, .int .i64 at_), (7, .int .u64 (IntKind.u64.wrap (((n_ * (256 : UInt64)).toNat : Int) + (IntKind.u64.wrap (x_.toNat : Int))))), (8, .int .i64 (IntKind.i64.wrap (i - 1)))] (by kernel_rfl) ?_
      rw [q64_u8 x_]
      rw [q64_add (n_ * (256 : UInt64)) x_.toUInt64 ((n_ * (256 : UInt64)).toNat : Int) (x_.toUInt64.toNat : Int) (by rfl) (by rfl)]
      refine leR (nk43, ((n_ * (256 : UInt64)) + x_.toUInt64), (IntKind.i64.wrap (i - 1))) (Nat.lt_succ_self _) ⟨hnx43 _ (Option.some.inj hb_43).symm, H⟩ (by kernel_rfl)
    · rw [hb45]
      have p45 := of_decide_eq_false hb45
      refine seg 2 [.le 0, .co [1, 1, 1]] [(7, .int .u64 (n_.toNat : Int))] (by kernel_rfl) ?_
      refine leR_up (k' := []) (by rfl) ?_
      refine leJ (n_) ⟨(hfin43 _ (Option.some.inj hb_43).symm).symm, H⟩ (by kernel_rfl)
  rintro n_ wj33 ⟨hy33, H⟩
  rw [hy33] at hf
  refine seg 5 [.co [1, 1, 1, 1]] [(6, .int .u64 (n_.toNat : Int))] (by kernel_rfl) ?_
  refine retR [6] [.int .u64 (n_.toNat : Int)] (by kernel_rfl) (by kernel_rfl) (by kernel_rfl) ?_
  have hret := (Option.some.inj hf)
  subst hret
  exact ⟨_, rfl, rfl, H.scalar⟩
theorem ref17_DecodeIds_c {m : Mem} {w : World} (hm : Has m w) (b : (List UInt8)) (A0_0 : Option Addr) (c0_0 : Nat) (s0_0 : SlI rU8 m A0_0 c0_0 b) {r : ((List Int) × Int)} (hf : ref17_DecodeIds b = some r) :
    Calls Try.prog 18 #[.slice A0_0 b.length c0_0] w fun e w' => ∃ v, e = .returned v ∧ ∃ Az_0 : Option Addr, ∃ cz_0 : Nat, ∃ m' : Mem, v = .tuple #[.slice Az_0 r.1.length cz_0, .int .i64 r.2] ∧ St w noF m m' [rowI rI64 3 Az_0 cz_0 r.1] w' := by
  unfold ref17_DecodeIds at hf
  have H := St.start0 hm
  refine callsR Try.func18 (by kernel_rfl) (by kernel_rfl) ?_
  refine seg 14 [.co [1, 1, 0, 1], .co [1, 1, 1]] [(0, .slice A0_0 b.length c0_0), (4, .slice none 0 0), (5, .int .i64 0)] (by kernel_rfl) ?_
  obtain ⟨y54, hp54, hf⟩ := bindE hf
  refine joinR 0 (fun (x : (List Int) × Option Addr × Nat) => [(0, .slice A0_0 b.length c0_0), (4, .slice (x.2.1) x.1.length (x.2.2))]) (fun (x : (List Int) × Option Addr × Nat) (wj54 : World) => y54 = x.1 ∧ St w noF m m [rowI rI64 3 (x.2.1) (x.2.2) x.1] wj54) (by kernel_rfl) ?_ ?_
  · refine seg 1 [.co [1, 1, 0, 1, 0], .bl 0, .le 0, .co [1, 1, 1]] [(0, .slice A0_0 b.length c0_0), (4, .slice none 0 0), (5, .int .i64 0)] (by kernel_rfl) ?_
    have H := H.nilR rI64 3
    obtain ⟨nn72, hR72⟩ := loopO_iff.1 hp54
    refine loopR 1 (fun (x : Nat × (List Int) × Int × Option Addr × Nat) => [(0, .slice A0_0 b.length c0_0), (4, .slice (x.2.2.2.1) x.2.1.length (x.2.2.2.2)), (5, .int .i64 x.2.2.1)]) (fun (x : Nat × (List Int) × Int × Option Addr × Nat) (wl72 : World) => iter (fun s => ref17_DecodeIds_l1 b s.1 s.2) x.1 (x.2.1, x.2.2.1) = some y54 ∧ St w noF m m [rowI rI64 3 (x.2.2.2.1) (x.2.2.2.2) x.2.1] wl72) (fun (x : Nat × (List Int) × Int × Option Addr × Nat) => x.1) (nn72, [], 0, none, 0) (by kernel_rfl) (by kernel_rfl) (by kernel_rfl) ?_ ?_
    · exact ⟨hR72, H⟩
    rintro ⟨n72, l_, i, A_1_73, c_2_73⟩ wl72 ⟨hR72, H⟩
    try dsimp only at hR72
    try dsimp only at H
    obtain ⟨nk72, q72, rfl, hb_72, hnx72, hfin72⟩ := iterE hR72
    replace hb_72 : ref17_DecodeIds_l1 b l_ i = some q72 := hb_72
    unfold ref17_DecodeIds_l1 at hb_72
    refine seg 9 [.co [1, 1, 0, 1, 0, 0, 0, 1], .co [1, 1, 0, 1, 0, 0, 1], .le 1, .bl 0, .le 0, .co [1, 1, 1]] [(0, .slice A0_0 b.length c0_0), (4, .slice A_1_73 l_.length c_2_73), (5, .int .i64 i), (10, .bool (decide ((IntKind.i64.wrap (i + 4)) ≤ (b.length : Int))))] (by kernel_rfl) ?_
    rcases condT hb_72 with ⟨hb74, hb_72⟩ | ⟨hb74, hb_72⟩
    · rw [hb74]
      have p74 := of_decide_eq_true hb74
      refine seg 8 [.op [1, 1, 0, 1, 0, 0, 1, 0, 0] 3, .bl 1, .co [1, 1, 0, 1, 0, 0, 1, 1], .le 1, .bl 0, .le 0, .co [1, 1, 1]] [(0, .slice A0_0 b.length c0_0), (5, .int .i64 i), (13, .slice A_1_73 l_.length c_2_73), (14, .slice A0_0 b.length c0_0), (15, .int .i64 i)] (by kernel_rfl) ?_
      obtain ⟨load, h_load, hb_72⟩ := bindE hb_72
      refine st (callR (some 16) 40 #[.slice A0_0 b.length c0_0, .int .i64 i, .int .i64 4] Try.call40 (ref01_Load_c H.has b A0_0 c0_0 s0_0 i 4 h_load) (by kernel_rfl) ?_)
      rintro _ w75 ⟨rfl, hx75⟩
      replace H := H.ex hx75
      refine seg 1 [.op [1, 1, 0, 1, 0, 0, 1, 0, 0] 5, .bl 1, .co [1, 1, 0, 1, 0, 0, 1, 1], .le 1, .bl 0, .le 0, .co [1, 1, 1]] [(0, .slice A0_0 b.length c0_0), (5, .int .i64 i), (13, .slice A_1_73 l_.length c_2_73), (17, .int .i64 (IntKind.i64.wrap (load.toNat : Int)))] (by kernel_rfl) ?_
      refine st (newS (some 18) (fun g => .slice (some ⟨g, 0, none⟩) 1 1) [.int .i64 (IntKind.i64.wrap (load.toNat : Int))] 3 H (by kernel_rfl) ?_)
      intro g76 w76 H
      replace H : St w noF m m [blkI g76 [.int .i64 (IntKind.i64.wrap (load.toNat : Int))] 3, rowI rI64 3 A_1_73 c_2_73 l_] w76 := H
      obtain ⟨b1, h_b1, hb_72⟩ := bindE hb_72
      refine st (appS (r := rI64) (some 19) 22 3 8 (.int .i64 0) 22 1 A_1_73 (some ⟨g76, 0, none⟩) c_2_73 1 1 l_ [(IntKind.i64.wrap (load.toNat : Int))] b1 _ H rfl ⟨Try.underlying22, by kernel_rfl⟩ rfl (by decide) (by kernel_rfl) (Cs.of_blk (H.blk 0 rfl)) (Rows.cons (cs := [.int .i64 (IntKind.i64.wrap (load.toNat : Int))]) rfl Rows.nil) rfl h_b1 (by decide) (by decide) ?_)
      intro A77 c77 w77 H
      replace H := H.drop 0 rfl
      refine seg 8 [.le 1, .bl 0, .le 0, .co [1, 1, 1]] [(0, .slice A0_0 b.length c0_0), (4, .slice A77 b1.length c77), (5, .int .i64 (IntKind.i64.wrap (i + 4)))] (by kernel_rfl) ?_
      refine leR (nk72, b1, (IntKind.i64.wrap (i + 4)), A77, c77) (Nat.lt_succ_self _) ⟨hnx72 _ (Option.some.inj hb_72).symm, H⟩ (by kernel_rfl)
    · rw [hb74]
      have p74 := of_decide_eq_false hb74
      refine seg 2 [.le 0, .co [1, 1, 1]] [(0, .slice A0_0 b.length c0_0), (4, .slice A_1_73 l_.length c_2_73)] (by kernel_rfl) ?_
      refine leR_up (k' := []) (by rfl) ?_
      refine leJ (l_, A_1_73, c_2_73) ⟨(hfin72 _ (Option.some.inj hb_72).symm).symm, H⟩ (by kernel_rfl)
  rintro ⟨l_, A_1_55, c_2_55⟩ wj54 ⟨hy54, H⟩
  try dsimp only at hy54
  try dsimp only at H
  rw [hy54] at hf
  refine seg 8 [.op [1, 1, 1, 0, 0] 5, .co [1, 1, 1, 0, 1], .co [1, 1, 1, 1]] [(4, .slice A_1_55 l_.length c_2_55), (24, .bool ((Int.tmod (b.length : Int) 4) != 0))] (by kernel_rfl) ?_
  rcases condT hf with ⟨hb82, hf⟩ | ⟨hb82, hf⟩
  · rw [hb82]
    refine seg 11 [.co [1, 1, 1, 0, 1, 0, 1], .co [1, 1, 1, 1]] [(2, .slice none 0 0), (3, .int .i64 6)] (by kernel_rfl) ?_
    have H := H.nilR rI64 3
    refine retR [2, 3] [.slice none 0 0, .int .i64 6] (by kernel_rfl) (by kernel_rfl) (by kernel_rfl) ?_
    obtain rfl : ([], 6) = r := (Option.some.inj hf)
    exact ⟨_, rfl, none, 0, m, rfl, (St.takeN 1 H)⟩
  · rw [hb82]
    refine seg 1 [.op [1, 1, 1, 0, 0] 6, .co [1, 1, 1, 0, 1], .co [1, 1, 1, 1]] [(4, .slice A_1_55 l_.length c_2_55), (24, .bool false), (25, .slice A_1_55 l_.length c_2_55)] (by kernel_rfl) ?_
    have H0_83 := H
    obtain ⟨mf84, hsub84, hsf84, H⟩ := H.fixR 0 rfl
    obtain ⟨rightI, h_rightI, hf⟩ := bindE hf
    refine st (callR (some 26) 14 #[.slice A_1_55 l_.length c_2_55] Try.call14 (ref17_RightIds_c H.has l_ A_1_55 c_2_55 hsf84 h_rightI) (by kernel_rfl) ?_)
    rintro _ w85 ⟨rfl, hx85⟩
    replace H := H0_83.ex hx85
    refine seg 3 [.co [1, 1, 1, 0, 1], .co [1, 1, 1, 1]] [(4, .slice A_1_55 l_.length c_2_55), (28, .bool (!rightI))] (by kernel_rfl) ?_
    rcases condT hf with ⟨hb87, hf⟩ | ⟨hb87, hf⟩
    · rw [hb87]
      refine seg 8 [.co [1, 1, 1, 1, 1]] [(2, .slice A_1_55 l_.length c_2_55), (3, .int .i64 0)] (by kernel_rfl) ?_
      refine retR [2, 3] [.slice A_1_55 l_.length c_2_55, .int .i64 0] (by kernel_rfl) (by kernel_rfl) (by kernel_rfl) ?_
      obtain rfl : (l_, 0) = r := (Option.some.inj hf)
      exact ⟨_, rfl, A_1_55, c_2_55, m, rfl, H⟩
    · rw [hb87]
      refine seg 6 [.co [1, 1, 1, 0, 1, 0, 1], .co [1, 1, 1, 1]] [(2, .slice none 0 0), (3, .int .i64 6)] (by kernel_rfl) ?_
      have H := H.nilR rI64 3
      refine retR [2, 3] [.slice none 0 0, .int .i64 6] (by kernel_rfl) (by kernel_rfl) (by kernel_rfl) ?_
      obtain rfl : ([], 6) = r := (Option.some.inj hf)
      exact ⟨_, rfl, none, 0, m, rfl, (St.takeN 1 H)⟩
theorem law17_TableIdBytes_c {m : Mem} {w : World} (hm : Has m w) (l_ : (List Int)) (A0_0 : Option Addr) (c0_0 : Nat) (s0_0 : SlI rI64 m A0_0 c0_0 l_) (b : (List UInt8)) (A1_0 : Option Addr) (c1_0 : Nat) (s1_0 : SlI rU8 m A1_0 c1_0 b) {r : Bool} (hf : law17_TableIdBytes l_ b = some r) :
    Calls Try.prog 4 #[.slice A0_0 l_.length c0_0, .slice A1_0 b.length c1_0] w fun e w' => ∃ v, e = .returned v ∧ v = .bool r ∧ Ex w w' := by
  unfold law17_TableIdBytes at hf
  have H := St.start0 hm
  refine callsR Try.func4 (by kernel_rfl) (by kernel_rfl) ?_
  refine seg 11 [.op [1, 0, 0] 4, .co [1, 0, 1], .co [1, 1]] [(0, .slice A0_0 l_.length c0_0), (1, .slice A1_0 b.length c1_0), (16, .bool (decide ((l_.length : Int) > 1000)))] (by kernel_rfl) ?_
  rcases condT hf with ⟨hb4, hf⟩ | ⟨hb4, hf⟩
  · rw [hb4]
    have p4 := of_decide_eq_true hb4
    refine seg 5 [.op [1, 0, 0] 9, .co [1, 0, 1], .co [1, 1]] [(0, .slice A0_0 l_.length c0_0), (1, .slice A1_0 b.length c1_0), (21, .bool (decide ((l_.length : Int) ≤ 65536)))] (by kernel_rfl) ?_
    rcases condT hf with ⟨hb5, hf⟩ | ⟨hb5, hf⟩
    · rw [hb5]
      have p5 := of_decide_eq_true hb5
      refine seg 8 [.op [1, 0, 1, 0, 0] 0, .co [1, 0, 1, 0, 1], .co [1, 1]] [] (by kernel_rfl) ?_
      obtain ⟨live, h_live, hf⟩ := bindE hf
      refine st (callR (some 26) 8 #[] Try.call8 (law17_live_c H.has  h_live) (by kernel_rfl) ?_)
      rintro _ w6 ⟨rfl, hx6⟩
      replace H := H.ex hx6
      refine seg 2 [.co [1, 0, 1, 0, 1], .co [1, 1]] [(4, .bool live)] (by kernel_rfl) ?_
      refine retR [4] [.bool live] (by kernel_rfl) (by kernel_rfl) (by kernel_rfl) ?_
      have hret := (Option.some.inj hf)
      subst hret
      exact ⟨_, rfl, rfl, H.scalar⟩
    · rw [hb5]
      have p5 := of_decide_eq_false hb5
      refine seg 5 [.co [1, 0, 1], .co [1, 1]] [(0, .slice A0_0 l_.length c0_0), (1, .slice A1_0 b.length c1_0), (25, .bool (decide ((b.length : Int) > 3000)))] (by kernel_rfl) ?_
      rcases condT hf with ⟨hb10, hf⟩ | ⟨hb10, hf⟩
      · rw [hb10]
        have p10 := of_decide_eq_true hb10
        refine seg 3 [.op [1, 0, 1, 0, 0] 0, .co [1, 0, 1, 0, 1], .co [1, 1]] [] (by kernel_rfl) ?_
        obtain ⟨live1, h_live1, hf⟩ := bindE hf
        refine st (callR (some 26) 8 #[] Try.call8 (law17_live_c H.has  h_live1) (by kernel_rfl) ?_)
        rintro _ w11 ⟨rfl, hx11⟩
        replace H := H.ex hx11
        refine seg 2 [.co [1, 0, 1, 0, 1], .co [1, 1]] [(4, .bool live1)] (by kernel_rfl) ?_
        refine retR [4] [.bool live1] (by kernel_rfl) (by kernel_rfl) (by kernel_rfl) ?_
        have hret := (Option.some.inj hf)
        subst hret
        exact ⟨_, rfl, rfl, H.scalar⟩
      · rw [hb10]
        have p10 := of_decide_eq_false hb10
        refine seg 5 [.op [1, 1, 0] 1, .co [1, 1, 1]] [(0, .slice A0_0 l_.length c0_0), (1, .slice A1_0 b.length c1_0), (28, .slice A0_0 l_.length c0_0)] (by kernel_rfl) ?_
        replace H : St w noF m m [] w := H
        obtain ⟨encode, h_encode, hf⟩ := bindE hf
        refine st (callR (some 29) 13 #[.slice A0_0 l_.length c0_0] Try.call13 (table_EncodeIds_c H.has l_ A0_0 c0_0 s0_0 h_encode) (by kernel_rfl) ?_)
        rintro _ w12 ⟨A12_0, c12_0, mk12, rfl, hS12⟩
        have hsub12 := hS12.sub
        replace H := H.call0 hS12
        refine seg 10 [.op [1, 1, 1, 0, 0] 1, .co [1, 1, 1, 0, 1], .co [1, 1, 1, 1]] [(0, .slice A0_0 l_.length c0_0), (1, .slice A1_0 b.length c1_0), (5, .slice A12_0 encode.1.length c12_0), (6, .int .i64 encode.2), (32, .slice A0_0 l_.length c0_0)] (by kernel_rfl) ?_
        obtain ⟨rightI, h_rightI, hf⟩ := bindE hf
        refine st (callR (some 33) 14 #[.slice A0_0 l_.length c0_0] Try.call14 (ref17_RightIds_c H.has l_ A0_0 c0_0 (s0_0.mono hsub12) h_rightI) (by kernel_rfl) ?_)
        rintro _ w13 ⟨rfl, hx13⟩
        replace H := H.ex hx13
        refine seg 2 [.co [1, 1, 1, 0, 1], .co [1, 1, 1, 1]] [(0, .slice A0_0 l_.length c0_0), (1, .slice A1_0 b.length c1_0), (5, .slice A12_0 encode.1.length c12_0), (6, .int .i64 encode.2), (34, .bool (!rightI))] (by kernel_rfl) ?_
        obtain ⟨y125, hp125, hfl125, hfr125⟩ := bndE hf
        refine joinR 0 (fun (x : Mem) => [(1, .slice A1_0 b.length c1_0)]) (fun (x : Mem) (wj125 : World) => y125 = .inl () ∧ St w noF m x [] wj125 ∧ Sub mk12 x) (by kernel_rfl) ?_ ?_
        · rcases condT hp125 with ⟨hb127, hp125⟩ | ⟨hb127, hp125⟩
          · rw [hb127]
            refine seg 4 [.op [1, 1, 1, 0, 1, 1, 0] 1, .co [1, 1, 1, 0, 1, 1, 1], .le 0, .co [1, 1, 1, 1]] [(0, .slice A0_0 l_.length c0_0), (1, .slice A1_0 b.length c1_0), (5, .slice A12_0 encode.1.length c12_0), (6, .int .i64 encode.2), (44, .slice A12_0 encode.1.length c12_0)] (by kernel_rfl) ?_
            have H0_128 := H
            obtain ⟨mf129, hsub129, hsf129, H⟩ := H.fixR 0 rfl
            obtain ⟨decode, h_decode, hp125⟩ := bindE hp125
            refine st (callR (some 45) 16 #[.slice A12_0 encode.1.length c12_0] Try.call16 (table_DecodeIds_c H.has encode.1 A12_0 c12_0 hsf129 h_decode) (by kernel_rfl) ?_)
            rintro _ w130 ⟨A130_0, c130_0, mk130, rfl, hS130⟩
            replace H := H0_128.callB hS130 ⟨rowI_ind (fun _ _ _ _ h => h), trivial⟩
            refine seg 7 [.co [1, 1, 1, 0, 1, 1, 1, 0], .co [1, 1, 1, 0, 1, 1, 1, 1], .le 0, .co [1, 1, 1, 1]] [(0, .slice A0_0 l_.length c0_0), (1, .slice A1_0 b.length c1_0), (5, .slice A12_0 encode.1.length c12_0), (6, .int .i64 encode.2), (7, .slice A130_0 decode.1.length c130_0), (8, .int .i64 decode.2)] (by kernel_rfl) ?_
            rcases condT hp125 with ⟨hb133, hp125⟩ | ⟨hb133, hp125⟩
            · have hst : statB (bodyOf Try.f4) [1, 1, 1, 0, 1, 1, 1, 0] = true := by kernel_rfl
              refine drawS (Has mk12) H (by kernel_rfl) (by kernel_rfl) ?_
              intro w136 H
              refine segD2 hst [0, 2] [0, 2] [(0, .slice A0_0 l_.length c0_0), (1, .slice A1_0 b.length c1_0), (5, .slice A12_0 encode.1.length c12_0), (7, .slice A130_0 decode.1.length c130_0), (48, .int .i64 encode.2), (50, .int .i64 decode.2)] (by kernel_rfl) ?_
              replace H : St w noF m mk12 [rowI rI64 3 A130_0 c130_0 decode.1, rowI rU8 5 A12_0 c12_0 encode.1] w136 := H
              refine stD2 (i := 1) (by kernel_rfl) H.has (callR (some 49) 15 #[.int .i64 encode.2] Try.call15 (law17_num_c H.has encode.2) (by kernel_rfl) ?_)
              rintro _ w137 ⟨rfl, hx137⟩
              replace H := H.ex hx137
              refine stD2 (i := 3) (by kernel_rfl) H.has (callR (some 51) 15 #[.int .i64 decode.2] Try.call15 (law17_num_c H.has decode.2) (by kernel_rfl) ?_)
              rintro _ w138 ⟨rfl, hx138⟩
              replace H := H.ex hx138
              refine segD2 hst [4] [0, 2, 1, 3, 4] [(0, .slice A0_0 l_.length c0_0), (1, .slice A1_0 b.length c1_0), (5, .slice A12_0 encode.1.length c12_0), (7, .slice A130_0 decode.1.length c130_0), (52, .int .i64 (IntKind.i64.wrap ((law17_num encode.2) + (law17_num decode.2))))] (by kernel_rfl) ?_
              refine segD2 hst [5] [0, 2, 1, 3, 4, 5] [(0, .slice A0_0 l_.length c0_0), (1, .slice A1_0 b.length c1_0), (5, .slice A12_0 encode.1.length c12_0), (7, .slice A130_0 decode.1.length c130_0), (53, .bool ((IntKind.i64.wrap ((law17_num encode.2) + (law17_num decode.2))) != 0))] (by kernel_rfl) ?_
              rw [show ((IntKind.i64.wrap ((law17_num encode.2) + (law17_num decode.2))) != 0) = true from hb133]
              refine segD2 hst [6, 7, 8, 9, 10, 11, 12, 13, 14, 15, 16, 17, 18, 19] [0, 2, 1, 3, 4, 5, 6, 7, 8, 9, 10, 11, 12, 13, 14, 15, 16, 17, 18, 19] [(1, .slice A1_0 b.length c1_0), (67, .bool true)] (by kernel_rfl) ?_
              refine endD2 (by kernel_rfl) H.has ?_
              refine seg 5 [.co [1, 1, 1, 0, 1, 1, 1, 1, 0, 1], .le 0, .co [1, 1, 1, 1]] [(4, .bool false)] (by kernel_rfl) ?_
              refine retR [4] [.bool false] (by kernel_rfl) (by kernel_rfl) (by kernel_rfl) ?_
              have hret := (hfr125 _ (Option.some.inj hp125).symm)
              subst hret
              exact ⟨_, rfl, rfl, H.scalar⟩
            · obtain ⟨idByte, h_idByte, hp125⟩ := bindE hp125
              rcases condT hp125 with ⟨hb144, hp125⟩ | ⟨hb144, hp125⟩
              · have hst : statB (bodyOf Try.f4) [1, 1, 1, 0, 1, 1, 1, 0] = true := by kernel_rfl
                refine drawS (Has mk12) H (by kernel_rfl) (by kernel_rfl) ?_
                intro w150 H
                refine segD2 hst [0, 2] [0, 2] [(0, .slice A0_0 l_.length c0_0), (1, .slice A1_0 b.length c1_0), (5, .slice A12_0 encode.1.length c12_0), (7, .slice A130_0 decode.1.length c130_0), (48, .int .i64 encode.2), (50, .int .i64 decode.2)] (by kernel_rfl) ?_
                replace H : St w noF m mk12 [rowI rI64 3 A130_0 c130_0 decode.1, rowI rU8 5 A12_0 c12_0 encode.1] w150 := H
                refine stD2 (i := 1) (by kernel_rfl) H.has (callR (some 49) 15 #[.int .i64 encode.2] Try.call15 (law17_num_c H.has encode.2) (by kernel_rfl) ?_)
                rintro _ w151 ⟨rfl, hx151⟩
                replace H := H.ex hx151
                refine stD2 (i := 3) (by kernel_rfl) H.has (callR (some 51) 15 #[.int .i64 decode.2] Try.call15 (law17_num_c H.has decode.2) (by kernel_rfl) ?_)
                rintro _ w152 ⟨rfl, hx152⟩
                replace H := H.ex hx152
                refine segD2 hst [4] [0, 2, 1, 3, 4] [(0, .slice A0_0 l_.length c0_0), (1, .slice A1_0 b.length c1_0), (5, .slice A12_0 encode.1.length c12_0), (7, .slice A130_0 decode.1.length c130_0), (52, .int .i64 (IntKind.i64.wrap ((law17_num encode.2) + (law17_num decode.2))))] (by kernel_rfl) ?_
                refine segD2 hst [5] [0, 2, 1, 3, 4, 5] [(0, .slice A0_0 l_.length c0_0), (1, .slice A1_0 b.length c1_0), (5, .slice A12_0 encode.1.length c12_0), (7, .slice A130_0 decode.1.length c130_0), (53, .bool ((IntKind.i64.wrap ((law17_num encode.2) + (law17_num decode.2))) != 0))] (by kernel_rfl) ?_
                rw [show ((IntKind.i64.wrap ((law17_num encode.2) + (law17_num decode.2))) != 0) = false from hb133]
                refine segD2 hst [6, 7, 9] [0, 2, 1, 3, 4, 5, 6, 7, 9] [(0, .slice A0_0 l_.length c0_0), (1, .slice A1_0 b.length c1_0), (7, .slice A130_0 decode.1.length c130_0), (54, .bool false), (55, .slice A12_0 encode.1.length c12_0), (57, .slice A0_0 l_.length c0_0)] (by kernel_rfl) ?_
                refine allD2 [8, 10] (by kernel_rfl) H.has ⟨?_, ?_, trivial⟩
                · refine (b2sS (some 56) 29 9 5 A12_0 c12_0 encode.1 Try.underlying29 Try.underlying5 Try.underlying9 (by kernel_rfl) (H.rowCs 1 rfl) ?_)
                  have hl153 : encode.1.length ≤ 9223372036854775807 := (Nat.le_trans (H.rowCap 1 rfl).1 (H.rowCap 1 rfl).2)
                  refine stD2 (i := 10) (by kernel_rfl) H.has (callR (some 58) 17 #[.slice A0_0 l_.length c0_0] Try.call17 (ref17_IdBytes_c H.has l_ A0_0 c0_0 (s0_0.mono hsub12) h_idByte) (by kernel_rfl) ?_)
                  rintro _ w154 ⟨A154_0, c154_0, mk154, rfl, hS154⟩
                  have hsub154 := hS154.sub
                  replace H := H.call0 hS154
                  refine stD2 (i := 11) (by kernel_rfl) (H.has.sub hsub154) (b2sS (some 59) 29 9 5 A154_0 c154_0 idByte Try.underlying29 Try.underlying5 Try.underlying9 (by kernel_rfl) (H.rowCs 0 rfl) ?_)
                  have hl155 : idByte.length ≤ 9223372036854775807 := (Nat.le_trans (H.rowCap 0 rfl).1 (H.rowCap 0 rfl).2)
                  refine segD2 hst [12] [0, 2, 1, 3, 4, 5, 6, 7, 9, 8, 10, 11, 12] [(0, .slice A0_0 l_.length c0_0), (1, .slice A1_0 b.length c1_0), (7, .slice A130_0 decode.1.length c130_0), (54, .bool false), (60, .bool (!((ByteArray.toList ⟨encode.1.toArray⟩) == (ByteArray.toList ⟨idByte.toArray⟩))))] (by kernel_rfl) ?_
                  rw [sne_raw encode.1 idByte]
                  rw [show (encode.1 != idByte) = true from hb144]
                  refine segD2 hst [13, 14, 15, 16, 17, 18, 19] [0, 2, 1, 3, 4, 5, 6, 7, 9, 8, 10, 11, 12, 13, 14, 15, 16, 17, 18, 19] [(1, .slice A1_0 b.length c1_0), (67, .bool true)] (by kernel_rfl) ?_
                  refine endD2 (by kernel_rfl) (H.has.sub hsub154) ?_
                  refine seg 5 [.co [1, 1, 1, 0, 1, 1, 1, 1, 0, 1], .le 0, .co [1, 1, 1, 1]] [(4, .bool false)] (by kernel_rfl) ?_
                  refine retR [4] [.bool false] (by kernel_rfl) (by kernel_rfl) (by kernel_rfl) ?_
                  have hret := (hfr125 _ (Option.some.inj hp125).symm)
                  subst hret
                  exact ⟨_, rfl, rfl, H.scalar⟩
                · refine (callR (some 58) 17 #[.slice A0_0 l_.length c0_0] Try.call17 (ref17_IdBytes_c H.has l_ A0_0 c0_0 (s0_0.mono hsub12) h_idByte) (by kernel_rfl) ?_)
                  rintro _ w156 ⟨A156_0, c156_0, mk156, rfl, hS156⟩
                  have hsub156 := hS156.sub
                  replace H := H.call0 hS156
                  refine allD2 [8, 11] (by kernel_rfl) (H.has.sub hsub156) ⟨?_, ?_, trivial⟩
                  · replace H : St w noF m mk156 [rowI rU8 5 A156_0 c156_0 idByte, rowI rI64 3 A130_0 c130_0 decode.1, rowI rU8 5 A12_0 c12_0 encode.1] w156 := H
                    refine (b2sS (some 56) 29 9 5 A12_0 c12_0 encode.1 Try.underlying29 Try.underlying5 Try.underlying9 (by kernel_rfl) (H.rowCs 2 rfl) ?_)
                    have hl157 : encode.1.length ≤ 9223372036854775807 := (Nat.le_trans (H.rowCap 2 rfl).1 (H.rowCap 2 rfl).2)
                    refine stD2 (i := 11) (by kernel_rfl) (H.has.sub hsub156) (b2sS (some 59) 29 9 5 A156_0 c156_0 idByte Try.underlying29 Try.underlying5 Try.underlying9 (by kernel_rfl) (H.rowCs 0 rfl) ?_)
                    have hl158 : idByte.length ≤ 9223372036854775807 := (Nat.le_trans (H.rowCap 0 rfl).1 (H.rowCap 0 rfl).2)
                    refine segD2 hst [12] [0, 2, 1, 3, 4, 5, 6, 7, 9, 10, 8, 11, 12] [(0, .slice A0_0 l_.length c0_0), (1, .slice A1_0 b.length c1_0), (7, .slice A130_0 decode.1.length c130_0), (54, .bool false), (60, .bool (!((ByteArray.toList ⟨encode.1.toArray⟩) == (ByteArray.toList ⟨idByte.toArray⟩))))] (by kernel_rfl) ?_
                    rw [sne_raw encode.1 idByte]
                    rw [show (encode.1 != idByte) = true from hb144]
                    refine segD2 hst [13, 14, 15, 16, 17, 18, 19] [0, 2, 1, 3, 4, 5, 6, 7, 9, 10, 8, 11, 12, 13, 14, 15, 16, 17, 18, 19] [(1, .slice A1_0 b.length c1_0), (67, .bool true)] (by kernel_rfl) ?_
                    refine endD2 (by kernel_rfl) (H.has.sub hsub156) ?_
                    refine seg 5 [.co [1, 1, 1, 0, 1, 1, 1, 1, 0, 1], .le 0, .co [1, 1, 1, 1]] [(4, .bool false)] (by kernel_rfl) ?_
                    refine retR [4] [.bool false] (by kernel_rfl) (by kernel_rfl) (by kernel_rfl) ?_
                    have hret := (hfr125 _ (Option.some.inj hp125).symm)
                    subst hret
                    exact ⟨_, rfl, rfl, H.scalar⟩
                  · refine (b2sS (some 59) 29 9 5 A156_0 c156_0 idByte Try.underlying29 Try.underlying5 Try.underlying9 (by kernel_rfl) (H.rowCs 0 rfl) ?_)
                    have hl159 : idByte.length ≤ 9223372036854775807 := (Nat.le_trans (H.rowCap 0 rfl).1 (H.rowCap 0 rfl).2)
                    refine stD2 (i := 8) (by kernel_rfl) (H.has.sub hsub156) (b2sS (some 56) 29 9 5 A12_0 c12_0 encode.1 Try.underlying29 Try.underlying5 Try.underlying9 (by kernel_rfl) (H.rowCs 2 rfl) ?_)
                    have hl160 : encode.1.length ≤ 9223372036854775807 := (Nat.le_trans (H.rowCap 2 rfl).1 (H.rowCap 2 rfl).2)
                    refine segD2 hst [12] [0, 2, 1, 3, 4, 5, 6, 7, 9, 10, 11, 8, 12] [(0, .slice A0_0 l_.length c0_0), (1, .slice A1_0 b.length c1_0), (7, .slice A130_0 decode.1.length c130_0), (54, .bool false), (60, .bool (!((ByteArray.toList ⟨encode.1.toArray⟩) == (ByteArray.toList ⟨idByte.toArray⟩))))] (by kernel_rfl) ?_
                    rw [sne_raw encode.1 idByte]
                    rw [show (encode.1 != idByte) = true from hb144]
                    refine segD2 hst [13, 14, 15, 16, 17, 18, 19] [0, 2, 1, 3, 4, 5, 6, 7, 9, 10, 11, 8, 12, 13, 14, 15, 16, 17, 18, 19] [(1, .slice A1_0 b.length c1_0), (67, .bool true)] (by kernel_rfl) ?_
                    refine endD2 (by kernel_rfl) (H.has.sub hsub156) ?_
                    refine seg 5 [.co [1, 1, 1, 0, 1, 1, 1, 1, 0, 1], .le 0, .co [1, 1, 1, 1]] [(4, .bool false)] (by kernel_rfl) ?_
                    refine retR [4] [.bool false] (by kernel_rfl) (by kernel_rfl) (by kernel_rfl) ?_
                    have hret := (hfr125 _ (Option.some.inj hp125).symm)
                    subst hret
                    exact ⟨_, rfl, rfl, H.scalar⟩
              · obtain ⟨sameIn, h_sameIn, hp125⟩ := bindE hp125
                have hst : statB (bodyOf Try.f4) [1, 1, 1, 0, 1, 1, 1, 0] = true := by kernel_rfl
                refine drawS (Has mk12) H (by kernel_rfl) (by kernel_rfl) ?_
                intro w169 H
                refine segD2 hst [0, 2] [0, 2] [(0, .slice A0_0 l_.length c0_0), (1, .slice A1_0 b.length c1_0), (5, .slice A12_0 encode.1.length c12_0), (7, .slice A130_0 decode.1.length c130_0), (48, .int .i64 encode.2), (50, .int .i64 decode.2)] (by kernel_rfl) ?_
                replace H : St w noF m mk12 [rowI rI64 3 A130_0 c130_0 decode.1, rowI rU8 5 A12_0 c12_0 encode.1] w169 := H
                refine stD2 (i := 1) (by kernel_rfl) H.has (callR (some 49) 15 #[.int .i64 encode.2] Try.call15 (law17_num_c H.has encode.2) (by kernel_rfl) ?_)
                rintro _ w170 ⟨rfl, hx170⟩
                replace H := H.ex hx170
                refine stD2 (i := 3) (by kernel_rfl) H.has (callR (some 51) 15 #[.int .i64 decode.2] Try.call15 (law17_num_c H.has decode.2) (by kernel_rfl) ?_)
                rintro _ w171 ⟨rfl, hx171⟩
                replace H := H.ex hx171
                refine segD2 hst [4] [0, 2, 1, 3, 4] [(0, .slice A0_0 l_.length c0_0), (1, .slice A1_0 b.length c1_0), (5, .slice A12_0 encode.1.length c12_0), (7, .slice A130_0 decode.1.length c130_0), (52, .int .i64 (IntKind.i64.wrap ((law17_num encode.2) + (law17_num decode.2))))] (by kernel_rfl) ?_
                refine segD2 hst [5] [0, 2, 1, 3, 4, 5] [(0, .slice A0_0 l_.length c0_0), (1, .slice A1_0 b.length c1_0), (5, .slice A12_0 encode.1.length c12_0), (7, .slice A130_0 decode.1.length c130_0), (53, .bool ((IntKind.i64.wrap ((law17_num encode.2) + (law17_num decode.2))) != 0))] (by kernel_rfl) ?_
                rw [show ((IntKind.i64.wrap ((law17_num encode.2) + (law17_num decode.2))) != 0) = false from hb133]
                refine segD2 hst [6, 7, 9] [0, 2, 1, 3, 4, 5, 6, 7, 9] [(0, .slice A0_0 l_.length c0_0), (1, .slice A1_0 b.length c1_0), (7, .slice A130_0 decode.1.length c130_0), (54, .bool false), (55, .slice A12_0 encode.1.length c12_0), (57, .slice A0_0 l_.length c0_0)] (by kernel_rfl) ?_
                refine allD2 [8, 10] (by kernel_rfl) H.has ⟨?_, ?_, trivial⟩
                · refine (b2sS (some 56) 29 9 5 A12_0 c12_0 encode.1 Try.underlying29 Try.underlying5 Try.underlying9 (by kernel_rfl) (H.rowCs 1 rfl) ?_)
                  have hl172 : encode.1.length ≤ 9223372036854775807 := (Nat.le_trans (H.rowCap 1 rfl).1 (H.rowCap 1 rfl).2)
                  refine stD2 (i := 10) (by kernel_rfl) H.has (callR (some 58) 17 #[.slice A0_0 l_.length c0_0] Try.call17 (ref17_IdBytes_c H.has l_ A0_0 c0_0 (s0_0.mono hsub12) h_idByte) (by kernel_rfl) ?_)
                  rintro _ w173 ⟨A173_0, c173_0, mk173, rfl, hS173⟩
                  have hsub173 := hS173.sub
                  replace H := H.call0 hS173
                  refine stD2 (i := 11) (by kernel_rfl) (H.has.sub hsub173) (b2sS (some 59) 29 9 5 A173_0 c173_0 idByte Try.underlying29 Try.underlying5 Try.underlying9 (by kernel_rfl) (H.rowCs 0 rfl) ?_)
                  have hl174 : idByte.length ≤ 9223372036854775807 := (Nat.le_trans (H.rowCap 0 rfl).1 (H.rowCap 0 rfl).2)
                  refine segD2 hst [12] [0, 2, 1, 3, 4, 5, 6, 7, 9, 8, 10, 11, 12] [(0, .slice A0_0 l_.length c0_0), (1, .slice A1_0 b.length c1_0), (7, .slice A130_0 decode.1.length c130_0), (54, .bool false), (60, .bool (!((ByteArray.toList ⟨encode.1.toArray⟩) == (ByteArray.toList ⟨idByte.toArray⟩))))] (by kernel_rfl) ?_
                  rw [sne_raw encode.1 idByte]
                  rw [show (encode.1 != idByte) = false from hb144]
                  refine segD2 hst [13, 14, 15, 16] [0, 2, 1, 3, 4, 5, 6, 7, 9, 8, 10, 11, 12, 13, 14, 15, 16] [(1, .slice A1_0 b.length c1_0), (62, .bool false), (63, .slice A130_0 decode.1.length c130_0), (64, .slice A0_0 l_.length c0_0)] (by kernel_rfl) ?_
                  have H0_175 := H
                  obtain ⟨mf176, hsub176, hsf176, H⟩ := H.fixR 1 rfl
                  refine stD2 (i := 17) (by kernel_rfl) (H.has.sub (hsub173.trans hsub176)) (callR (some 65) 10 #[.slice A130_0 decode.1.length c130_0, .slice A0_0 l_.length c0_0] Try.call10 (ref17_SameInts_c H.has decode.1 A130_0 c130_0 hsf176 l_ A0_0 c0_0 (s0_0.mono ((hsub12.trans hsub173).trans hsub176)) h_sameIn) (by kernel_rfl) ?_)
                  rintro _ w177 ⟨rfl, hx177⟩
                  replace H := H0_175.ex hx177
                  refine segD2 hst [18] [0, 2, 1, 3, 4, 5, 6, 7, 9, 8, 10, 11, 12, 13, 14, 15, 16, 17, 18] [(1, .slice A1_0 b.length c1_0), (62, .bool false), (66, .bool (!sameIn))] (by kernel_rfl) ?_
                  refine segD2 hst [19] [0, 2, 1, 3, 4, 5, 6, 7, 9, 8, 10, 11, 12, 13, 14, 15, 16, 17, 18, 19] [(1, .slice A1_0 b.length c1_0), (67, .bool (!sameIn))] (by kernel_rfl) ?_
                  refine endD2 (by kernel_rfl) (H.has.sub hsub173) ?_
                  rcases condT hp125 with ⟨hb178, hp125⟩ | ⟨hb178, hp125⟩
                  · rw [hb178]
                    refine seg 2 [.le 0, .co [1, 1, 1, 1]] [(1, .slice A1_0 b.length c1_0)] (by kernel_rfl) ?_
                    refine leJ (mk173) ⟨(Option.some.inj hp125).symm, (St.takeN 0 H), hsub173⟩ (by kernel_rfl)
                  · rw [hb178]
                    refine seg 5 [.co [1, 1, 1, 0, 1, 1, 1, 1, 0, 1], .le 0, .co [1, 1, 1, 1]] [(4, .bool false)] (by kernel_rfl) ?_
                    refine retR [4] [.bool false] (by kernel_rfl) (by kernel_rfl) (by kernel_rfl) ?_
                    have hret := (hfr125 _ (Option.some.inj hp125).symm)
                    subst hret
                    exact ⟨_, rfl, rfl, H.scalar⟩
                · replace H : St w noF m mk12 [rowI rI64 3 A130_0 c130_0 decode.1, rowI rU8 5 A12_0 c12_0 encode.1] w171 := H
                  refine (callR (some 58) 17 #[.slice A0_0 l_.length c0_0] Try.call17 (ref17_IdBytes_c H.has l_ A0_0 c0_0 (s0_0.mono hsub12) h_idByte) (by kernel_rfl) ?_)
                  rintro _ w179 ⟨A179_0, c179_0, mk179, rfl, hS179⟩
                  have hsub179 := hS179.sub
                  replace H := H.call0 hS179
                  refine allD2 [8, 11] (by kernel_rfl) (H.has.sub hsub179) ⟨?_, ?_, trivial⟩
                  · refine (b2sS (some 56) 29 9 5 A12_0 c12_0 encode.1 Try.underlying29 Try.underlying5 Try.underlying9 (by kernel_rfl) (H.rowCs 2 rfl) ?_)
                    have hl180 : encode.1.length ≤ 9223372036854775807 := (Nat.le_trans (H.rowCap 2 rfl).1 (H.rowCap 2 rfl).2)
                    refine stD2 (i := 11) (by kernel_rfl) (H.has.sub hsub179) (b2sS (some 59) 29 9 5 A179_0 c179_0 idByte Try.underlying29 Try.underlying5 Try.underlying9 (by kernel_rfl) (H.rowCs 0 rfl) ?_)
                    have hl181 : idByte.length ≤ 9223372036854775807 := (Nat.le_trans (H.rowCap 0 rfl).1 (H.rowCap 0 rfl).2)
                    refine segD2 hst [12] [0, 2, 1, 3, 4, 5, 6, 7, 9, 10, 8, 11, 12] [(0, .slice A0_0 l_.length c0_0), (1, .slice A1_0 b.length c1_0), (7, .slice A130_0 decode.1.length c130_0), (54, .bool false), (60, .bool (!((ByteArray.toList ⟨encode.1.toArray⟩) == (ByteArray.toList ⟨idByte.toArray⟩))))] (by kernel_rfl) ?_
                    rw [sne_raw encode.1 idByte]
                    rw [show (encode.1 != idByte) = false from hb144]
                    refine segD2 hst [13, 14, 15, 16] [0, 2, 1, 3, 4, 5, 6, 7, 9, 10, 8, 11, 12, 13, 14, 15, 16] [(1, .slice A1_0 b.length c1_0), (62, .bool false), (63, .slice A130_0 decode.1.length c130_0), (64, .slice A0_0 l_.length c0_0)] (by kernel_rfl) ?_
                    have H0_182 := H
                    obtain ⟨mf183, hsub183, hsf183, H⟩ := H.fixR 1 rfl
                    refine stD2 (i := 17) (by kernel_rfl) (H.has.sub (hsub179.trans hsub183)) (callR (some 65) 10 #[.slice A130_0 decode.1.length c130_0, .slice A0_0 l_.length c0_0] Try.call10 (ref17_SameInts_c H.has decode.1 A130_0 c130_0 hsf183 l_ A0_0 c0_0 (s0_0.mono ((hsub12.trans hsub179).trans hsub183)) h_sameIn) (by kernel_rfl) ?_)
                    rintro _ w184 ⟨rfl, hx184⟩
                    replace H := H0_182.ex hx184
                    refine segD2 hst [18] [0, 2, 1, 3, 4, 5, 6, 7, 9, 10, 8, 11, 12, 13, 14, 15, 16, 17, 18] [(1, .slice A1_0 b.length c1_0), (62, .bool false), (66, .bool (!sameIn))] (by kernel_rfl) ?_
                    refine segD2 hst [19] [0, 2, 1, 3, 4, 5, 6, 7, 9, 10, 8, 11, 12, 13, 14, 15, 16, 17, 18, 19] [(1, .slice A1_0 b.length c1_0), (67, .bool (!sameIn))] (by kernel_rfl) ?_
                    refine endD2 (by kernel_rfl) (H.has.sub hsub179) ?_
                    rcases condT hp125 with ⟨hb185, hp125⟩ | ⟨hb185, hp125⟩
                    · rw [hb185]
                      refine seg 2 [.le 0, .co [1, 1, 1, 1]] [(1, .slice A1_0 b.length c1_0)] (by kernel_rfl) ?_
                      refine leJ (mk179) ⟨(Option.some.inj hp125).symm, (St.takeN 0 H), hsub179⟩ (by kernel_rfl)
                    · rw [hb185]
                      refine seg 5 [.co [1, 1, 1, 0, 1, 1, 1, 1, 0, 1], .le 0, .co [1, 1, 1, 1]] [(4, .bool false)] (by kernel_rfl) ?_
                      refine retR [4] [.bool false] (by kernel_rfl) (by kernel_rfl) (by kernel_rfl) ?_
                      have hret := (hfr125 _ (Option.some.inj hp125).symm)
                      subst hret
                      exact ⟨_, rfl, rfl, H.scalar⟩
                  · refine (b2sS (some 59) 29 9 5 A179_0 c179_0 idByte Try.underlying29 Try.underlying5 Try.underlying9 (by kernel_rfl) (H.rowCs 0 rfl) ?_)
                    have hl186 : idByte.length ≤ 9223372036854775807 := (Nat.le_trans (H.rowCap 0 rfl).1 (H.rowCap 0 rfl).2)
                    refine stD2 (i := 8) (by kernel_rfl) (H.has.sub hsub179) (b2sS (some 56) 29 9 5 A12_0 c12_0 encode.1 Try.underlying29 Try.underlying5 Try.underlying9 (by kernel_rfl) (H.rowCs 2 rfl) ?_)
                    have hl187 : encode.1.length ≤ 9223372036854775807 := (Nat.le_trans (H.rowCap 2 rfl).1 (H.rowCap 2 rfl).2)
                    refine segD2 hst [12] [0, 2, 1, 3, 4, 5, 6, 7, 9, 10, 11, 8, 12] [(0, .slice A0_0 l_.length c0_0), (1, .slice A1_0 b.length c1_0), (7, .slice A130_0 decode.1.length c130_0), (54, .bool false), (60, .bool (!((ByteArray.toList ⟨encode.1.toArray⟩) == (ByteArray.toList ⟨idByte.toArray⟩))))] (by kernel_rfl) ?_
                    rw [sne_raw encode.1 idByte]
                    rw [show (encode.1 != idByte) = false from hb144]
                    refine segD2 hst [13, 14, 15, 16] [0, 2, 1, 3, 4, 5, 6, 7, 9, 10, 11, 8, 12, 13, 14, 15, 16] [(1, .slice A1_0 b.length c1_0), (62, .bool false), (63, .slice A130_0 decode.1.length c130_0), (64, .slice A0_0 l_.length c0_0)] (by kernel_rfl) ?_
                    have H0_188 := H
                    obtain ⟨mf189, hsub189, hsf189, H⟩ := H.fixR 1 rfl
                    refine stD2 (i := 17) (by kernel_rfl) (H.has.sub (hsub179.trans hsub189)) (callR (some 65) 10 #[.slice A130_0 decode.1.length c130_0, .slice A0_0 l_.length c0_0] Try.call10 (ref17_SameInts_c H.has decode.1 A130_0 c130_0 hsf189 l_ A0_0 c0_0 (s0_0.mono ((hsub12.trans hsub179).trans hsub189)) h_sameIn) (by kernel_rfl) ?_)
                    rintro _ w190 ⟨rfl, hx190⟩
                    replace H := H0_188.ex hx190
                    refine segD2 hst [18] [0, 2, 1, 3, 4, 5, 6, 7, 9, 10, 11, 8, 12, 13, 14, 15, 16, 17, 18] [(1, .slice A1_0 b.length c1_0), (62, .bool false), (66, .bool (!sameIn))] (by kernel_rfl) ?_
                    refine segD2 hst [19] [0, 2, 1, 3, 4, 5, 6, 7, 9, 10, 11, 8, 12, 13, 14, 15, 16, 17, 18, 19] [(1, .slice A1_0 b.length c1_0), (67, .bool (!sameIn))] (by kernel_rfl) ?_
                    refine endD2 (by kernel_rfl) (H.has.sub hsub179) ?_
                    rcases condT hp125 with ⟨hb191, hp125⟩ | ⟨hb191, hp125⟩
                    · rw [hb191]
                      refine seg 2 [.le 0, .co [1, 1, 1, 1]] [(1, .slice A1_0 b.length c1_0)] (by kernel_rfl) ?_
                      refine leJ (mk179) ⟨(Option.some.inj hp125).symm, (St.takeN 0 H), hsub179⟩ (by kernel_rfl)
                    · rw [hb191]
                      refine seg 5 [.co [1, 1, 1, 0, 1, 1, 1, 1, 0, 1], .le 0, .co [1, 1, 1, 1]] [(4, .bool false)] (by kernel_rfl) ?_
                      refine retR [4] [.bool false] (by kernel_rfl) (by kernel_rfl) (by kernel_rfl) ?_
                      have hret := (hfr125 _ (Option.some.inj hp125).symm)
                      subst hret
                      exact ⟨_, rfl, rfl, H.scalar⟩
          · rw [hb127]
            refine seg 4 [.op [1, 1, 1, 0, 1, 0, 0] 1, .co [1, 1, 1, 0, 1, 0, 1], .le 0, .co [1, 1, 1, 1]] [(1, .slice A1_0 b.length c1_0), (5, .slice A12_0 encode.1.length c12_0), (35, .int .i64 encode.2)] (by kernel_rfl) ?_
            refine st (callR (some 36) 15 #[.int .i64 encode.2] Try.call15 (law17_num_c H.has encode.2) (by kernel_rfl) ?_)
            rintro _ w192 ⟨rfl, hx192⟩
            replace H := H.ex hx192
            refine seg 2 [.op [1, 1, 1, 0, 1, 0, 0] 4, .co [1, 1, 1, 0, 1, 0, 1], .le 0, .co [1, 1, 1, 1]] [(1, .slice A1_0 b.length c1_0), (5, .slice A12_0 encode.1.length c12_0), (38, .bool ((law17_num encode.2) != 1))] (by kernel_rfl) ?_
            rcases condT hp125 with ⟨hb193, hp125⟩ | ⟨hb193, hp125⟩
            · rw [hb193]
              refine seg 10 [.co [1, 1, 1, 0, 1, 0, 1, 0, 1], .le 0, .co [1, 1, 1, 1]] [(4, .bool false)] (by kernel_rfl) ?_
              refine retR [4] [.bool false] (by kernel_rfl) (by kernel_rfl) (by kernel_rfl) ?_
              have hret := (hfr125 _ (Option.some.inj hp125).symm)
              subst hret
              exact ⟨_, rfl, rfl, H.scalar⟩
            · rw [hb193]
              refine seg 5 [.co [1, 1, 1, 0, 1, 0, 1], .le 0, .co [1, 1, 1, 1]] [(1, .slice A1_0 b.length c1_0), (42, .bool ((encode.1.length : Int) != 0))] (by kernel_rfl) ?_
              rcases condT hp125 with ⟨hb194, hp125⟩ | ⟨hb194, hp125⟩
              · rw [hb194]
                refine seg 5 [.co [1, 1, 1, 0, 1, 0, 1, 0, 1], .le 0, .co [1, 1, 1, 1]] [(4, .bool false)] (by kernel_rfl) ?_
                refine retR [4] [.bool false] (by kernel_rfl) (by kernel_rfl) (by kernel_rfl) ?_
                have hret := (hfr125 _ (Option.some.inj hp125).symm)
                subst hret
                exact ⟨_, rfl, rfl, H.scalar⟩
              · rw [hb194]
                refine seg 2 [.le 0, .co [1, 1, 1, 1]] [(1, .slice A1_0 b.length c1_0)] (by kernel_rfl) ?_
                refine leJ (mk12) ⟨(Option.some.inj hp125).symm, (St.takeN 0 H), (Sub.refl _)⟩ (by kernel_rfl)
        rintro mm126 wj125 ⟨hy125, H, hsub126⟩
        have hf := hfl125 _ hy125
        try dsimp only at hf
        refine seg 3 [.op [1, 1, 1, 1, 0] 1, .co [1, 1, 1, 1, 1]] [(1, .slice A1_0 b.length c1_0), (69, .slice A1_0 b.length c1_0)] (by kernel_rfl) ?_
        replace H : St w noF m mm126 [] wj125 := H
        obtain ⟨decode1, h_decode1, hf⟩ := bindE hf
        refine st (callR (some 70) 16 #[.slice A1_0 b.length c1_0] Try.call16 (table_DecodeIds_c H.has b A1_0 c1_0 (s1_0.mono (hsub12.trans hsub126)) h_decode1) (by kernel_rfl) ?_)
        rintro _ w195 ⟨A195_0, c195_0, mk195, rfl, hS195⟩
        have hsub195 := hS195.sub
        replace H := H.call0 hS195
        refine seg 9 [.op [1, 1, 1, 1, 1, 0] 1, .co [1, 1, 1, 1, 1, 1]] [(9, .slice A195_0 decode1.1.length c195_0), (10, .int .i64 decode1.2), (74, .slice A1_0 b.length c1_0)] (by kernel_rfl) ?_
        obtain ⟨decode2, h_decode2, hf⟩ := bindE hf
        refine st (callR (some 75) 18 #[.slice A1_0 b.length c1_0] Try.call18 (ref17_DecodeIds_c H.has b A1_0 c1_0 (s1_0.mono ((hsub12.trans hsub126).trans hsub195)) h_decode2) (by kernel_rfl) ?_)
        rintro _ w196 ⟨A196_0, c196_0, mk196, rfl, hS196⟩
        have hsub196 := hS196.sub
        replace H := H.call0 hS196
        refine seg 10 [.op [1, 1, 1, 1, 1, 1, 0] 2, .co [1, 1, 1, 1, 1, 1, 1]] [(10, .int .i64 decode1.2), (12, .int .i64 decode2.2), (78, .slice A195_0 decode1.1.length c195_0), (79, .slice A196_0 decode2.1.length c196_0)] (by kernel_rfl) ?_
        have H0_197 := H
        obtain ⟨mf198, hsub198, hsf198, H⟩ := H.fixR 1 rfl
        obtain ⟨mf199, hsub199, hsf199, H⟩ := H.fixR 0 rfl
        obtain ⟨sameIn1, h_sameIn1, hf⟩ := bindE hf
        refine st (callR (some 80) 10 #[.slice A195_0 decode1.1.length c195_0, .slice A196_0 decode2.1.length c196_0] Try.call10 (ref17_SameInts_c H.has decode1.1 A195_0 c195_0 (hsf198.mono hsub199) decode2.1 A196_0 c196_0 hsf199 h_sameIn1) (by kernel_rfl) ?_)
        rintro _ w200 ⟨rfl, hx200⟩
        replace H := H0_197.ex hx200
        refine seg 1 [.op [1, 1, 1, 1, 1, 1, 0] 4, .co [1, 1, 1, 1, 1, 1, 1]] [(10, .int .i64 decode1.2), (12, .int .i64 decode2.2), (81, .bool sameIn1)] (by kernel_rfl) ?_
        rcases condT hf with ⟨hb201, hf⟩ | ⟨hb201, hf⟩
        · rw [hb201]
          refine seg 1 [.op [1, 1, 1, 1, 1, 1, 0] 5, .co [1, 1, 1, 1, 1, 1, 1]] [(12, .int .i64 decode2.2), (81, .bool true), (82, .int .i64 decode1.2)] (by kernel_rfl) ?_
          refine st (callR (some 83) 15 #[.int .i64 decode1.2] Try.call15 (law17_num_c H.has decode1.2) (by kernel_rfl) ?_)
          rintro _ w202 ⟨rfl, hx202⟩
          replace H := H.ex hx202
          refine seg 4 [.op [1, 1, 1, 1, 1, 1, 0] 10, .co [1, 1, 1, 1, 1, 1, 1]] [(87, .bool ((law17_num decode1.2) == decode2.2))] (by kernel_rfl) ?_
          rcases condT hf with ⟨hb203, hf⟩ | ⟨hb203, hf⟩
          · rw [hb203]
            replace H : St w noF m mk196 [] w202 := ((H.drop 1 rfl).drop 0 rfl)
            obtain ⟨live2, h_live2, hf⟩ := bindE hf
            refine st (callR (some 88) 8 #[] Try.call8 (law17_live_c H.has  h_live2) (by kernel_rfl) ?_)
            rintro _ w204 ⟨rfl, hx204⟩
            replace H := H.ex hx204
            refine seg 3 [.co [1, 1, 1, 1, 1, 1, 1]] [(4, .bool live2)] (by kernel_rfl) ?_
            refine retR [4] [.bool live2] (by kernel_rfl) (by kernel_rfl) (by kernel_rfl) ?_
            have hret := (Option.some.inj hf)
            subst hret
            exact ⟨_, rfl, rfl, H.scalar⟩
          · rw [hb203]
            refine seg 4 [.co [1, 1, 1, 1, 1, 1, 1]] [(4, .bool false)] (by kernel_rfl) ?_
            refine retR [4] [.bool false] (by kernel_rfl) (by kernel_rfl) (by kernel_rfl) ?_
            have hret := (Option.some.inj hf)
            subst hret
            exact ⟨_, rfl, rfl, H.scalar⟩
        · rw [hb201]
          refine seg 10 [.co [1, 1, 1, 1, 1, 1, 1]] [(4, .bool false)] (by kernel_rfl) ?_
          refine retR [4] [.bool false] (by kernel_rfl) (by kernel_rfl) (by kernel_rfl) ?_
          have hret := (Option.some.inj hf)
          subst hret
          exact ⟨_, rfl, rfl, H.scalar⟩
  · rw [hb4]
    have p4 := of_decide_eq_false hb4
    refine seg 10 [.co [1, 0, 1], .co [1, 1]] [(0, .slice A0_0 l_.length c0_0), (1, .slice A1_0 b.length c1_0), (25, .bool (decide ((b.length : Int) > 3000)))] (by kernel_rfl) ?_
    rcases condT hf with ⟨hb207, hf⟩ | ⟨hb207, hf⟩
    · rw [hb207]
      have p207 := of_decide_eq_true hb207
      refine seg 3 [.op [1, 0, 1, 0, 0] 0, .co [1, 0, 1, 0, 1], .co [1, 1]] [] (by kernel_rfl) ?_
      obtain ⟨live3, h_live3, hf⟩ := bindE hf
      refine st (callR (some 26) 8 #[] Try.call8 (law17_live_c H.has  h_live3) (by kernel_rfl) ?_)
      rintro _ w208 ⟨rfl, hx208⟩
      replace H := H.ex hx208
      refine seg 2 [.co [1, 0, 1, 0, 1], .co [1, 1]] [(4, .bool live3)] (by kernel_rfl) ?_
      refine retR [4] [.bool live3] (by kernel_rfl) (by kernel_rfl) (by kernel_rfl) ?_
      have hret := (Option.some.inj hf)
      subst hret
      exact ⟨_, rfl, rfl, H.scalar⟩
    · rw [hb207]
      have p207 := of_decide_eq_false hb207
      refine seg 5 [.op [1, 1, 0] 1, .co [1, 1, 1]] [(0, .slice A0_0 l_.length c0_0), (1, .slice A1_0 b.length c1_0), (28, .slice A0_0 l_.length c0_0)] (by kernel_rfl) ?_
      obtain ⟨encode1, h_encode1, hf⟩ := bindE hf
      refine st (callR (some 29) 13 #[.slice A0_0 l_.length c0_0] Try.call13 (table_EncodeIds_c H.has l_ A0_0 c0_0 s0_0 h_encode1) (by kernel_rfl) ?_)
      rintro _ w209 ⟨A209_0, c209_0, mk209, rfl, hS209⟩
      have hsub209 := hS209.sub
      replace H := H.call0 hS209
      refine seg 10 [.op [1, 1, 1, 0, 0] 1, .co [1, 1, 1, 0, 1], .co [1, 1, 1, 1]] [(0, .slice A0_0 l_.length c0_0), (1, .slice A1_0 b.length c1_0), (5, .slice A209_0 encode1.1.length c209_0), (6, .int .i64 encode1.2), (32, .slice A0_0 l_.length c0_0)] (by kernel_rfl) ?_
      replace H : St w noF m mk209 [rowI rU8 5 A209_0 c209_0 encode1.1] w209 := H
      obtain ⟨rightI1, h_rightI1, hf⟩ := bindE hf
      refine st (callR (some 33) 14 #[.slice A0_0 l_.length c0_0] Try.call14 (ref17_RightIds_c H.has l_ A0_0 c0_0 (s0_0.mono hsub209) h_rightI1) (by kernel_rfl) ?_)
      rintro _ w210 ⟨rfl, hx210⟩
      replace H := H.ex hx210
      refine seg 2 [.co [1, 1, 1, 0, 1], .co [1, 1, 1, 1]] [(0, .slice A0_0 l_.length c0_0), (1, .slice A1_0 b.length c1_0), (5, .slice A209_0 encode1.1.length c209_0), (6, .int .i64 encode1.2), (34, .bool (!rightI1))] (by kernel_rfl) ?_
      obtain ⟨y245, hp245, hfl245, hfr245⟩ := bndE hf
      refine joinR 0 (fun (x : Mem) => [(1, .slice A1_0 b.length c1_0)]) (fun (x : Mem) (wj245 : World) => y245 = .inl () ∧ St w noF m x [] wj245 ∧ Sub mk209 x) (by kernel_rfl) ?_ ?_
      · rcases condT hp245 with ⟨hb247, hp245⟩ | ⟨hb247, hp245⟩
        · rw [hb247]
          refine seg 4 [.op [1, 1, 1, 0, 1, 1, 0] 1, .co [1, 1, 1, 0, 1, 1, 1], .le 0, .co [1, 1, 1, 1]] [(0, .slice A0_0 l_.length c0_0), (1, .slice A1_0 b.length c1_0), (5, .slice A209_0 encode1.1.length c209_0), (6, .int .i64 encode1.2), (44, .slice A209_0 encode1.1.length c209_0)] (by kernel_rfl) ?_
          have H0_248 := H
          obtain ⟨mf249, hsub249, hsf249, H⟩ := H.fixR 0 rfl
          obtain ⟨decode3, h_decode3, hp245⟩ := bindE hp245
          refine st (callR (some 45) 16 #[.slice A209_0 encode1.1.length c209_0] Try.call16 (table_DecodeIds_c H.has encode1.1 A209_0 c209_0 hsf249 h_decode3) (by kernel_rfl) ?_)
          rintro _ w250 ⟨A250_0, c250_0, mk250, rfl, hS250⟩
          replace H := H0_248.callB hS250 ⟨rowI_ind (fun _ _ _ _ h => h), trivial⟩
          refine seg 7 [.co [1, 1, 1, 0, 1, 1, 1, 0], .co [1, 1, 1, 0, 1, 1, 1, 1], .le 0, .co [1, 1, 1, 1]] [(0, .slice A0_0 l_.length c0_0), (1, .slice A1_0 b.length c1_0), (5, .slice A209_0 encode1.1.length c209_0), (6, .int .i64 encode1.2), (7, .slice A250_0 decode3.1.length c250_0), (8, .int .i64 decode3.2)] (by kernel_rfl) ?_
          rcases condT hp245 with ⟨hb253, hp245⟩ | ⟨hb253, hp245⟩
          · have hst : statB (bodyOf Try.f4) [1, 1, 1, 0, 1, 1, 1, 0] = true := by kernel_rfl
            refine drawS (Has mk209) H (by kernel_rfl) (by kernel_rfl) ?_
            intro w256 H
            refine segD2 hst [0, 2] [0, 2] [(0, .slice A0_0 l_.length c0_0), (1, .slice A1_0 b.length c1_0), (5, .slice A209_0 encode1.1.length c209_0), (7, .slice A250_0 decode3.1.length c250_0), (48, .int .i64 encode1.2), (50, .int .i64 decode3.2)] (by kernel_rfl) ?_
            replace H : St w noF m mk209 [rowI rI64 3 A250_0 c250_0 decode3.1, rowI rU8 5 A209_0 c209_0 encode1.1] w256 := H
            refine stD2 (i := 1) (by kernel_rfl) H.has (callR (some 49) 15 #[.int .i64 encode1.2] Try.call15 (law17_num_c H.has encode1.2) (by kernel_rfl) ?_)
            rintro _ w257 ⟨rfl, hx257⟩
            replace H := H.ex hx257
            refine stD2 (i := 3) (by kernel_rfl) H.has (callR (some 51) 15 #[.int .i64 decode3.2] Try.call15 (law17_num_c H.has decode3.2) (by kernel_rfl) ?_)
            rintro _ w258 ⟨rfl, hx258⟩
            replace H := H.ex hx258
            refine segD2 hst [4] [0, 2, 1, 3, 4] [(0, .slice A0_0 l_.length c0_0), (1, .slice A1_0 b.length c1_0), (5, .slice A209_0 encode1.1.length c209_0), (7, .slice A250_0 decode3.1.length c250_0), (52, .int .i64 (IntKind.i64.wrap ((law17_num encode1.2) + (law17_num decode3.2))))] (by kernel_rfl) ?_
            refine segD2 hst [5] [0, 2, 1, 3, 4, 5] [(0, .slice A0_0 l_.length c0_0), (1, .slice A1_0 b.length c1_0), (5, .slice A209_0 encode1.1.length c209_0), (7, .slice A250_0 decode3.1.length c250_0), (53, .bool ((IntKind.i64.wrap ((law17_num encode1.2) + (law17_num decode3.2))) != 0))] (by kernel_rfl) ?_
            rw [show ((IntKind.i64.wrap ((law17_num encode1.2) + (law17_num decode3.2))) != 0) = true from hb253]
            refine segD2 hst [6, 7, 8, 9, 10, 11, 12, 13, 14, 15, 16, 17, 18, 19] [0, 2, 1, 3, 4, 5, 6, 7, 8, 9, 10, 11, 12, 13, 14, 15, 16, 17, 18, 19] [(1, .slice A1_0 b.length c1_0), (67, .bool true)] (by kernel_rfl) ?_
            refine endD2 (by kernel_rfl) H.has ?_
            refine seg 5 [.co [1, 1, 1, 0, 1, 1, 1, 1, 0, 1], .le 0, .co [1, 1, 1, 1]] [(4, .bool false)] (by kernel_rfl) ?_
            refine retR [4] [.bool false] (by kernel_rfl) (by kernel_rfl) (by kernel_rfl) ?_
            have hret := (hfr245 _ (Option.some.inj hp245).symm)
            subst hret
            exact ⟨_, rfl, rfl, H.scalar⟩
          · obtain ⟨idByte1, h_idByte1, hp245⟩ := bindE hp245
            rcases condT hp245 with ⟨hb264, hp245⟩ | ⟨hb264, hp245⟩
            · have hst : statB (bodyOf Try.f4) [1, 1, 1, 0, 1, 1, 1, 0] = true := by kernel_rfl
              refine drawS (Has mk209) H (by kernel_rfl) (by kernel_rfl) ?_
              intro w270 H
              refine segD2 hst [0, 2] [0, 2] [(0, .slice A0_0 l_.length c0_0), (1, .slice A1_0 b.length c1_0), (5, .slice A209_0 encode1.1.length c209_0), (7, .slice A250_0 decode3.1.length c250_0), (48, .int .i64 encode1.2), (50, .int .i64 decode3.2)] (by kernel_rfl) ?_
              replace H : St w noF m mk209 [rowI rI64 3 A250_0 c250_0 decode3.1, rowI rU8 5 A209_0 c209_0 encode1.1] w270 := H
              refine stD2 (i := 1) (by kernel_rfl) H.has (callR (some 49) 15 #[.int .i64 encode1.2] Try.call15 (law17_num_c H.has encode1.2) (by kernel_rfl) ?_)
              rintro _ w271 ⟨rfl, hx271⟩
              replace H := H.ex hx271
              refine stD2 (i := 3) (by kernel_rfl) H.has (callR (some 51) 15 #[.int .i64 decode3.2] Try.call15 (law17_num_c H.has decode3.2) (by kernel_rfl) ?_)
              rintro _ w272 ⟨rfl, hx272⟩
              replace H := H.ex hx272
              refine segD2 hst [4] [0, 2, 1, 3, 4] [(0, .slice A0_0 l_.length c0_0), (1, .slice A1_0 b.length c1_0), (5, .slice A209_0 encode1.1.length c209_0), (7, .slice A250_0 decode3.1.length c250_0), (52, .int .i64 (IntKind.i64.wrap ((law17_num encode1.2) + (law17_num decode3.2))))] (by kernel_rfl) ?_
              refine segD2 hst [5] [0, 2, 1, 3, 4, 5] [(0, .slice A0_0 l_.length c0_0), (1, .slice A1_0 b.length c1_0), (5, .slice A209_0 encode1.1.length c209_0), (7, .slice A250_0 decode3.1.length c250_0), (53, .bool ((IntKind.i64.wrap ((law17_num encode1.2) + (law17_num decode3.2))) != 0))] (by kernel_rfl) ?_
              rw [show ((IntKind.i64.wrap ((law17_num encode1.2) + (law17_num decode3.2))) != 0) = false from hb253]
              refine segD2 hst [6, 7, 9] [0, 2, 1, 3, 4, 5, 6, 7, 9] [(0, .slice A0_0 l_.length c0_0), (1, .slice A1_0 b.length c1_0), (7, .slice A250_0 decode3.1.length c250_0), (54, .bool false), (55, .slice A209_0 encode1.1.length c209_0), (57, .slice A0_0 l_.length c0_0)] (by kernel_rfl) ?_
              refine allD2 [8, 10] (by kernel_rfl) H.has ⟨?_, ?_, trivial⟩
              · refine (b2sS (some 56) 29 9 5 A209_0 c209_0 encode1.1 Try.underlying29 Try.underlying5 Try.underlying9 (by kernel_rfl) (H.rowCs 1 rfl) ?_)
                have hl273 : encode1.1.length ≤ 9223372036854775807 := (Nat.le_trans (H.rowCap 1 rfl).1 (H.rowCap 1 rfl).2)
                refine stD2 (i := 10) (by kernel_rfl) H.has (callR (some 58) 17 #[.slice A0_0 l_.length c0_0] Try.call17 (ref17_IdBytes_c H.has l_ A0_0 c0_0 (s0_0.mono hsub209) h_idByte1) (by kernel_rfl) ?_)
                rintro _ w274 ⟨A274_0, c274_0, mk274, rfl, hS274⟩
                have hsub274 := hS274.sub
                replace H := H.call0 hS274
                refine stD2 (i := 11) (by kernel_rfl) (H.has.sub hsub274) (b2sS (some 59) 29 9 5 A274_0 c274_0 idByte1 Try.underlying29 Try.underlying5 Try.underlying9 (by kernel_rfl) (H.rowCs 0 rfl) ?_)
                have hl275 : idByte1.length ≤ 9223372036854775807 := (Nat.le_trans (H.rowCap 0 rfl).1 (H.rowCap 0 rfl).2)
                refine segD2 hst [12] [0, 2, 1, 3, 4, 5, 6, 7, 9, 8, 10, 11, 12] [(0, .slice A0_0 l_.length c0_0), (1, .slice A1_0 b.length c1_0), (7, .slice A250_0 decode3.1.length c250_0), (54, .bool false), (60, .bool (!((ByteArray.toList ⟨encode1.1.toArray⟩) == (ByteArray.toList ⟨idByte1.toArray⟩))))] (by kernel_rfl) ?_
                rw [sne_raw encode1.1 idByte1]
                rw [show (encode1.1 != idByte1) = true from hb264]
                refine segD2 hst [13, 14, 15, 16, 17, 18, 19] [0, 2, 1, 3, 4, 5, 6, 7, 9, 8, 10, 11, 12, 13, 14, 15, 16, 17, 18, 19] [(1, .slice A1_0 b.length c1_0), (67, .bool true)] (by kernel_rfl) ?_
                refine endD2 (by kernel_rfl) (H.has.sub hsub274) ?_
                refine seg 5 [.co [1, 1, 1, 0, 1, 1, 1, 1, 0, 1], .le 0, .co [1, 1, 1, 1]] [(4, .bool false)] (by kernel_rfl) ?_
                refine retR [4] [.bool false] (by kernel_rfl) (by kernel_rfl) (by kernel_rfl) ?_
                have hret := (hfr245 _ (Option.some.inj hp245).symm)
                subst hret
                exact ⟨_, rfl, rfl, H.scalar⟩
              · refine (callR (some 58) 17 #[.slice A0_0 l_.length c0_0] Try.call17 (ref17_IdBytes_c H.has l_ A0_0 c0_0 (s0_0.mono hsub209) h_idByte1) (by kernel_rfl) ?_)
                rintro _ w276 ⟨A276_0, c276_0, mk276, rfl, hS276⟩
                have hsub276 := hS276.sub
                replace H := H.call0 hS276
                refine allD2 [8, 11] (by kernel_rfl) (H.has.sub hsub276) ⟨?_, ?_, trivial⟩
                · replace H : St w noF m mk276 [rowI rU8 5 A276_0 c276_0 idByte1, rowI rI64 3 A250_0 c250_0 decode3.1, rowI rU8 5 A209_0 c209_0 encode1.1] w276 := H
                  refine (b2sS (some 56) 29 9 5 A209_0 c209_0 encode1.1 Try.underlying29 Try.underlying5 Try.underlying9 (by kernel_rfl) (H.rowCs 2 rfl) ?_)
                  have hl277 : encode1.1.length ≤ 9223372036854775807 := (Nat.le_trans (H.rowCap 2 rfl).1 (H.rowCap 2 rfl).2)
                  refine stD2 (i := 11) (by kernel_rfl) (H.has.sub hsub276) (b2sS (some 59) 29 9 5 A276_0 c276_0 idByte1 Try.underlying29 Try.underlying5 Try.underlying9 (by kernel_rfl) (H.rowCs 0 rfl) ?_)
                  have hl278 : idByte1.length ≤ 9223372036854775807 := (Nat.le_trans (H.rowCap 0 rfl).1 (H.rowCap 0 rfl).2)
                  refine segD2 hst [12] [0, 2, 1, 3, 4, 5, 6, 7, 9, 10, 8, 11, 12] [(0, .slice A0_0 l_.length c0_0), (1, .slice A1_0 b.length c1_0), (7, .slice A250_0 decode3.1.length c250_0), (54, .bool false), (60, .bool (!((ByteArray.toList ⟨encode1.1.toArray⟩) == (ByteArray.toList ⟨idByte1.toArray⟩))))] (by kernel_rfl) ?_
                  rw [sne_raw encode1.1 idByte1]
                  rw [show (encode1.1 != idByte1) = true from hb264]
                  refine segD2 hst [13, 14, 15, 16, 17, 18, 19] [0, 2, 1, 3, 4, 5, 6, 7, 9, 10, 8, 11, 12, 13, 14, 15, 16, 17, 18, 19] [(1, .slice A1_0 b.length c1_0), (67, .bool true)] (by kernel_rfl) ?_
                  refine endD2 (by kernel_rfl) (H.has.sub hsub276) ?_
                  refine seg 5 [.co [1, 1, 1, 0, 1, 1, 1, 1, 0, 1], .le 0, .co [1, 1, 1, 1]] [(4, .bool false)] (by kernel_rfl) ?_
                  refine retR [4] [.bool false] (by kernel_rfl) (by kernel_rfl) (by kernel_rfl) ?_
                  have hret := (hfr245 _ (Option.some.inj hp245).symm)
                  subst hret
                  exact ⟨_, rfl, rfl, H.scalar⟩
                · refine (b2sS (some 59) 29 9 5 A276_0 c276_0 idByte1 Try.underlying29 Try.underlying5 Try.underlying9 (by kernel_rfl) (H.rowCs 0 rfl) ?_)
                  have hl279 : idByte1.length ≤ 9223372036854775807 := (Nat.le_trans (H.rowCap 0 rfl).1 (H.rowCap 0 rfl).2)
                  refine stD2 (i := 8) (by kernel_rfl) (H.has.sub hsub276) (b2sS (some 56) 29 9 5 A209_0 c209_0 encode1.1 Try.underlying29 Try.underlying5 Try.underlying9 (by kernel_rfl) (H.rowCs 2 rfl) ?_)
                  have hl280 : encode1.1.length ≤ 9223372036854775807 := (Nat.le_trans (H.rowCap 2 rfl).1 (H.rowCap 2 rfl).2)
                  refine segD2 hst [12] [0, 2, 1, 3, 4, 5, 6, 7, 9, 10, 11, 8, 12] [(0, .slice A0_0 l_.length c0_0), (1, .slice A1_0 b.length c1_0), (7, .slice A250_0 decode3.1.length c250_0), (54, .bool false), (60, .bool (!((ByteArray.toList ⟨encode1.1.toArray⟩) == (ByteArray.toList ⟨idByte1.toArray⟩))))] (by kernel_rfl) ?_
                  rw [sne_raw encode1.1 idByte1]
                  rw [show (encode1.1 != idByte1) = true from hb264]
                  refine segD2 hst [13, 14, 15, 16, 17, 18, 19] [0, 2, 1, 3, 4, 5, 6, 7, 9, 10, 11, 8, 12, 13, 14, 15, 16, 17, 18, 19] [(1, .slice A1_0 b.length c1_0), (67, .bool true)] (by kernel_rfl) ?_
                  refine endD2 (by kernel_rfl) (H.has.sub hsub276) ?_
                  refine seg 5 [.co [1, 1, 1, 0, 1, 1, 1, 1, 0, 1], .le 0, .co [1, 1, 1, 1]] [(4, .bool false)] (by kernel_rfl) ?_
                  refine retR [4] [.bool false] (by kernel_rfl) (by kernel_rfl) (by kernel_rfl) ?_
                  have hret := (hfr245 _ (Option.some.inj hp245).symm)
                  subst hret
                  exact ⟨_, rfl, rfl, H.scalar⟩
            · obtain ⟨sameIn2, h_sameIn2, hp245⟩ := bindE hp245
              have hst : statB (bodyOf Try.f4) [1, 1, 1, 0, 1, 1, 1, 0] = true := by kernel_rfl
              refine drawS (Has mk209) H (by kernel_rfl) (by kernel_rfl) ?_
              intro w289 H
              refine segD2 hst [0, 2] [0, 2] [(0, .slice A0_0 l_.length c0_0), (1, .slice A1_0 b.length c1_0), (5, .slice A209_0 encode1.1.length c209_0), (7, .slice A250_0 decode3.1.length c250_0), (48, .int .i64 encode1.2), (50, .int .i64 decode3.2)] (by kernel_rfl) ?_
              replace H : St w noF m mk209 [rowI rI64 3 A250_0 c250_0 decode3.1, rowI rU8 5 A209_0 c209_0 encode1.1] w289 := H
              refine stD2 (i := 1) (by kernel_rfl) H.has (callR (some 49) 15 #[.int .i64 encode1.2] Try.call15 (law17_num_c H.has encode1.2) (by kernel_rfl) ?_)
              rintro _ w290 ⟨rfl, hx290⟩
              replace H := H.ex hx290
              refine stD2 (i := 3) (by kernel_rfl) H.has (callR (some 51) 15 #[.int .i64 decode3.2] Try.call15 (law17_num_c H.has decode3.2) (by kernel_rfl) ?_)
              rintro _ w291 ⟨rfl, hx291⟩
              replace H := H.ex hx291
              refine segD2 hst [4] [0, 2, 1, 3, 4] [(0, .slice A0_0 l_.length c0_0), (1, .slice A1_0 b.length c1_0), (5, .slice A209_0 encode1.1.length c209_0), (7, .slice A250_0 decode3.1.length c250_0), (52, .int .i64 (IntKind.i64.wrap ((law17_num encode1.2) + (law17_num decode3.2))))] (by kernel_rfl) ?_
              refine segD2 hst [5] [0, 2, 1, 3, 4, 5] [(0, .slice A0_0 l_.length c0_0), (1, .slice A1_0 b.length c1_0), (5, .slice A209_0 encode1.1.length c209_0), (7, .slice A250_0 decode3.1.length c250_0), (53, .bool ((IntKind.i64.wrap ((law17_num encode1.2) + (law17_num decode3.2))) != 0))] (by kernel_rfl) ?_
              rw [show ((IntKind.i64.wrap ((law17_num encode1.2) + (law17_num decode3.2))) != 0) = false from hb253]
              refine segD2 hst [6, 7, 9] [0, 2, 1, 3, 4, 5, 6, 7, 9] [(0, .slice A0_0 l_.length c0_0), (1, .slice A1_0 b.length c1_0), (7, .slice A250_0 decode3.1.length c250_0), (54, .bool false), (55, .slice A209_0 encode1.1.length c209_0), (57, .slice A0_0 l_.length c0_0)] (by kernel_rfl) ?_
              refine allD2 [8, 10] (by kernel_rfl) H.has ⟨?_, ?_, trivial⟩
              · refine (b2sS (some 56) 29 9 5 A209_0 c209_0 encode1.1 Try.underlying29 Try.underlying5 Try.underlying9 (by kernel_rfl) (H.rowCs 1 rfl) ?_)
                have hl292 : encode1.1.length ≤ 9223372036854775807 := (Nat.le_trans (H.rowCap 1 rfl).1 (H.rowCap 1 rfl).2)
                refine stD2 (i := 10) (by kernel_rfl) H.has (callR (some 58) 17 #[.slice A0_0 l_.length c0_0] Try.call17 (ref17_IdBytes_c H.has l_ A0_0 c0_0 (s0_0.mono hsub209) h_idByte1) (by kernel_rfl) ?_)
                rintro _ w293 ⟨A293_0, c293_0, mk293, rfl, hS293⟩
                have hsub293 := hS293.sub
                replace H := H.call0 hS293
                refine stD2 (i := 11) (by kernel_rfl) (H.has.sub hsub293) (b2sS (some 59) 29 9 5 A293_0 c293_0 idByte1 Try.underlying29 Try.underlying5 Try.underlying9 (by kernel_rfl) (H.rowCs 0 rfl) ?_)
                have hl294 : idByte1.length ≤ 9223372036854775807 := (Nat.le_trans (H.rowCap 0 rfl).1 (H.rowCap 0 rfl).2)
                refine segD2 hst [12] [0, 2, 1, 3, 4, 5, 6, 7, 9, 8, 10, 11, 12] [(0, .slice A0_0 l_.length c0_0), (1, .slice A1_0 b.length c1_0), (7, .slice A250_0 decode3.1.length c250_0), (54, .bool false), (60, .bool (!((ByteArray.toList ⟨encode1.1.toArray⟩) == (ByteArray.toList ⟨idByte1.toArray⟩))))] (by kernel_rfl) ?_
                rw [sne_raw encode1.1 idByte1]
                rw [show (encode1.1 != idByte1) = false from hb264]
                refine segD2 hst [13, 14, 15, 16] [0, 2, 1, 3, 4, 5, 6, 7, 9, 8, 10, 11, 12, 13, 14, 15, 16] [(1, .slice A1_0 b.length c1_0), (62, .bool false), (63, .slice A250_0 decode3.1.length c250_0), (64, .slice A0_0 l_.length c0_0)] (by kernel_rfl) ?_
                have H0_295 := H
                obtain ⟨mf296, hsub296, hsf296, H⟩ := H.fixR 1 rfl
                refine stD2 (i := 17) (by kernel_rfl) (H.has.sub (hsub293.trans hsub296)) (callR (some 65) 10 #[.slice A250_0 decode3.1.length c250_0, .slice A0_0 l_.length c0_0] Try.call10 (ref17_SameInts_c H.has decode3.1 A250_0 c250_0 hsf296 l_ A0_0 c0_0 (s0_0.mono ((hsub209.trans hsub293).trans hsub296)) h_sameIn2) (by kernel_rfl) ?_)
                rintro _ w297 ⟨rfl, hx297⟩
                replace H := H0_295.ex hx297
                refine segD2 hst [18] [0, 2, 1, 3, 4, 5, 6, 7, 9, 8, 10, 11, 12, 13, 14, 15, 16, 17, 18] [(1, .slice A1_0 b.length c1_0), (62, .bool false), (66, .bool (!sameIn2))] (by kernel_rfl) ?_
                refine segD2 hst [19] [0, 2, 1, 3, 4, 5, 6, 7, 9, 8, 10, 11, 12, 13, 14, 15, 16, 17, 18, 19] [(1, .slice A1_0 b.length c1_0), (67, .bool (!sameIn2))] (by kernel_rfl) ?_
                refine endD2 (by kernel_rfl) (H.has.sub hsub293) ?_
                rcases condT hp245 with ⟨hb298, hp245⟩ | ⟨hb298, hp245⟩
                · rw [hb298]
                  refine seg 2 [.le 0, .co [1, 1, 1, 1]] [(1, .slice A1_0 b.length c1_0)] (by kernel_rfl) ?_
                  refine leJ (mk293) ⟨(Option.some.inj hp245).symm, (St.takeN 0 H), hsub293⟩ (by kernel_rfl)
                · rw [hb298]
                  refine seg 5 [.co [1, 1, 1, 0, 1, 1, 1, 1, 0, 1], .le 0, .co [1, 1, 1, 1]] [(4, .bool false)] (by kernel_rfl) ?_
                  refine retR [4] [.bool false] (by kernel_rfl) (by kernel_rfl) (by kernel_rfl) ?_
                  have hret := (hfr245 _ (Option.some.inj hp245).symm)
                  subst hret
                  exact ⟨_, rfl, rfl, H.scalar⟩
              · replace H : St w noF m mk209 [rowI rI64 3 A250_0 c250_0 decode3.1, rowI rU8 5 A209_0 c209_0 encode1.1] w291 := H
                refine (callR (some 58) 17 #[.slice A0_0 l_.length c0_0] Try.call17 (ref17_IdBytes_c H.has l_ A0_0 c0_0 (s0_0.mono hsub209) h_idByte1) (by kernel_rfl) ?_)
                rintro _ w299 ⟨A299_0, c299_0, mk299, rfl, hS299⟩
                have hsub299 := hS299.sub
                replace H := H.call0 hS299
                refine allD2 [8, 11] (by kernel_rfl) (H.has.sub hsub299) ⟨?_, ?_, trivial⟩
                · refine (b2sS (some 56) 29 9 5 A209_0 c209_0 encode1.1 Try.underlying29 Try.underlying5 Try.underlying9 (by kernel_rfl) (H.rowCs 2 rfl) ?_)
                  have hl300 : encode1.1.length ≤ 9223372036854775807 := (Nat.le_trans (H.rowCap 2 rfl).1 (H.rowCap 2 rfl).2)
                  refine stD2 (i := 11) (by kernel_rfl) (H.has.sub hsub299) (b2sS (some 59) 29 9 5 A299_0 c299_0 idByte1 Try.underlying29 Try.underlying5 Try.underlying9 (by kernel_rfl) (H.rowCs 0 rfl) ?_)
                  have hl301 : idByte1.length ≤ 9223372036854775807 := (Nat.le_trans (H.rowCap 0 rfl).1 (H.rowCap 0 rfl).2)
                  refine segD2 hst [12] [0, 2, 1, 3, 4, 5, 6, 7, 9, 10, 8, 11, 12] [(0, .slice A0_0 l_.length c0_0), (1, .slice A1_0 b.length c1_0), (7, .slice A250_0 decode3.1.length c250_0), (54, .bool false), (60, .bool (!((ByteArray.toList ⟨encode1.1.toArray⟩) == (ByteArray.toList ⟨idByte1.toArray⟩))))] (by kernel_rfl) ?_
                  rw [sne_raw encode1.1 idByte1]
                  rw [show (encode1.1 != idByte1) = false from hb264]
                  refine segD2 hst [13, 14, 15, 16] [0, 2, 1, 3, 4, 5, 6, 7, 9, 10, 8, 11, 12, 13, 14, 15, 16] [(1, .slice A1_0 b.length c1_0), (62, .bool false), (63, .slice A250_0 decode3.1.length c250_0), (64, .slice A0_0 l_.length c0_0)] (by kernel_rfl) ?_
                  have H0_302 := H
                  obtain ⟨mf303, hsub303, hsf303, H⟩ := H.fixR 1 rfl
                  refine stD2 (i := 17) (by kernel_rfl) (H.has.sub (hsub299.trans hsub303)) (callR (some 65) 10 #[.slice A250_0 decode3.1.length c250_0, .slice A0_0 l_.length c0_0] Try.call10 (ref17_SameInts_c H.has decode3.1 A250_0 c250_0 hsf303 l_ A0_0 c0_0 (s0_0.mono ((hsub209.trans hsub299).trans hsub303)) h_sameIn2) (by kernel_rfl) ?_)
                  rintro _ w304 ⟨rfl, hx304⟩
                  replace H := H0_302.ex hx304
                  refine segD2 hst [18] [0, 2, 1, 3, 4, 5, 6, 7, 9, 10, 8, 11, 12, 13, 14, 15, 16, 17, 18] [(1, .slice A1_0 b.length c1_0), (62, .bool false), (66, .bool (!sameIn2))] (by kernel_rfl) ?_
                  refine segD2 hst [19] [0, 2, 1, 3, 4, 5, 6, 7, 9, 10, 8, 11, 12, 13, 14, 15, 16, 17, 18, 19] [(1, .slice A1_0 b.length c1_0), (67, .bool (!sameIn2))] (by kernel_rfl) ?_
                  refine endD2 (by kernel_rfl) (H.has.sub hsub299) ?_
                  rcases condT hp245 with ⟨hb305, hp245⟩ | ⟨hb305, hp245⟩
                  · rw [hb305]
                    refine seg 2 [.le 0, .co [1, 1, 1, 1]] [(1, .slice A1_0 b.length c1_0)] (by kernel_rfl) ?_
                    refine leJ (mk299) ⟨(Option.some.inj hp245).symm, (St.takeN 0 H), hsub299⟩ (by kernel_rfl)
                  · rw [hb305]
                    refine seg 5 [.co [1, 1, 1, 0, 1, 1, 1, 1, 0, 1], .le 0, .co [1, 1, 1, 1]] [(4, .bool false)] (by kernel_rfl) ?_
                    refine retR [4] [.bool false] (by kernel_rfl) (by kernel_rfl) (by kernel_rfl) ?_
                    have hret := (hfr245 _ (Option.some.inj hp245).symm)
                    subst hret
                    exact ⟨_, rfl, rfl, H.scalar⟩
                · refine (b2sS (some 59) 29 9 5 A299_0 c299_0 idByte1 Try.underlying29 Try.underlying5 Try.underlying9 (by kernel_rfl) (H.rowCs 0 rfl) ?_)
                  have hl306 : idByte1.length ≤ 9223372036854775807 := (Nat.le_trans (H.rowCap 0 rfl).1 (H.rowCap 0 rfl).2)
                  refine stD2 (i := 8) (by kernel_rfl) (H.has.sub hsub299) (b2sS (some 56) 29 9 5 A209_0 c209_0 encode1.1 Try.underlying29 Try.underlying5 Try.underlying9 (by kernel_rfl) (H.rowCs 2 rfl) ?_)
                  have hl307 : encode1.1.length ≤ 9223372036854775807 := (Nat.le_trans (H.rowCap 2 rfl).1 (H.rowCap 2 rfl).2)
                  refine segD2 hst [12] [0, 2, 1, 3, 4, 5, 6, 7, 9, 10, 11, 8, 12] [(0, .slice A0_0 l_.length c0_0), (1, .slice A1_0 b.length c1_0), (7, .slice A250_0 decode3.1.length c250_0), (54, .bool false), (60, .bool (!((ByteArray.toList ⟨encode1.1.toArray⟩) == (ByteArray.toList ⟨idByte1.toArray⟩))))] (by kernel_rfl) ?_
                  rw [sne_raw encode1.1 idByte1]
                  rw [show (encode1.1 != idByte1) = false from hb264]
                  refine segD2 hst [13, 14, 15, 16] [0, 2, 1, 3, 4, 5, 6, 7, 9, 10, 11, 8, 12, 13, 14, 15, 16] [(1, .slice A1_0 b.length c1_0), (62, .bool false), (63, .slice A250_0 decode3.1.length c250_0), (64, .slice A0_0 l_.length c0_0)] (by kernel_rfl) ?_
                  have H0_308 := H
                  obtain ⟨mf309, hsub309, hsf309, H⟩ := H.fixR 1 rfl
                  refine stD2 (i := 17) (by kernel_rfl) (H.has.sub (hsub299.trans hsub309)) (callR (some 65) 10 #[.slice A250_0 decode3.1.length c250_0, .slice A0_0 l_.length c0_0] Try.call10 (ref17_SameInts_c H.has decode3.1 A250_0 c250_0 hsf309 l_ A0_0 c0_0 (s0_0.mono ((hsub209.trans hsub299).trans hsub309)) h_sameIn2) (by kernel_rfl) ?_)
                  rintro _ w310 ⟨rfl, hx310⟩
                  replace H := H0_308.ex hx310
                  refine segD2 hst [18] [0, 2, 1, 3, 4, 5, 6, 7, 9, 10, 11, 8, 12, 13, 14, 15, 16, 17, 18] [(1, .slice A1_0 b.length c1_0), (62, .bool false), (66, .bool (!sameIn2))] (by kernel_rfl) ?_
                  refine segD2 hst [19] [0, 2, 1, 3, 4, 5, 6, 7, 9, 10, 11, 8, 12, 13, 14, 15, 16, 17, 18, 19] [(1, .slice A1_0 b.length c1_0), (67, .bool (!sameIn2))] (by kernel_rfl) ?_
                  refine endD2 (by kernel_rfl) (H.has.sub hsub299) ?_
                  rcases condT hp245 with ⟨hb311, hp245⟩ | ⟨hb311, hp245⟩
                  · rw [hb311]
                    refine seg 2 [.le 0, .co [1, 1, 1, 1]] [(1, .slice A1_0 b.length c1_0)] (by kernel_rfl) ?_
                    refine leJ (mk299) ⟨(Option.some.inj hp245).symm, (St.takeN 0 H), hsub299⟩ (by kernel_rfl)
                  · rw [hb311]
                    refine seg 5 [.co [1, 1, 1, 0, 1, 1, 1, 1, 0, 1], .le 0, .co [1, 1, 1, 1]] [(4, .bool false)] (by kernel_rfl) ?_
                    refine retR [4] [.bool false] (by kernel_rfl) (by kernel_rfl) (by kernel_rfl) ?_
                    have hret := (hfr245 _ (Option.some.inj hp245).symm)
                    subst hret
                    exact ⟨_, rfl, rfl, H.scalar⟩
        · rw [hb247]
          refine seg 4 [.op [1, 1, 1, 0, 1, 0, 0] 1, .co [1, 1, 1, 0, 1, 0, 1], .le 0, .co [1, 1, 1, 1]] [(1, .slice A1_0 b.length c1_0), (5, .slice A209_0 encode1.1.length c209_0), (35, .int .i64 encode1.2)] (by kernel_rfl) ?_
          refine st (callR (some 36) 15 #[.int .i64 encode1.2] Try.call15 (law17_num_c H.has encode1.2) (by kernel_rfl) ?_)
          rintro _ w312 ⟨rfl, hx312⟩
          replace H := H.ex hx312
          refine seg 2 [.op [1, 1, 1, 0, 1, 0, 0] 4, .co [1, 1, 1, 0, 1, 0, 1], .le 0, .co [1, 1, 1, 1]] [(1, .slice A1_0 b.length c1_0), (5, .slice A209_0 encode1.1.length c209_0), (38, .bool ((law17_num encode1.2) != 1))] (by kernel_rfl) ?_
          rcases condT hp245 with ⟨hb313, hp245⟩ | ⟨hb313, hp245⟩
          · rw [hb313]
            refine seg 10 [.co [1, 1, 1, 0, 1, 0, 1, 0, 1], .le 0, .co [1, 1, 1, 1]] [(4, .bool false)] (by kernel_rfl) ?_
            refine retR [4] [.bool false] (by kernel_rfl) (by kernel_rfl) (by kernel_rfl) ?_
            have hret := (hfr245 _ (Option.some.inj hp245).symm)
            subst hret
            exact ⟨_, rfl, rfl, H.scalar⟩
          · rw [hb313]
            refine seg 5 [.co [1, 1, 1, 0, 1, 0, 1], .le 0, .co [1, 1, 1, 1]] [(1, .slice A1_0 b.length c1_0), (42, .bool ((encode1.1.length : Int) != 0))] (by kernel_rfl) ?_
            rcases condT hp245 with ⟨hb314, hp245⟩ | ⟨hb314, hp245⟩
            · rw [hb314]
              refine seg 5 [.co [1, 1, 1, 0, 1, 0, 1, 0, 1], .le 0, .co [1, 1, 1, 1]] [(4, .bool false)] (by kernel_rfl) ?_
              refine retR [4] [.bool false] (by kernel_rfl) (by kernel_rfl) (by kernel_rfl) ?_
              have hret := (hfr245 _ (Option.some.inj hp245).symm)
              subst hret
              exact ⟨_, rfl, rfl, H.scalar⟩
            · rw [hb314]
              refine seg 2 [.le 0, .co [1, 1, 1, 1]] [(1, .slice A1_0 b.length c1_0)] (by kernel_rfl) ?_
              refine leJ (mk209) ⟨(Option.some.inj hp245).symm, (St.takeN 0 H), (Sub.refl _)⟩ (by kernel_rfl)
      rintro mm246 wj245 ⟨hy245, H, hsub246⟩
      have hf := hfl245 _ hy245
      try dsimp only at hf
      refine seg 3 [.op [1, 1, 1, 1, 0] 1, .co [1, 1, 1, 1, 1]] [(1, .slice A1_0 b.length c1_0), (69, .slice A1_0 b.length c1_0)] (by kernel_rfl) ?_
      replace H : St w noF m mm246 [] wj245 := H
      obtain ⟨decode4, h_decode4, hf⟩ := bindE hf
      refine st (callR (some 70) 16 #[.slice A1_0 b.length c1_0] Try.call16 (table_DecodeIds_c H.has b A1_0 c1_0 (s1_0.mono (hsub209.trans hsub246)) h_decode4) (by kernel_rfl) ?_)
      rintro _ w315 ⟨A315_0, c315_0, mk315, rfl, hS315⟩
      have hsub315 := hS315.sub
      replace H := H.call0 hS315
      refine seg 9 [.op [1, 1, 1, 1, 1, 0] 1, .co [1, 1, 1, 1, 1, 1]] [(9, .slice A315_0 decode4.1.length c315_0), (10, .int .i64 decode4.2), (74, .slice A1_0 b.length c1_0)] (by kernel_rfl) ?_
      obtain ⟨decode5, h_decode5, hf⟩ := bindE hf
      refine st (callR (some 75) 18 #[.slice A1_0 b.length c1_0] Try.call18 (ref17_DecodeIds_c H.has b A1_0 c1_0 (s1_0.mono ((hsub209.trans hsub246).trans hsub315)) h_decode5) (by kernel_rfl) ?_)
      rintro _ w316 ⟨A316_0, c316_0, mk316, rfl, hS316⟩
      have hsub316 := hS316.sub
      replace H := H.call0 hS316
      refine seg 10 [.op [1, 1, 1, 1, 1, 1, 0] 2, .co [1, 1, 1, 1, 1, 1, 1]] [(10, .int .i64 decode4.2), (12, .int .i64 decode5.2), (78, .slice A315_0 decode4.1.length c315_0), (79, .slice A316_0 decode5.1.length c316_0)] (by kernel_rfl) ?_
      have H0_317 := H
      obtain ⟨mf318, hsub318, hsf318, H⟩ := H.fixR 1 rfl
      obtain ⟨mf319, hsub319, hsf319, H⟩ := H.fixR 0 rfl
      obtain ⟨sameIn3, h_sameIn3, hf⟩ := bindE hf
      refine st (callR (some 80) 10 #[.slice A315_0 decode4.1.length c315_0, .slice A316_0 decode5.1.length c316_0] Try.call10 (ref17_SameInts_c H.has decode4.1 A315_0 c315_0 (hsf318.mono hsub319) decode5.1 A316_0 c316_0 hsf319 h_sameIn3) (by kernel_rfl) ?_)
      rintro _ w320 ⟨rfl, hx320⟩
      replace H := H0_317.ex hx320
      refine seg 1 [.op [1, 1, 1, 1, 1, 1, 0] 4, .co [1, 1, 1, 1, 1, 1, 1]] [(10, .int .i64 decode4.2), (12, .int .i64 decode5.2), (81, .bool sameIn3)] (by kernel_rfl) ?_
      rcases condT hf with ⟨hb321, hf⟩ | ⟨hb321, hf⟩
      · rw [hb321]
        refine seg 1 [.op [1, 1, 1, 1, 1, 1, 0] 5, .co [1, 1, 1, 1, 1, 1, 1]] [(12, .int .i64 decode5.2), (81, .bool true), (82, .int .i64 decode4.2)] (by kernel_rfl) ?_
        refine st (callR (some 83) 15 #[.int .i64 decode4.2] Try.call15 (law17_num_c H.has decode4.2) (by kernel_rfl) ?_)
        rintro _ w322 ⟨rfl, hx322⟩
        replace H := H.ex hx322
        refine seg 4 [.op [1, 1, 1, 1, 1, 1, 0] 10, .co [1, 1, 1, 1, 1, 1, 1]] [(87, .bool ((law17_num decode4.2) == decode5.2))] (by kernel_rfl) ?_
        rcases condT hf with ⟨hb323, hf⟩ | ⟨hb323, hf⟩
        · rw [hb323]
          replace H : St w noF m mk316 [] w322 := ((H.drop 1 rfl).drop 0 rfl)
          obtain ⟨live4, h_live4, hf⟩ := bindE hf
          refine st (callR (some 88) 8 #[] Try.call8 (law17_live_c H.has  h_live4) (by kernel_rfl) ?_)
          rintro _ w324 ⟨rfl, hx324⟩
          replace H := H.ex hx324
          refine seg 3 [.co [1, 1, 1, 1, 1, 1, 1]] [(4, .bool live4)] (by kernel_rfl) ?_
          refine retR [4] [.bool live4] (by kernel_rfl) (by kernel_rfl) (by kernel_rfl) ?_
          have hret := (Option.some.inj hf)
          subst hret
          exact ⟨_, rfl, rfl, H.scalar⟩
        · rw [hb323]
          refine seg 4 [.co [1, 1, 1, 1, 1, 1, 1]] [(4, .bool false)] (by kernel_rfl) ?_
          refine retR [4] [.bool false] (by kernel_rfl) (by kernel_rfl) (by kernel_rfl) ?_
          have hret := (Option.some.inj hf)
          subst hret
          exact ⟨_, rfl, rfl, H.scalar⟩
      · rw [hb321]
        refine seg 10 [.co [1, 1, 1, 1, 1, 1, 1]] [(4, .bool false)] (by kernel_rfl) ?_
        refine retR [4] [.bool false] (by kernel_rfl) (by kernel_rfl) (by kernel_rfl) ?_
        have hret := (Option.some.inj hf)
        subst hret
        exact ⟨_, rfl, rfl, H.scalar⟩
theorem ref17_RightAttrs_c {m : Mem} {w : World} (hm : Has m w) (l_ : (List TApiAttr)) (A0_0 : Option Addr) (c0_0 : Nat) (s0_0 : SlI rApiAttr m A0_0 c0_0 l_) {r : Bool} (hf : ref17_RightAttrs l_ = some r) :
    Calls Try.prog 20 #[.slice A0_0 l_.length c0_0] w fun e w' => ∃ v, e = .returned v ∧ v = .bool r ∧ Ex w w' := by
  unfold ref17_RightAttrs at hf
  have H := St.start0 hm
  refine callsR Try.func20 (by kernel_rfl) (by kernel_rfl) ?_
  refine seg 11 [.op [1, 0, 0] 4, .co [1, 0, 1], .co [1, 1]] [(0, .slice A0_0 l_.length c0_0), (8, .bool (decide ((l_.length : Int) < 1)))] (by kernel_rfl) ?_
  rcases condT hf with ⟨hb2, hf⟩ | ⟨hb2, hf⟩
  · rw [hb2]
    have p2 := of_decide_eq_true hb2
    refine seg 10 [.co [1, 0, 1, 0, 1], .co [1, 1]] [(2, .bool false)] (by kernel_rfl) ?_
    refine retR [2] [.bool false] (by kernel_rfl) (by kernel_rfl) (by kernel_rfl) ?_
    have hret := (Option.some.inj hf)
    subst hret
    exact ⟨_, rfl, rfl, H.scalar⟩
  · rw [hb2]
    have p2 := of_decide_eq_false hb2
    refine seg 5 [.co [1, 0, 1], .co [1, 1]] [(0, .slice A0_0 l_.length c0_0), (12, .bool (decide ((l_.length : Int) > 64)))] (by kernel_rfl) ?_
    rcases condT hf with ⟨hb4, hf⟩ | ⟨hb4, hf⟩
    · rw [hb4]
      have p4 := of_decide_eq_true hb4
      refine seg 5 [.co [1, 0, 1, 0, 1], .co [1, 1]] [(2, .bool false)] (by kernel_rfl) ?_
      refine retR [2] [.bool false] (by kernel_rfl) (by kernel_rfl) (by kernel_rfl) ?_
      have hret := (Option.some.inj hf)
      subst hret
      exact ⟨_, rfl, rfl, H.scalar⟩
    · rw [hb4]
      have p4 := of_decide_eq_false hb4
      refine seg 7 [.co [1, 1, 0, 1], .co [1, 1, 1]] [(0, .slice A0_0 l_.length c0_0), (3, .int .i64 0)] (by kernel_rfl) ?_
      obtain ⟨y370, hp370, hfl370, hfr370⟩ := bndE hf
      refine joinR 0 (fun (x : Unit) => []) (fun (x : Unit) (wj370 : World) => y370 = .inl () ∧ St w noF m m [] wj370) (by kernel_rfl) ?_ ?_
      · refine seg 1 [.co [1, 1, 0, 1, 0], .bl 0, .le 0, .co [1, 1, 1]] [(0, .slice A0_0 l_.length c0_0), (3, .int .i64 0)] (by kernel_rfl) ?_
        obtain ⟨nn448, hR448⟩ := loopO_iff.1 hp370
        refine loopR 1 (fun (x : Nat × Nat) => [(0, .slice A0_0 l_.length c0_0), (3, .int .i64 (x.2 : Int))]) (fun (x : Nat × Nat) (wl448 : World) => iter (fun s => ref17_RightAttrs_l1 l_ s) x.1 x.2 = some y370 ∧ St w noF m m [] wl448) (fun (x : Nat × Nat) => x.1) (nn448, 0) (by kernel_rfl) (by kernel_rfl) (by kernel_rfl) ?_ ?_
        · exact ⟨hR448, H⟩
        rintro ⟨n448, i⟩ wl448 ⟨hR448, H⟩
        try dsimp only at hR448
        try dsimp only at H
        obtain ⟨nk448, q448, rfl, hb_448, hnx448, hfin448⟩ := iterE hR448
        replace hb_448 : ref17_RightAttrs_l1 l_ i = some q448 := hb_448
        unfold ref17_RightAttrs_l1 at hb_448
        refine seg 8 [.co [1, 1, 0, 1, 0, 0, 0, 1], .co [1, 1, 0, 1, 0, 0, 1], .le 1, .bl 0, .le 0, .co [1, 1, 1]] [(0, .slice A0_0 l_.length c0_0), (3, .int .i64 (i : Int)), (16, .bool (decide ((i : Int) < (l_.length : Int))))] (by kernel_rfl) ?_
        rcases condT hb_448 with ⟨hb450, hb_448⟩ | ⟨hb450, hb_448⟩
        · rw [hb450]
          have p450 := of_decide_eq_true hb450
          refine seg 6 [.co [1, 1, 0, 1, 0, 0, 1, 0, 0, 0, 0], .co [1, 1, 0, 1, 0, 0, 1, 0, 0, 0, 1], .co [1, 1, 0, 1, 0, 0, 1, 0, 0, 1], .bl 1, .co [1, 1, 0, 1, 0, 0, 1, 1], .le 1, .bl 0, .le 0, .co [1, 1, 1]] [(0, .slice A0_0 l_.length c0_0), (3, .int .i64 (i : Int))] (by kernel_rfl) ?_
          obtain ⟨x_, h_x_, hb_448⟩ := bindE hb_448
          rcases condT hb_448 with ⟨hb453, hb_448⟩ | ⟨hb453, hb_448⟩
          · have p453 := of_decide_eq_true hb453
            have hst : statB (bodyOf Try.f20) [1, 1, 0, 1, 0, 0, 1, 0, 0, 0, 0] = true := by kernel_rfl
            refine drawS (Has m) H (by kernel_rfl) (by kernel_rfl) ?_
            intro w456 H
            refine segD2 hst [0, 1] [0, 1] [(0, .slice A0_0 l_.length c0_0), (3, .int .i64 (i : Int)), (19, .slice A0_0 l_.length c0_0), (20, .int .i64 (i : Int))] (by kernel_rfl) ?_
            obtain ⟨ad457, _, ea457, ⟨A457_1, c457_1, rfl, hl457_0, hs457_1⟩, hc457⟩ := s0_0.at_ h_x_ (by decide)
            refine stD2 (i := 2) (by kernel_rfl) H.has (idxS (some 21) 41 43 2 A0_0 ad457 l_.length c0_0 .i64 (i : Int) ea457 (by kernel_rfl) (by kernel_rfl) (by omega) (by have := (List.getElem?_eq_some_iff.1 h_x_).1; omega) ?_)
            refine segD2 hst [3] [0, 1, 2, 3] [(0, .slice A0_0 l_.length c0_0), (3, .int .i64 (i : Int)), (22, .pointer (some (ad457.add (i * 2))))] (by kernel_rfl) ?_
            refine stD2 (i := 4) (by kernel_rfl) H.has (ldR (some 23) 9 (ad457.add (i * 2)) (.string ⟨x_.Name.toArray⟩) (by kernel_rfl) (by kernel_rfl) (H.cellI (mc0 (hc457 0 _ rfl))) ?_)
            refine segD2 hst [5, 6] [0, 1, 2, 3, 4, 5, 6] [(0, .slice A0_0 l_.length c0_0), (3, .int .i64 (i : Int)), (25, .bool (decide ((x_.Name.length : Int) < 1)))] (by kernel_rfl) ?_
            rw [show (decide ((x_.Name.length : Int) < 1)) = true from hb453]
            refine segD2 hst [7, 8, 9, 10, 11, 12, 13, 14, 15, 16, 17, 18, 19, 20, 21, 22, 23, 24, 25, 26, 27, 28, 29, 30, 31, 32, 33, 34, 35, 36, 37, 38, 39, 40, 41, 42] [0, 1, 2, 3, 4, 5, 6, 7, 8, 9, 10, 11, 12, 13, 14, 15, 16, 17, 18, 19, 20, 21, 22, 23, 24, 25, 26, 27, 28, 29, 30, 31, 32, 33, 34, 35, 36, 37, 38, 39, 40, 41, 42] [(0, .slice A0_0 l_.length c0_0), (3, .int .i64 (i : Int)), (61, .bool true)] (by kernel_rfl) ?_
            refine endD2 (by kernel_rfl) H.has ?_
            refine seg 5 [.co [1, 1, 0, 1, 0, 0, 1, 0, 0, 0, 1, 0, 1], .co [1, 1, 0, 1, 0, 0, 1, 0, 0, 1], .bl 1, .co [1, 1, 0, 1, 0, 0, 1, 1], .le 1, .bl 0, .le 0, .co [1, 1, 1]] [(2, .bool false)] (by kernel_rfl) ?_
            refine retR [2] [.bool false] (by kernel_rfl) (by kernel_rfl) (by kernel_rfl) ?_
            have hret := (hfr370 _ (hfin448 _ (Option.some.inj hb_448).symm).symm)
            subst hret
            exact ⟨_, rfl, rfl, H.scalar⟩
          · have p453 := of_decide_eq_false hb453
            rcases condT hb_448 with ⟨hb460, hb_448⟩ | ⟨hb460, hb_448⟩
            · have p460 := of_decide_eq_true hb460
              have hst : statB (bodyOf Try.f20) [1, 1, 0, 1, 0, 0, 1, 0, 0, 0, 0] = true := by kernel_rfl
              refine drawS (Has m) H (by kernel_rfl) (by kernel_rfl) ?_
              intro w463 H
              refine segD2 hst [0, 1] [0, 1] [(0, .slice A0_0 l_.length c0_0), (3, .int .i64 (i : Int)), (19, .slice A0_0 l_.length c0_0), (20, .int .i64 (i : Int))] (by kernel_rfl) ?_
              obtain ⟨ad464, _, ea464, ⟨A464_1, c464_1, rfl, hl464_0, hs464_1⟩, hc464⟩ := s0_0.at_ h_x_ (by decide)
              refine stD2 (i := 2) (by kernel_rfl) H.has (idxS (some 21) 41 43 2 A0_0 ad464 l_.length c0_0 .i64 (i : Int) ea464 (by kernel_rfl) (by kernel_rfl) (by omega) (by have := (List.getElem?_eq_some_iff.1 h_x_).1; omega) ?_)
              refine segD2 hst [3] [0, 1, 2, 3] [(0, .slice A0_0 l_.length c0_0), (3, .int .i64 (i : Int)), (22, .pointer (some (ad464.add (i * 2))))] (by kernel_rfl) ?_
              refine stD2 (i := 4) (by kernel_rfl) H.has (ldR (some 23) 9 (ad464.add (i * 2)) (.string ⟨x_.Name.toArray⟩) (by kernel_rfl) (by kernel_rfl) (H.cellI (mc0 (hc464 0 _ rfl))) ?_)
              refine segD2 hst [5, 6] [0, 1, 2, 3, 4, 5, 6] [(0, .slice A0_0 l_.length c0_0), (3, .int .i64 (i : Int)), (25, .bool (decide ((x_.Name.length : Int) < 1)))] (by kernel_rfl) ?_
              rw [show (decide ((x_.Name.length : Int) < 1)) = false from hb453]
              refine segD2 hst [7, 8, 9] [0, 1, 2, 3, 4, 5, 6, 7, 8, 9] [(0, .slice A0_0 l_.length c0_0), (3, .int .i64 (i : Int)), (26, .bool false), (27, .slice A0_0 l_.length c0_0), (28, .int .i64 (i : Int))] (by kernel_rfl) ?_
              refine stD2 (i := 10) (by kernel_rfl) H.has (idxS (some 29) 41 43 2 A0_0 ad464 l_.length c0_0 .i64 (i : Int) ea464 (by kernel_rfl) (by kernel_rfl) (by omega) (by have := (List.getElem?_eq_some_iff.1 h_x_).1; omega) ?_)
              refine segD2 hst [11] [0, 1, 2, 3, 4, 5, 6, 7, 8, 9, 10, 11] [(0, .slice A0_0 l_.length c0_0), (3, .int .i64 (i : Int)), (26, .bool false), (30, .pointer (some (ad464.add (i * 2))))] (by kernel_rfl) ?_
              refine stD2 (i := 12) (by kernel_rfl) H.has (ldR (some 31) 9 (ad464.add (i * 2)) (.string ⟨x_.Name.toArray⟩) (by kernel_rfl) (by kernel_rfl) (H.cellI (mc0 (hc464 0 _ rfl))) ?_)
              refine segD2 hst [13, 14] [0, 1, 2, 3, 4, 5, 6, 7, 8, 9, 10, 11, 12, 13, 14] [(0, .slice A0_0 l_.length c0_0), (3, .int .i64 (i : Int)), (26, .bool false), (33, .bool (decide ((x_.Name.length : Int) > 255)))] (by kernel_rfl) ?_
              rw [show (decide ((x_.Name.length : Int) > 255)) = true from hb460]
              refine segD2 hst [15, 16, 17, 18, 19, 20, 21, 22, 23, 24, 25, 26, 27, 28, 29, 30, 31, 32, 33, 34, 35, 36, 37, 38, 39, 40, 41, 42] [0, 1, 2, 3, 4, 5, 6, 7, 8, 9, 10, 11, 12, 13, 14, 15, 16, 17, 18, 19, 20, 21, 22, 23, 24, 25, 26, 27, 28, 29, 30, 31, 32, 33, 34, 35, 36, 37, 38, 39, 40, 41, 42] [(0, .slice A0_0 l_.length c0_0), (3, .int .i64 (i : Int)), (61, .bool true)] (by kernel_rfl) ?_
              refine endD2 (by kernel_rfl) H.has ?_
              refine seg 5 [.co [1, 1, 0, 1, 0, 0, 1, 0, 0, 0, 1, 0, 1], .co [1, 1, 0, 1, 0, 0, 1, 0, 0, 1], .bl 1, .co [1, 1, 0, 1, 0, 0, 1, 1], .le 1, .bl 0, .le 0, .co [1, 1, 1]] [(2, .bool false)] (by kernel_rfl) ?_
              refine retR [2] [.bool false] (by kernel_rfl) (by kernel_rfl) (by kernel_rfl) ?_
              have hret := (hfr370 _ (hfin448 _ (Option.some.inj hb_448).symm).symm)
              subst hret
              exact ⟨_, rfl, rfl, H.scalar⟩
            · have p460 := of_decide_eq_false hb460
              rcases condT hb_448 with ⟨hb467, hb_448⟩ | ⟨hb467, hb_448⟩
              · have p467 := of_decide_eq_true hb467
                have hst : statB (bodyOf Try.f20) [1, 1, 0, 1, 0, 0, 1, 0, 0, 0, 0] = true := by kernel_rfl
                refine drawS (Has m) H (by kernel_rfl) (by kernel_rfl) ?_
                intro w470 H
                refine segD2 hst [0, 1] [0, 1] [(0, .slice A0_0 l_.length c0_0), (3, .int .i64 (i : Int)), (19, .slice A0_0 l_.length c0_0), (20, .int .i64 (i : Int))] (by kernel_rfl) ?_
                obtain ⟨ad471, _, ea471, ⟨A471_1, c471_1, rfl, hl471_0, hs471_1⟩, hc471⟩ := s0_0.at_ h_x_ (by decide)
                refine stD2 (i := 2) (by kernel_rfl) H.has (idxS (some 21) 41 43 2 A0_0 ad471 l_.length c0_0 .i64 (i : Int) ea471 (by kernel_rfl) (by kernel_rfl) (by omega) (by have := (List.getElem?_eq_some_iff.1 h_x_).1; omega) ?_)
                refine segD2 hst [3] [0, 1, 2, 3] [(0, .slice A0_0 l_.length c0_0), (3, .int .i64 (i : Int)), (22, .pointer (some (ad471.add (i * 2))))] (by kernel_rfl) ?_
                refine stD2 (i := 4) (by kernel_rfl) H.has (ldR (some 23) 9 (ad471.add (i * 2)) (.string ⟨x_.Name.toArray⟩) (by kernel_rfl) (by kernel_rfl) (H.cellI (mc0 (hc471 0 _ rfl))) ?_)
                refine segD2 hst [5, 6] [0, 1, 2, 3, 4, 5, 6] [(0, .slice A0_0 l_.length c0_0), (3, .int .i64 (i : Int)), (25, .bool (decide ((x_.Name.length : Int) < 1)))] (by kernel_rfl) ?_
                rw [show (decide ((x_.Name.length : Int) < 1)) = false from hb453]
                refine segD2 hst [7, 8, 9] [0, 1, 2, 3, 4, 5, 6, 7, 8, 9] [(0, .slice A0_0 l_.length c0_0), (3, .int .i64 (i : Int)), (26, .bool false), (27, .slice A0_0 l_.length c0_0), (28, .int .i64 (i : Int))] (by kernel_rfl) ?_
                refine stD2 (i := 10) (by kernel_rfl) H.has (idxS (some 29) 41 43 2 A0_0 ad471 l_.length c0_0 .i64 (i : Int) ea471 (by kernel_rfl) (by kernel_rfl) (by omega) (by have := (List.getElem?_eq_some_iff.1 h_x_).1; omega) ?_)
                refine segD2 hst [11] [0, 1, 2, 3, 4, 5, 6, 7, 8, 9, 10, 11] [(0, .slice A0_0 l_.length c0_0), (3, .int .i64 (i : Int)), (26, .bool false), (30, .pointer (some (ad471.add (i * 2))))] (by kernel_rfl) ?_
                refine stD2 (i := 12) (by kernel_rfl) H.has (ldR (some 31) 9 (ad471.add (i * 2)) (.string ⟨x_.Name.toArray⟩) (by kernel_rfl) (by kernel_rfl) (H.cellI (mc0 (hc471 0 _ rfl))) ?_)
                refine segD2 hst [13, 14] [0, 1, 2, 3, 4, 5, 6, 7, 8, 9, 10, 11, 12, 13, 14] [(0, .slice A0_0 l_.length c0_0), (3, .int .i64 (i : Int)), (26, .bool false), (33, .bool (decide ((x_.Name.length : Int) > 255)))] (by kernel_rfl) ?_
                rw [show (decide ((x_.Name.length : Int) > 255)) = false from hb460]
                refine segD2 hst [15, 16, 17, 18] [0, 1, 2, 3, 4, 5, 6, 7, 8, 9, 10, 11, 12, 13, 14, 15, 16, 17, 18] [(0, .slice A0_0 l_.length c0_0), (3, .int .i64 (i : Int)), (35, .bool false), (36, .slice A0_0 l_.length c0_0), (37, .int .i64 (i : Int))] (by kernel_rfl) ?_
                refine stD2 (i := 19) (by kernel_rfl) H.has (idxS (some 38) 41 43 2 A0_0 ad471 l_.length c0_0 .i64 (i : Int) ea471 (by kernel_rfl) (by kernel_rfl) (by omega) (by have := (List.getElem?_eq_some_iff.1 h_x_).1; omega) ?_)
                refine segD2 hst [20] [0, 1, 2, 3, 4, 5, 6, 7, 8, 9, 10, 11, 12, 13, 14, 15, 16, 17, 18, 19, 20] [(0, .slice A0_0 l_.length c0_0), (3, .int .i64 (i : Int)), (35, .bool false), (39, .pointer (some ((ad471.add (i * 2)).add 1)))] (by kernel_rfl) ?_
                refine stD2 (i := 21) (by kernel_rfl) H.has (ldR (some 40) 29 ((ad471.add (i * 2)).add 1) (.slice A471_1 x_.Value.length c471_1) (by kernel_rfl) (by kernel_rfl) (H.cellI (hc471 1 _ rfl)) ?_)
                refine segD2 hst [22, 23] [0, 1, 2, 3, 4, 5, 6, 7, 8, 9, 10, 11, 12, 13, 14, 15, 16, 17, 18, 19, 20, 21, 22, 23] [(0, .slice A0_0 l_.length c0_0), (3, .int .i64 (i : Int)), (35, .bool false), (42, .bool (decide ((x_.Value.length : Int) > 4096)))] (by kernel_rfl) ?_
                rw [show (decide ((x_.Value.length : Int) > 4096)) = true from hb467]
                refine segD2 hst [24, 25, 26, 27, 28, 29, 30, 31, 32, 33, 34, 35, 36, 37, 38, 39, 40, 41, 42] [0, 1, 2, 3, 4, 5, 6, 7, 8, 9, 10, 11, 12, 13, 14, 15, 16, 17, 18, 19, 20, 21, 22, 23, 24, 25, 26, 27, 28, 29, 30, 31, 32, 33, 34, 35, 36, 37, 38, 39, 40, 41, 42] [(0, .slice A0_0 l_.length c0_0), (3, .int .i64 (i : Int)), (61, .bool true)] (by kernel_rfl) ?_
                refine endD2 (by kernel_rfl) H.has ?_
                refine seg 5 [.co [1, 1, 0, 1, 0, 0, 1, 0, 0, 0, 1, 0, 1], .co [1, 1, 0, 1, 0, 0, 1, 0, 0, 1], .bl 1, .co [1, 1, 0, 1, 0, 0, 1, 1], .le 1, .bl 0, .le 0, .co [1, 1, 1]] [(2, .bool false)] (by kernel_rfl) ?_
                refine retR [2] [.bool false] (by kernel_rfl) (by kernel_rfl) (by kernel_rfl) ?_
                have hret := (hfr370 _ (hfin448 _ (Option.some.inj hb_448).symm).symm)
                subst hret
                exact ⟨_, rfl, rfl, H.scalar⟩
              · have p467 := of_decide_eq_false hb467
                rcases condT hb_448 with ⟨hb474, hb_448⟩ | ⟨hb474, hb_448⟩
                · have p474 := of_decide_eq_true hb474
                  obtain ⟨x_1, h_x_1, hb_448⟩ := bindE hb_448
                  obtain ⟨i0477, i1477, ix477⟩ := idx_some h_x_1
                  have hst : statB (bodyOf Try.f20) [1, 1, 0, 1, 0, 0, 1, 0, 0, 0, 0] = true := by kernel_rfl
                  refine drawS (Has m) H (by kernel_rfl) (by kernel_rfl) ?_
                  intro w479 H
                  refine segD2 hst [0, 1] [0, 1] [(0, .slice A0_0 l_.length c0_0), (3, .int .i64 (i : Int)), (19, .slice A0_0 l_.length c0_0), (20, .int .i64 (i : Int))] (by kernel_rfl) ?_
                  obtain ⟨ad480, _, ea480, ⟨A480_1, c480_1, rfl, hl480_0, hs480_1⟩, hc480⟩ := s0_0.at_ h_x_ (by decide)
                  refine stD2 (i := 2) (by kernel_rfl) H.has (idxS (some 21) 41 43 2 A0_0 ad480 l_.length c0_0 .i64 (i : Int) ea480 (by kernel_rfl) (by kernel_rfl) (by omega) (by have := (List.getElem?_eq_some_iff.1 h_x_).1; omega) ?_)
                  refine segD2 hst [3] [0, 1, 2, 3] [(0, .slice A0_0 l_.length c0_0), (3, .int .i64 (i : Int)), (22, .pointer (some (ad480.add (i * 2))))] (by kernel_rfl) ?_
                  refine stD2 (i := 4) (by kernel_rfl) H.has (ldR (some 23) 9 (ad480.add (i * 2)) (.string ⟨x_.Name.toArray⟩) (by kernel_rfl) (by kernel_rfl) (H.cellI (mc0 (hc480 0 _ rfl))) ?_)
                  refine segD2 hst [5, 6] [0, 1, 2, 3, 4, 5, 6] [(0, .slice A0_0 l_.length c0_0), (3, .int .i64 (i : Int)), (25, .bool (decide ((x_.Name.length : Int) < 1)))] (by kernel_rfl) ?_
                  rw [show (decide ((x_.Name.length : Int) < 1)) = false from hb453]
                  refine segD2 hst [7, 8, 9] [0, 1, 2, 3, 4, 5, 6, 7, 8, 9] [(0, .slice A0_0 l_.length c0_0), (3, .int .i64 (i : Int)), (26, .bool false), (27, .slice A0_0 l_.length c0_0), (28, .int .i64 (i : Int))] (by kernel_rfl) ?_
                  refine stD2 (i := 10) (by kernel_rfl) H.has (idxS (some 29) 41 43 2 A0_0 ad480 l_.length c0_0 .i64 (i : Int) ea480 (by kernel_rfl) (by kernel_rfl) (by omega) (by have := (List.getElem?_eq_some_iff.1 h_x_).1; omega) ?_)
                  refine segD2 hst [11] [0, 1, 2, 3, 4, 5, 6, 7, 8, 9, 10, 11] [(0, .slice A0_0 l_.length c0_0), (3, .int .i64 (i : Int)), (26, .bool false), (30, .pointer (some (ad480.add (i * 2))))] (by kernel_rfl) ?_
                  refine stD2 (i := 12) (by kernel_rfl) H.has (ldR (some 31) 9 (ad480.add (i * 2)) (.string ⟨x_.Name.toArray⟩) (by kernel_rfl) (by kernel_rfl) (H.cellI (mc0 (hc480 0 _ rfl))) ?_)
                  refine segD2 hst [13, 14] [0, 1, 2, 3, 4, 5, 6, 7, 8, 9, 10, 11, 12, 13, 14] [(0, .slice A0_0 l_.length c0_0), (3, .int .i64 (i : Int)), (26, .bool false), (33, .bool (decide ((x_.Name.length : Int) > 255)))] (by kernel_rfl) ?_
                  rw [show (decide ((x_.Name.length : Int) > 255)) = false from hb460]
                  refine segD2 hst [15, 16, 17, 18] [0, 1, 2, 3, 4, 5, 6, 7, 8, 9, 10, 11, 12, 13, 14, 15, 16, 17, 18] [(0, .slice A0_0 l_.length c0_0), (3, .int .i64 (i : Int)), (35, .bool false), (36, .slice A0_0 l_.length c0_0), (37, .int .i64 (i : Int))] (by kernel_rfl) ?_
                  refine stD2 (i := 19) (by kernel_rfl) H.has (idxS (some 38) 41 43 2 A0_0 ad480 l_.length c0_0 .i64 (i : Int) ea480 (by kernel_rfl) (by kernel_rfl) (by omega) (by have := (List.getElem?_eq_some_iff.1 h_x_).1; omega) ?_)
                  refine segD2 hst [20] [0, 1, 2, 3, 4, 5, 6, 7, 8, 9, 10, 11, 12, 13, 14, 15, 16, 17, 18, 19, 20] [(0, .slice A0_0 l_.length c0_0), (3, .int .i64 (i : Int)), (35, .bool false), (39, .pointer (some ((ad480.add (i * 2)).add 1)))] (by kernel_rfl) ?_
                  refine stD2 (i := 21) (by kernel_rfl) H.has (ldR (some 40) 29 ((ad480.add (i * 2)).add 1) (.slice A480_1 x_.Value.length c480_1) (by kernel_rfl) (by kernel_rfl) (H.cellI (hc480 1 _ rfl)) ?_)
                  refine segD2 hst [22, 23] [0, 1, 2, 3, 4, 5, 6, 7, 8, 9, 10, 11, 12, 13, 14, 15, 16, 17, 18, 19, 20, 21, 22, 23] [(0, .slice A0_0 l_.length c0_0), (3, .int .i64 (i : Int)), (35, .bool false), (42, .bool (decide ((x_.Value.length : Int) > 4096)))] (by kernel_rfl) ?_
                  rw [show (decide ((x_.Value.length : Int) > 4096)) = false from hb467]
                  refine segD2 hst [24, 25, 26, 27] [0, 1, 2, 3, 4, 5, 6, 7, 8, 9, 10, 11, 12, 13, 14, 15, 16, 17, 18, 19, 20, 21, 22, 23, 24, 25, 26, 27] [(0, .slice A0_0 l_.length c0_0), (3, .int .i64 (i : Int)), (44, .bool false), (46, .bool (decide ((i : Int) > 0)))] (by kernel_rfl) ?_
                  rw [show (decide ((i : Int) > 0)) = true from hb474]
                  refine segD2 hst [28, 29, 30, 34, 35, 36] [0, 1, 2, 3, 4, 5, 6, 7, 8, 9, 10, 11, 12, 13, 14, 15, 16, 17, 18, 19, 20, 21, 22, 23, 24, 25, 26, 27, 28, 29, 30, 34, 35, 36] [(0, .slice A0_0 l_.length c0_0), (3, .int .i64 (i : Int)), (44, .bool false), (47, .bool true), (48, .slice A0_0 l_.length c0_0), (49, .int .i64 (i : Int)), (53, .slice A0_0 l_.length c0_0), (55, .int .i64 (IntKind.i64.wrap ((i : Int) - 1)))] (by kernel_rfl) ?_
                  have := s0_0.bound
                  rw [show IntKind.i64.wrap ((i : Int) - 1) = ((i : Int) - 1) from w64 (by omega)]
                  refine takeD2 (i := 31) (d := (some 50)) (s := vS (Instr.indexAt 41 (.slice A0_0 l_.length c0_0) (.int .i64 (i : Int)))) (v := .pointer (some (ad480.add (i * 2)))) hst (by kernel_rfl) (by kernel_rfl) (fun w' hw' => idx_run 41 43 2 _ ad480 _ _ _ _ _ ea480 (by kernel_rfl) (by omega) (by have := (List.getElem?_eq_some_iff.1 h_x_).1; omega) rfl) ?_
                  refine segD2 hst [32] [0, 1, 2, 3, 4, 5, 6, 7, 8, 9, 10, 11, 12, 13, 14, 15, 16, 17, 18, 19, 20, 21, 22, 23, 24, 25, 26, 27, 28, 29, 30, 34, 35, 36, 31, 32] [(0, .slice A0_0 l_.length c0_0), (3, .int .i64 (i : Int)), (44, .bool false), (47, .bool true), (51, .pointer (some (ad480.add (i * 2)))), (53, .slice A0_0 l_.length c0_0), (55, .int .i64 ((i : Int) - 1))] (by kernel_rfl) ?_
                  refine takeD2 (i := 33) (d := (some 52)) (s := vS (Instr.loadAt 9 (.pointer (some (ad480.add (i * 2)))))) (v := (.string ⟨x_.Name.toArray⟩)) hst (by kernel_rfl) (by kernel_rfl) (fun w' hw' => ld_run _ _ _ (by kernel_rfl) (hw'.cell (mc0 (hc480 0 _ rfl)))) ?_
                  obtain ⟨ad481, _, ea481, ⟨A481_1, c481_1, rfl, hl481_0, hs481_1⟩, hc481⟩ := s0_0.at_ ix477 (by decide)
                  refine stD2 (i := 37) (by kernel_rfl) H.has (idxS (some 56) 41 43 2 A0_0 ad481 l_.length c0_0 .i64 ((i : Int) - 1) ea481 (by kernel_rfl) (by kernel_rfl) i0477 i1477 ?_)
                  refine segD2 hst [38] [0, 1, 2, 3, 4, 5, 6, 7, 8, 9, 10, 11, 12, 13, 14, 15, 16, 17, 18, 19, 20, 21, 22, 23, 24, 25, 26, 27, 28, 29, 30, 34, 35, 36, 31, 32, 33, 37, 38] [(0, .slice A0_0 l_.length c0_0), (3, .int .i64 (i : Int)), (44, .bool false), (47, .bool true), (52, .string ⟨x_.Name.toArray⟩), (57, .pointer (some (ad481.add (((i : Int) - 1).toNat * 2))))] (by kernel_rfl) ?_
                  refine stD2 (i := 39) (by kernel_rfl) H.has (ldR (some 58) 9 (ad481.add (((i : Int) - 1).toNat * 2)) (.string ⟨x_1.Name.toArray⟩) (by kernel_rfl) (by kernel_rfl) (H.cellI (mc0 (hc481 0 _ rfl))) ?_)
                  refine segD2 hst [40] [0, 1, 2, 3, 4, 5, 6, 7, 8, 9, 10, 11, 12, 13, 14, 15, 16, 17, 18, 19, 20, 21, 22, 23, 24, 25, 26, 27, 28, 29, 30, 34, 35, 36, 31, 32, 33, 37, 38, 39, 40] [(0, .slice A0_0 l_.length c0_0), (3, .int .i64 (i : Int)), (44, .bool false), (47, .bool true), (59, .bool (Go.Op.bytesLess (ByteArray.toList ⟨x_.Name.toArray⟩) (ByteArray.toList ⟨x_1.Name.toArray⟩) || (ByteArray.toList ⟨x_.Name.toArray⟩) == (ByteArray.toList ⟨x_1.Name.toArray⟩)))] (by kernel_rfl) ?_
                  rw [leB_raw x_.Name x_1.Name]
                  refine segD2 hst [41] [0, 1, 2, 3, 4, 5, 6, 7, 8, 9, 10, 11, 12, 13, 14, 15, 16, 17, 18, 19, 20, 21, 22, 23, 24, 25, 26, 27, 28, 29, 30, 34, 35, 36, 31, 32, 33, 37, 38, 39, 40, 41] [(0, .slice A0_0 l_.length c0_0), (3, .int .i64 (i : Int)), (44, .bool false), (60, .bool (leB x_.Name x_1.Name))] (by kernel_rfl) ?_
                  refine segD2 hst [42] [0, 1, 2, 3, 4, 5, 6, 7, 8, 9, 10, 11, 12, 13, 14, 15, 16, 17, 18, 19, 20, 21, 22, 23, 24, 25, 26, 27, 28, 29, 30, 34, 35, 36, 31, 32, 33, 37, 38, 39, 40, 41, 42] [(0, .slice A0_0 l_.length c0_0), (3, .int .i64 (i : Int)), (61, .bool (leB x_.Name x_1.Name))] (by kernel_rfl) ?_
                  refine endD2 (by kernel_rfl) H.has ?_
                  rcases condT hb_448 with ⟨hb482, hb_448⟩ | ⟨hb482, hb_448⟩
                  · rw [hb482]
                    refine seg 5 [.co [1, 1, 0, 1, 0, 0, 1, 0, 0, 0, 1, 0, 1], .co [1, 1, 0, 1, 0, 0, 1, 0, 0, 1], .bl 1, .co [1, 1, 0, 1, 0, 0, 1, 1], .le 1, .bl 0, .le 0, .co [1, 1, 1]] [(2, .bool false)] (by kernel_rfl) ?_
                    refine retR [2] [.bool false] (by kernel_rfl) (by kernel_rfl) (by kernel_rfl) ?_
                    have hret := (hfr370 _ (hfin448 _ (Option.some.inj hb_448).symm).symm)
                    subst hret
                    exact ⟨_, rfl, rfl, H.scalar⟩
                  · rw [hb482]
                    refine seg 6 [.co [1, 1, 0, 1, 0, 0, 1, 0, 0, 1, 1], .bl 1, .co [1, 1, 0, 1, 0, 0, 1, 1], .le 1, .bl 0, .le 0, .co [1, 1, 1]] [(0, .slice A0_0 l_.length c0_0), (3, .int .i64 (i : Int)), (4, .int .i64 0)] (by kernel_rfl) ?_
                    obtain ⟨y492, hp492, hfl492, hfr492⟩ := bndE hb_448
                    refine joinR 2 (fun (x : Unit) => [(0, .slice A0_0 l_.length c0_0), (3, .int .i64 (i : Int))]) (fun (x : Unit) (wj492 : World) => y492 = .inl () ∧ St w noF m m [] wj492) (by kernel_rfl) ?_ ?_
                    · refine seg 1 [.co [1, 1, 0, 1, 0, 0, 1, 0, 0, 1, 1, 0], .bl 2, .le 2, .bl 1, .co [1, 1, 0, 1, 0, 0, 1, 1], .le 1, .bl 0, .le 0, .co [1, 1, 1]] [(0, .slice A0_0 l_.length c0_0), (3, .int .i64 (i : Int)), (4, .int .i64 0)] (by kernel_rfl) ?_
                      obtain ⟨nn500, hR500⟩ := loopO_iff.1 hp492
                      refine loopR 3 (fun (x : Nat × Nat) => [(0, .slice A0_0 l_.length c0_0), (3, .int .i64 (i : Int)), (4, .int .i64 (x.2 : Int))]) (fun (x : Nat × Nat) (wl500 : World) => iter (fun s => ref17_RightAttrs_l2 x_ s) x.1 x.2 = some y492 ∧ St w noF m m [] wl500) (fun (x : Nat × Nat) => x.1) (nn500, 0) (by kernel_rfl) (by kernel_rfl) (by kernel_rfl) ?_ ?_
                      · exact ⟨hR500, H⟩
                      rintro ⟨n500, k⟩ wl500 ⟨hR500, H⟩
                      try dsimp only at hR500
                      try dsimp only at H
                      obtain ⟨nk500, q500, rfl, hb_500, hnx500, hfin500⟩ := iterE hR500
                      replace hb_500 : ref17_RightAttrs_l2 x_ k = some q500 := hb_500
                      unfold ref17_RightAttrs_l2 at hb_500
                      refine seg 6 [.op [1, 1, 0, 1, 0, 0, 1, 0, 0, 1, 1, 0, 0, 0, 0] 3, .co [1, 1, 0, 1, 0, 0, 1, 0, 0, 1, 1, 0, 0, 0, 1], .co [1, 1, 0, 1, 0, 0, 1, 0, 0, 1, 1, 0, 0, 1], .le 3, .bl 2, .le 2, .bl 1, .co [1, 1, 0, 1, 0, 0, 1, 1], .le 1, .bl 0, .le 0, .co [1, 1, 1]] [(0, .slice A0_0 l_.length c0_0), (3, .int .i64 (i : Int)), (4, .int .i64 (k : Int)), (62, .int .i64 (k : Int)), (63, .slice A0_0 l_.length c0_0), (64, .int .i64 (i : Int))] (by kernel_rfl) ?_
                      refine st (idxS (some 65) 41 43 2 A0_0 ad480 l_.length c0_0 .i64 (i : Int) ea480 (by kernel_rfl) (by kernel_rfl) (by omega) (by have := (List.getElem?_eq_some_iff.1 h_x_).1; omega) ?_)
                      refine seg 1 [.op [1, 1, 0, 1, 0, 0, 1, 0, 0, 1, 1, 0, 0, 0, 0] 5, .co [1, 1, 0, 1, 0, 0, 1, 0, 0, 1, 1, 0, 0, 0, 1], .co [1, 1, 0, 1, 0, 0, 1, 0, 0, 1, 1, 0, 0, 1], .le 3, .bl 2, .le 2, .bl 1, .co [1, 1, 0, 1, 0, 0, 1, 1], .le 1, .bl 0, .le 0, .co [1, 1, 1]] [(0, .slice A0_0 l_.length c0_0), (3, .int .i64 (i : Int)), (4, .int .i64 (k : Int)), (62, .int .i64 (k : Int)), (66, .pointer (some (ad480.add (i * 2))))] (by kernel_rfl) ?_
                      refine st (ldR (some 67) 9 (ad480.add (i * 2)) (.string ⟨x_.Name.toArray⟩) (by kernel_rfl) (by kernel_rfl) (H.cellI (mc0 (hc480 0 _ rfl))) ?_)
                      refine seg 3 [.co [1, 1, 0, 1, 0, 0, 1, 0, 0, 1, 1, 0, 0, 0, 1], .co [1, 1, 0, 1, 0, 0, 1, 0, 0, 1, 1, 0, 0, 1], .le 3, .bl 2, .le 2, .bl 1, .co [1, 1, 0, 1, 0, 0, 1, 1], .le 1, .bl 0, .le 0, .co [1, 1, 1]] [(0, .slice A0_0 l_.length c0_0), (3, .int .i64 (i : Int)), (4, .int .i64 (k : Int)), (69, .bool (decide ((k : Int) < (x_.Name.length : Int))))] (by kernel_rfl) ?_
                      rcases condT hb_500 with ⟨hb502, hb_500⟩ | ⟨hb502, hb_500⟩
                      · rw [hb502]
                        have p502 := of_decide_eq_true hb502
                        refine seg 8 [.op [1, 1, 0, 1, 0, 0, 1, 0, 0, 1, 1, 0, 0, 1, 0, 0, 0] 2, .co [1, 1, 0, 1, 0, 0, 1, 0, 0, 1, 1, 0, 0, 1, 0, 0, 1], .bl 3, .co [1, 1, 0, 1, 0, 0, 1, 0, 0, 1, 1, 0, 0, 1, 1], .le 3, .bl 2, .le 2, .bl 1, .co [1, 1, 0, 1, 0, 0, 1, 1], .le 1, .bl 0, .le 0, .co [1, 1, 1]] [(0, .slice A0_0 l_.length c0_0), (3, .int .i64 (i : Int)), (4, .int .i64 (k : Int)), (72, .slice A0_0 l_.length c0_0), (73, .int .i64 (i : Int))] (by kernel_rfl) ?_
                        refine st (idxS (some 74) 41 43 2 A0_0 ad480 l_.length c0_0 .i64 (i : Int) ea480 (by kernel_rfl) (by kernel_rfl) (by omega) (by have := (List.getElem?_eq_some_iff.1 h_x_).1; omega) ?_)
                        refine seg 1 [.op [1, 1, 0, 1, 0, 0, 1, 0, 0, 1, 1, 0, 0, 1, 0, 0, 0] 4, .co [1, 1, 0, 1, 0, 0, 1, 0, 0, 1, 1, 0, 0, 1, 0, 0, 1], .bl 3, .co [1, 1, 0, 1, 0, 0, 1, 0, 0, 1, 1, 0, 0, 1, 1], .le 3, .bl 2, .le 2, .bl 1, .co [1, 1, 0, 1, 0, 0, 1, 1], .le 1, .bl 0, .le 0, .co [1, 1, 1]] [(0, .slice A0_0 l_.length c0_0), (3, .int .i64 (i : Int)), (4, .int .i64 (k : Int)), (75, .pointer (some (ad480.add (i * 2))))] (by kernel_rfl) ?_
                        refine st (ldR (some 76) 9 (ad480.add (i * 2)) (.string ⟨x_.Name.toArray⟩) (by kernel_rfl) (by kernel_rfl) (H.cellI (mc0 (hc480 0 _ rfl))) ?_)
                        refine seg 1 [.op [1, 1, 0, 1, 0, 0, 1, 0, 0, 1, 1, 0, 0, 1, 0, 0, 0] 6, .co [1, 1, 0, 1, 0, 0, 1, 0, 0, 1, 1, 0, 0, 1, 0, 0, 1], .bl 3, .co [1, 1, 0, 1, 0, 0, 1, 0, 0, 1, 1, 0, 0, 1, 1], .le 3, .bl 2, .le 2, .bl 1, .co [1, 1, 0, 1, 0, 0, 1, 1], .le 1, .bl 0, .le 0, .co [1, 1, 1]] [(0, .slice A0_0 l_.length c0_0), (3, .int .i64 (i : Int)), (4, .int .i64 (k : Int)), (76, .string ⟨x_.Name.toArray⟩), (77, .int .i64 (k : Int))] (by kernel_rfl) ?_
                        obtain ⟨c, h_c, hb_500⟩ := bindE hb_500
                        refine st (strS (some 78) 9 x_.Name .i64 (k : Int) c (by kernel_rfl) (by kernel_rfl) h_c ?_)
                        refine seg 2 [.co [1, 1, 0, 1, 0, 0, 1, 0, 0, 1, 1, 0, 0, 1, 0, 0, 1], .bl 3, .co [1, 1, 0, 1, 0, 0, 1, 0, 0, 1, 1, 0, 0, 1, 1], .le 3, .bl 2, .le 2, .bl 1, .co [1, 1, 0, 1, 0, 0, 1, 1], .le 1, .bl 0, .le 0, .co [1, 1, 1]] [(0, .slice A0_0 l_.length c0_0), (3, .int .i64 (i : Int)), (4, .int .i64 (k : Int)), (79, .bool ((c.toNat : Int) == 0))] (by kernel_rfl) ?_
                        rcases condT hb_500 with ⟨hb503, hb_500⟩ | ⟨hb503, hb_500⟩
                        · rw [hb503]
                          refine seg 5 [.co [1, 1, 0, 1, 0, 0, 1, 0, 0, 1, 1, 0, 0, 1, 0, 0, 1, 0, 1], .bl 3, .co [1, 1, 0, 1, 0, 0, 1, 0, 0, 1, 1, 0, 0, 1, 1], .le 3, .bl 2, .le 2, .bl 1, .co [1, 1, 0, 1, 0, 0, 1, 1], .le 1, .bl 0, .le 0, .co [1, 1, 1]] [(2, .bool false)] (by kernel_rfl) ?_
                          refine retR [2] [.bool false] (by kernel_rfl) (by kernel_rfl) (by kernel_rfl) ?_
                          have hret := (hfr370 _ (hfin448 _ (hfr492 _ (hfin500 _ (Option.some.inj hb_500).symm).symm).symm).symm)
                          subst hret
                          exact ⟨_, rfl, rfl, H.scalar⟩
                        · rw [hb503]
                          refine seg 8 [.le 3, .bl 2, .le 2, .bl 1, .co [1, 1, 0, 1, 0, 0, 1, 1], .le 1, .bl 0, .le 0, .co [1, 1, 1]] [(0, .slice A0_0 l_.length c0_0), (3, .int .i64 (i : Int)), (4, .int .i64 (IntKind.i64.wrap ((k : Int) + 1)))] (by kernel_rfl) ?_
                          have := hl480_0
                          rw [show IntKind.i64.wrap ((k : Int) + 1) = ((k : Int) + 1) from w64 (by omega)]
                          refine leR (nk500, (k + 1)) (Nat.lt_succ_self _) ⟨hnx500 _ (Option.some.inj hb_500).symm, H⟩ (by kernel_rfl)
                      · rw [hb502]
                        have p502 := of_decide_eq_false hb502
                        refine seg 2 [.le 2, .bl 1, .co [1, 1, 0, 1, 0, 0, 1, 1], .le 1, .bl 0, .le 0, .co [1, 1, 1]] [(0, .slice A0_0 l_.length c0_0), (3, .int .i64 (i : Int))] (by kernel_rfl) ?_
                        refine leR_up (k' := []) (by rfl) ?_
                        refine leJ () ⟨(hfin500 _ (Option.some.inj hb_500).symm).symm, H⟩ (by kernel_rfl)
                    rintro _ wj492 ⟨hy492, H⟩
                    have hb_448 := hfl492 _ hy492
                    try dsimp only at hb_448
                    refine seg 6 [.le 1, .bl 0, .le 0, .co [1, 1, 1]] [(0, .slice A0_0 l_.length c0_0), (3, .int .i64 (IntKind.i64.wrap ((i : Int) + 1)))] (by kernel_rfl) ?_
                    have := s0_0.bound
                    rw [show IntKind.i64.wrap ((i : Int) + 1) = ((i : Int) + 1) from w64 (by omega)]
                    refine leR (nk448, (i + 1)) (Nat.lt_succ_self _) ⟨hnx448 _ (Option.some.inj hb_448).symm, H⟩ (by kernel_rfl)
                · have p474 := of_decide_eq_false hb474
                  have hst : statB (bodyOf Try.f20) [1, 1, 0, 1, 0, 0, 1, 0, 0, 0, 0] = true := by kernel_rfl
                  refine drawS (Has m) H (by kernel_rfl) (by kernel_rfl) ?_
                  intro w506 H
                  refine segD2 hst [0, 1] [0, 1] [(0, .slice A0_0 l_.length c0_0), (3, .int .i64 (i : Int)), (19, .slice A0_0 l_.length c0_0), (20, .int .i64 (i : Int))] (by kernel_rfl) ?_
                  obtain ⟨ad507, _, ea507, ⟨A507_1, c507_1, rfl, hl507_0, hs507_1⟩, hc507⟩ := s0_0.at_ h_x_ (by decide)
                  refine stD2 (i := 2) (by kernel_rfl) H.has (idxS (some 21) 41 43 2 A0_0 ad507 l_.length c0_0 .i64 (i : Int) ea507 (by kernel_rfl) (by kernel_rfl) (by omega) (by have := (List.getElem?_eq_some_iff.1 h_x_).1; omega) ?_)
                  refine segD2 hst [3] [0, 1, 2, 3] [(0, .slice A0_0 l_.length c0_0), (3, .int .i64 (i : Int)), (22, .pointer (some (ad507.add (i * 2))))] (by kernel_rfl) ?_
                  refine stD2 (i := 4) (by kernel_rfl) H.has (ldR (some 23) 9 (ad507.add (i * 2)) (.string ⟨x_.Name.toArray⟩) (by kernel_rfl) (by kernel_rfl) (H.cellI (mc0 (hc507 0 _ rfl))) ?_)
                  refine segD2 hst [5, 6] [0, 1, 2, 3, 4, 5, 6] [(0, .slice A0_0 l_.length c0_0), (3, .int .i64 (i : Int)), (25, .bool (decide ((x_.Name.length : Int) < 1)))] (by kernel_rfl) ?_
                  rw [show (decide ((x_.Name.length : Int) < 1)) = false from hb453]
                  refine segD2 hst [7, 8, 9] [0, 1, 2, 3, 4, 5, 6, 7, 8, 9] [(0, .slice A0_0 l_.length c0_0), (3, .int .i64 (i : Int)), (26, .bool false), (27, .slice A0_0 l_.length c0_0), (28, .int .i64 (i : Int))] (by kernel_rfl) ?_
                  refine stD2 (i := 10) (by kernel_rfl) H.has (idxS (some 29) 41 43 2 A0_0 ad507 l_.length c0_0 .i64 (i : Int) ea507 (by kernel_rfl) (by kernel_rfl) (by omega) (by have := (List.getElem?_eq_some_iff.1 h_x_).1; omega) ?_)
                  refine segD2 hst [11] [0, 1, 2, 3, 4, 5, 6, 7, 8, 9, 10, 11] [(0, .slice A0_0 l_.length c0_0), (3, .int .i64 (i : Int)), (26, .bool false), (30, .pointer (some (ad507.add (i * 2))))] (by kernel_rfl) ?_
                  refine stD2 (i := 12) (by kernel_rfl) H.has (ldR (some 31) 9 (ad507.add (i * 2)) (.string ⟨x_.Name.toArray⟩) (by kernel_rfl) (by kernel_rfl) (H.cellI (mc0 (hc507 0 _ rfl))) ?_)
                  refine segD2 hst [13, 14] [0, 1, 2, 3, 4, 5, 6, 7, 8, 9, 10, 11, 12, 13, 14] [(0, .slice A0_0 l_.length c0_0), (3, .int .i64 (i : Int)), (26, .bool false), (33, .bool (decide ((x_.Name.length : Int) > 255)))] (by kernel_rfl) ?_
                  rw [show (decide ((x_.Name.length : Int) > 255)) = false from hb460]
                  refine segD2 hst [15, 16, 17, 18] [0, 1, 2, 3, 4, 5, 6, 7, 8, 9, 10, 11, 12, 13, 14, 15, 16, 17, 18] [(0, .slice A0_0 l_.length c0_0), (3, .int .i64 (i : Int)), (35, .bool false), (36, .slice A0_0 l_.length c0_0), (37, .int .i64 (i : Int))] (by kernel_rfl) ?_
                  refine stD2 (i := 19) (by kernel_rfl) H.has (idxS (some 38) 41 43 2 A0_0 ad507 l_.length c0_0 .i64 (i : Int) ea507 (by kernel_rfl) (by kernel_rfl) (by omega) (by have := (List.getElem?_eq_some_iff.1 h_x_).1; omega) ?_)
                  refine segD2 hst [20] [0, 1, 2, 3, 4, 5, 6, 7, 8, 9, 10, 11, 12, 13, 14, 15, 16, 17, 18, 19, 20] [(0, .slice A0_0 l_.length c0_0), (3, .int .i64 (i : Int)), (35, .bool false), (39, .pointer (some ((ad507.add (i * 2)).add 1)))] (by kernel_rfl) ?_
                  refine stD2 (i := 21) (by kernel_rfl) H.has (ldR (some 40) 29 ((ad507.add (i * 2)).add 1) (.slice A507_1 x_.Value.length c507_1) (by kernel_rfl) (by kernel_rfl) (H.cellI (hc507 1 _ rfl)) ?_)
                  refine segD2 hst [22, 23] [0, 1, 2, 3, 4, 5, 6, 7, 8, 9, 10, 11, 12, 13, 14, 15, 16, 17, 18, 19, 20, 21, 22, 23] [(0, .slice A0_0 l_.length c0_0), (3, .int .i64 (i : Int)), (35, .bool false), (42, .bool (decide ((x_.Value.length : Int) > 4096)))] (by kernel_rfl) ?_
                  rw [show (decide ((x_.Value.length : Int) > 4096)) = false from hb467]
                  refine segD2 hst [24, 25, 26, 27] [0, 1, 2, 3, 4, 5, 6, 7, 8, 9, 10, 11, 12, 13, 14, 15, 16, 17, 18, 19, 20, 21, 22, 23, 24, 25, 26, 27] [(0, .slice A0_0 l_.length c0_0), (3, .int .i64 (i : Int)), (44, .bool false), (46, .bool (decide ((i : Int) > 0)))] (by kernel_rfl) ?_
                  rw [show (decide ((i : Int) > 0)) = false from hb474]
                  refine segD2 hst [28, 29, 30, 31, 32, 33, 34, 35, 36, 37, 38, 39, 40, 41, 42] [0, 1, 2, 3, 4, 5, 6, 7, 8, 9, 10, 11, 12, 13, 14, 15, 16, 17, 18, 19, 20, 21, 22, 23, 24, 25, 26, 27, 28, 29, 30, 31, 32, 33, 34, 35, 36, 37, 38, 39, 40, 41, 42] [(0, .slice A0_0 l_.length c0_0), (3, .int .i64 (i : Int)), (61, .bool false)] (by kernel_rfl) ?_
                  refine endD2 (by kernel_rfl) H.has ?_
                  refine seg 6 [.co [1, 1, 0, 1, 0, 0, 1, 0, 0, 1, 1], .bl 1, .co [1, 1, 0, 1, 0, 0, 1, 1], .le 1, .bl 0, .le 0, .co [1, 1, 1]] [(0, .slice A0_0 l_.length c0_0), (3, .int .i64 (i : Int)), (4, .int .i64 0)] (by kernel_rfl) ?_
                  obtain ⟨y519, hp519, hfl519, hfr519⟩ := bndE hb_448
                  refine joinR 2 (fun (x : Unit) => [(0, .slice A0_0 l_.length c0_0), (3, .int .i64 (i : Int))]) (fun (x : Unit) (wj519 : World) => y519 = .inl () ∧ St w noF m m [] wj519) (by kernel_rfl) ?_ ?_
                  · refine seg 1 [.co [1, 1, 0, 1, 0, 0, 1, 0, 0, 1, 1, 0], .bl 2, .le 2, .bl 1, .co [1, 1, 0, 1, 0, 0, 1, 1], .le 1, .bl 0, .le 0, .co [1, 1, 1]] [(0, .slice A0_0 l_.length c0_0), (3, .int .i64 (i : Int)), (4, .int .i64 0)] (by kernel_rfl) ?_
                    obtain ⟨nn527, hR527⟩ := loopO_iff.1 hp519
                    refine loopR 3 (fun (x : Nat × Nat) => [(0, .slice A0_0 l_.length c0_0), (3, .int .i64 (i : Int)), (4, .int .i64 (x.2 : Int))]) (fun (x : Nat × Nat) (wl527 : World) => iter (fun s => ref17_RightAttrs_l3 x_ s) x.1 x.2 = some y519 ∧ St w noF m m [] wl527) (fun (x : Nat × Nat) => x.1) (nn527, 0) (by kernel_rfl) (by kernel_rfl) (by kernel_rfl) ?_ ?_
                    · exact ⟨hR527, H⟩
                    rintro ⟨n527, k1⟩ wl527 ⟨hR527, H⟩
                    try dsimp only at hR527
                    try dsimp only at H
                    obtain ⟨nk527, q527, rfl, hb_527, hnx527, hfin527⟩ := iterE hR527
                    replace hb_527 : ref17_RightAttrs_l3 x_ k1 = some q527 := hb_527
                    unfold ref17_RightAttrs_l3 at hb_527
                    refine seg 6 [.op [1, 1, 0, 1, 0, 0, 1, 0, 0, 1, 1, 0, 0, 0, 0] 3, .co [1, 1, 0, 1, 0, 0, 1, 0, 0, 1, 1, 0, 0, 0, 1], .co [1, 1, 0, 1, 0, 0, 1, 0, 0, 1, 1, 0, 0, 1], .le 3, .bl 2, .le 2, .bl 1, .co [1, 1, 0, 1, 0, 0, 1, 1], .le 1, .bl 0, .le 0, .co [1, 1, 1]] [(0, .slice A0_0 l_.length c0_0), (3, .int .i64 (i : Int)), (4, .int .i64 (k1 : Int)), (62, .int .i64 (k1 : Int)), (63, .slice A0_0 l_.length c0_0), (64, .int .i64 (i : Int))] (by kernel_rfl) ?_
                    refine st (idxS (some 65) 41 43 2 A0_0 ad507 l_.length c0_0 .i64 (i : Int) ea507 (by kernel_rfl) (by kernel_rfl) (by omega) (by have := (List.getElem?_eq_some_iff.1 h_x_).1; omega) ?_)
                    refine seg 1 [.op [1, 1, 0, 1, 0, 0, 1, 0, 0, 1, 1, 0, 0, 0, 0] 5, .co [1, 1, 0, 1, 0, 0, 1, 0, 0, 1, 1, 0, 0, 0, 1], .co [1, 1, 0, 1, 0, 0, 1, 0, 0, 1, 1, 0, 0, 1], .le 3, .bl 2, .le 2, .bl 1, .co [1, 1, 0, 1, 0, 0, 1, 1], .le 1, .bl 0, .le 0, .co [1, 1, 1]] [(0, .slice A0_0 l_.length c0_0), (3, .int .i64 (i : Int)), (4, .int .i64 (k1 : Int)), (62, .int .i64 (k1 : Int)), (66, .pointer (some (ad507.add (i * 2))))] (by kernel_rfl) ?_
                    refine st (ldR (some 67) 9 (ad507.add (i * 2)) (.string ⟨x_.Name.toArray⟩) (by kernel_rfl) (by kernel_rfl) (H.cellI (mc0 (hc507 0 _ rfl))) ?_)
                    refine seg 3 [.co [1, 1, 0, 1, 0, 0, 1, 0, 0, 1, 1, 0, 0, 0, 1], .co [1, 1, 0, 1, 0, 0, 1, 0, 0, 1, 1, 0, 0, 1], .le 3, .bl 2, .le 2, .bl 1, .co [1, 1, 0, 1, 0, 0, 1, 1], .le 1, .bl 0, .le 0, .co [1, 1, 1]] [(0, .slice A0_0 l_.length c0_0), (3, .int .i64 (i : Int)), (4, .int .i64 (k1 : Int)), (69, .bool (decide ((k1 : Int) < (x_.Name.length : Int))))] (by kernel_rfl) ?_
                    rcases condT hb_527 with ⟨hb529, hb_527⟩ | ⟨hb529, hb_527⟩
                    · rw [hb529]
                      have p529 := of_decide_eq_true hb529
                      refine seg 8 [.op [1, 1, 0, 1, 0, 0, 1, 0, 0, 1, 1, 0, 0, 1, 0, 0, 0] 2, .co [1, 1, 0, 1, 0, 0, 1, 0, 0, 1, 1, 0, 0, 1, 0, 0, 1], .bl 3, .co [1, 1, 0, 1, 0, 0, 1, 0, 0, 1, 1, 0, 0, 1, 1], .le 3, .bl 2, .le 2, .bl 1, .co [1, 1, 0, 1, 0, 0, 1, 1], .le 1, .bl 0, .le 0, .co [1, 1, 1]] [(0, .slice A0_0 l_.length c0_0), (3, .int .i64 (i : Int)), (4, .int .i64 (k1 : Int)), (72, .slice A0_0 l_.length c0_0), (73, .int .i64 (i : Int))] (by kernel_rfl) ?_
                      refine st (idxS (some 74) 41 43 2 A0_0 ad507 l_.length c0_0 .i64 (i : Int) ea507 (by kernel_rfl) (by kernel_rfl) (by omega) (by have := (List.getElem?_eq_some_iff.1 h_x_).1; omega) ?_)
                      refine seg 1 [.op [1, 1, 0, 1, 0, 0, 1, 0, 0, 1, 1, 0, 0, 1, 0, 0, 0] 4, .co [1, 1, 0, 1, 0, 0, 1, 0, 0, 1, 1, 0, 0, 1, 0, 0, 1], .bl 3, .co [1, 1, 0, 1, 0, 0, 1, 0, 0, 1, 1, 0, 0, 1, 1], .le 3, .bl 2, .le 2, .bl 1, .co [1, 1, 0, 1, 0, 0, 1, 1], .le 1, .bl 0, .le 0, .co [1, 1, 1]] [(0, .slice A0_0 l_.length c0_0), (3, .int .i64 (i : Int)), (4, .int .i64 (k1 : Int)), (75, .pointer (some (ad507.add (i * 2))))] (by kernel_rfl) ?_
                      refine st (ldR (some 76) 9 (ad507.add (i * 2)) (.string ⟨x_.Name.toArray⟩) (by kernel_rfl) (by kernel_rfl) (H.cellI (mc0 (hc507 0 _ rfl))) ?_)
                      refine seg 1 [.op [1, 1, 0, 1, 0, 0, 1, 0, 0, 1, 1, 0, 0, 1, 0, 0, 0] 6, .co [1, 1, 0, 1, 0, 0, 1, 0, 0, 1, 1, 0, 0, 1, 0, 0, 1], .bl 3, .co [1, 1, 0, 1, 0, 0, 1, 0, 0, 1, 1, 0, 0, 1, 1], .le 3, .bl 2, .le 2, .bl 1, .co [1, 1, 0, 1, 0, 0, 1, 1], .le 1, .bl 0, .le 0, .co [1, 1, 1]] [(0, .slice A0_0 l_.length c0_0), (3, .int .i64 (i : Int)), (4, .int .i64 (k1 : Int)), (76, .string ⟨x_.Name.toArray⟩), (77, .int .i64 (k1 : Int))] (by kernel_rfl) ?_
                      obtain ⟨c1, h_c1, hb_527⟩ := bindE hb_527
                      refine st (strS (some 78) 9 x_.Name .i64 (k1 : Int) c1 (by kernel_rfl) (by kernel_rfl) h_c1 ?_)
                      refine seg 2 [.co [1, 1, 0, 1, 0, 0, 1, 0, 0, 1, 1, 0, 0, 1, 0, 0, 1], .bl 3, .co [1, 1, 0, 1, 0, 0, 1, 0, 0, 1, 1, 0, 0, 1, 1], .le 3, .bl 2, .le 2, .bl 1, .co [1, 1, 0, 1, 0, 0, 1, 1], .le 1, .bl 0, .le 0, .co [1, 1, 1]] [(0, .slice A0_0 l_.length c0_0), (3, .int .i64 (i : Int)), (4, .int .i64 (k1 : Int)), (79, .bool ((c1.toNat : Int) == 0))] (by kernel_rfl) ?_
                      rcases condT hb_527 with ⟨hb530, hb_527⟩ | ⟨hb530, hb_527⟩
                      · rw [hb530]
                        refine seg 5 [.co [1, 1, 0, 1, 0, 0, 1, 0, 0, 1, 1, 0, 0, 1, 0, 0, 1, 0, 1], .bl 3, .co [1, 1, 0, 1, 0, 0, 1, 0, 0, 1, 1, 0, 0, 1, 1], .le 3, .bl 2, .le 2, .bl 1, .co [1, 1, 0, 1, 0, 0, 1, 1], .le 1, .bl 0, .le 0, .co [1, 1, 1]] [(2, .bool false)] (by kernel_rfl) ?_
                        refine retR [2] [.bool false] (by kernel_rfl) (by kernel_rfl) (by kernel_rfl) ?_
                        have hret := (hfr370 _ (hfin448 _ (hfr519 _ (hfin527 _ (Option.some.inj hb_527).symm).symm).symm).symm)
                        subst hret
                        exact ⟨_, rfl, rfl, H.scalar⟩
                      · rw [hb530]
                        refine seg 8 [.le 3, .bl 2, .le 2, .bl 1, .co [1, 1, 0, 1, 0, 0, 1, 1], .le 1, .bl 0, .le 0, .co [1, 1, 1]] [(0, .slice A0_0 l_.length c0_0), (3, .int .i64 (i : Int)), (4, .int .i64 (IntKind.i64.wrap ((k1 : Int) + 1)))] (by kernel_rfl) ?_
                        have := hl507_0
                        rw [show IntKind.i64.wrap ((k1 : Int) + 1) = ((k1 : Int) + 1) from w64 (by omega)]
                        refine leR (nk527, (k1 + 1)) (Nat.lt_succ_self _) ⟨hnx527 _ (Option.some.inj hb_527).symm, H⟩ (by kernel_rfl)
                    · rw [hb529]
                      have p529 := of_decide_eq_false hb529
                      refine seg 2 [.le 2, .bl 1, .co [1, 1, 0, 1, 0, 0, 1, 1], .le 1, .bl 0, .le 0, .co [1, 1, 1]] [(0, .slice A0_0 l_.length c0_0), (3, .int .i64 (i : Int))] (by kernel_rfl) ?_
                      refine leR_up (k' := []) (by rfl) ?_
                      refine leJ () ⟨(hfin527 _ (Option.some.inj hb_527).symm).symm, H⟩ (by kernel_rfl)
                  rintro _ wj519 ⟨hy519, H⟩
                  have hb_448 := hfl519 _ hy519
                  try dsimp only at hb_448
                  refine seg 6 [.le 1, .bl 0, .le 0, .co [1, 1, 1]] [(0, .slice A0_0 l_.length c0_0), (3, .int .i64 (IntKind.i64.wrap ((i : Int) + 1)))] (by kernel_rfl) ?_
                  have := s0_0.bound
                  rw [show IntKind.i64.wrap ((i : Int) + 1) = ((i : Int) + 1) from w64 (by omega)]
                  refine leR (nk448, (i + 1)) (Nat.lt_succ_self _) ⟨hnx448 _ (Option.some.inj hb_448).symm, H⟩ (by kernel_rfl)
        · rw [hb450]
          have p450 := of_decide_eq_false hb450
          refine seg 2 [.le 0, .co [1, 1, 1]] [] (by kernel_rfl) ?_
          refine leR_up (k' := []) (by rfl) ?_
          refine leJ () ⟨(hfin448 _ (Option.some.inj hb_448).symm).symm, H⟩ (by kernel_rfl)
      rintro _ wj370 ⟨hy370, H⟩
      have hf := hfl370 _ hy370
      try dsimp only at hf
      refine seg 4 [.co [1, 1, 1, 1]] [(2, .bool true)] (by kernel_rfl) ?_
      refine retR [2] [.bool true] (by kernel_rfl) (by kernel_rfl) (by kernel_rfl) ?_
      have hret := (Option.some.inj hf)
      subst hret
      exact ⟨_, rfl, rfl, H.scalar⟩
theorem ref17_AttrBytes_c {m : Mem} {w : World} (hm : Has m w) (l_ : (List TApiAttr)) (A0_0 : Option Addr) (c0_0 : Nat) (s0_0 : SlI rApiAttr m A0_0 c0_0 l_) {r : (List UInt8)} (hf : ref17_AttrBytes l_ = some r) :
    Calls Try.prog 21 #[.slice A0_0 l_.length c0_0] w fun e w' => ∃ v, e = .returned v ∧ ∃ Az_0 : Option Addr, ∃ cz_0 : Nat, ∃ m' : Mem, v = .slice Az_0 r.length cz_0 ∧ St w noF m m' [rowI rU8 5 Az_0 cz_0 r] w' := by
  unfold ref17_AttrBytes at hf
  have H := St.start0 hm
  refine callsR Try.func21 (by kernel_rfl) (by kernel_rfl) ?_
  refine seg 9 [.op [1, 0] 3, .co [1, 1]] [(0, .slice A0_0 l_.length c0_0), (7, .int .u64 (IntKind.u64.wrap (l_.length : Int)))] (by kernel_rfl) ?_
  rw [q64_wrap (l_.length : Int)]
  obtain ⟨store, h_store, hf⟩ := bindE hf
  refine st (callR (some 8) 39 #[.int .u64 ((UInt64.ofInt (l_.length : Int)).toNat : Int), .int .i64 2] Try.call39 (ref01_Store_c H.has (UInt64.ofInt (l_.length : Int)) 2 h_store) (by kernel_rfl) ?_)
  rintro _ w1 ⟨A1_0, c1_0, mk1, rfl, hS1⟩
  have hsub1 := hS1.sub
  replace H := H.call0 hS1
  refine seg 7 [.co [1, 1, 0, 1], .co [1, 1, 1]] [(0, .slice A0_0 l_.length c0_0), (3, .slice A1_0 store.length c1_0), (4, .int .i64 0)] (by kernel_rfl) ?_
  obtain ⟨y99, hp99, hf⟩ := bindE hf
  refine joinR 0 (fun (x : (List UInt8) × Option Addr × Nat × Mem) => [(3, .slice (x.2.1) x.1.length (x.2.2.1))]) (fun (x : (List UInt8) × Option Addr × Nat × Mem) (wj99 : World) => y99 = x.1 ∧ St w noF m x.2.2.2 [rowI rU8 5 (x.2.1) (x.2.2.1) x.1] wj99 ∧ Sub mk1 x.2.2.2) (by kernel_rfl) ?_ ?_
  · refine seg 1 [.co [1, 1, 0, 1, 0], .bl 0, .le 0, .co [1, 1, 1]] [(0, .slice A0_0 l_.length c0_0), (3, .slice A1_0 store.length c1_0), (4, .int .i64 0)] (by kernel_rfl) ?_
    obtain ⟨nn125, hR125⟩ := loopO_iff.1 hp99
    refine loopR 1 (fun (x : Nat × (List UInt8) × Nat × Option Addr × Nat × Mem) => [(0, .slice A0_0 l_.length c0_0), (3, .slice (x.2.2.2.1) x.2.1.length (x.2.2.2.2.1)), (4, .int .i64 (x.2.2.1 : Int))]) (fun (x : Nat × (List UInt8) × Nat × Option Addr × Nat × Mem) (wl125 : World) => iter (fun s => ref17_AttrBytes_l1 l_ s.1 s.2) x.1 (x.2.1, x.2.2.1) = some y99 ∧ St w noF m x.2.2.2.2.2 [rowI rU8 5 (x.2.2.2.1) (x.2.2.2.2.1) x.2.1] wl125 ∧ Sub mk1 x.2.2.2.2.2) (fun (x : Nat × (List UInt8) × Nat × Option Addr × Nat × Mem) => x.1) (nn125, store, 0, A1_0, c1_0, mk1) (by kernel_rfl) (by kernel_rfl) (by kernel_rfl) ?_ ?_
    · exact ⟨hR125, H, (Sub.refl _)⟩
    rintro ⟨n125, b, i, A_1_126, c_2_126, mm126⟩ wl125 ⟨hR125, H, hsub126⟩
    try dsimp only at hR125
    try dsimp only at H
    try dsimp only at hsub126
    obtain ⟨nk125, q125, rfl, hb_125, hnx125, hfin125⟩ := iterE hR125
    replace hb_125 : ref17_AttrBytes_l1 l_ b i = some q125 := hb_125
    unfold ref17_AttrBytes_l1 at hb_125
    refine seg 8 [.co [1, 1, 0, 1, 0, 0, 0, 1], .co [1, 1, 0, 1, 0, 0, 1], .le 1, .bl 0, .le 0, .co [1, 1, 1]] [(0, .slice A0_0 l_.length c0_0), (3, .slice A_1_126 b.length c_2_126), (4, .int .i64 (i : Int)), (12, .bool (decide ((i : Int) < (l_.length : Int))))] (by kernel_rfl) ?_
    rcases condT hb_125 with ⟨hb127, hb_125⟩ | ⟨hb127, hb_125⟩
    · rw [hb127]
      have p127 := of_decide_eq_true hb127
      refine seg 5 [.co [1, 1, 0, 1, 0, 0, 1, 0, 0, 0], .co [1, 1, 0, 1, 0, 0, 1, 0, 0, 1], .bl 1, .co [1, 1, 0, 1, 0, 0, 1, 1], .le 1, .bl 0, .le 0, .co [1, 1, 1]] [(0, .slice A0_0 l_.length c0_0), (3, .slice A_1_126 b.length c_2_126), (4, .int .i64 (i : Int))] (by kernel_rfl) ?_
      obtain ⟨x_, h_x_, hb_125⟩ := bindE hb_125
      obtain ⟨b1, h_b1, hb_125⟩ := bindE hb_125
      obtain ⟨b2, h_b2, hb_125⟩ := bindE hb_125
      have hst : statB (bodyOf Try.f21) [1, 1, 0, 1, 0, 0, 1, 0, 0, 0] = true := by kernel_rfl
      refine drawS (Has mm126) H (by kernel_rfl) (by kernel_rfl) ?_
      intro w133 H
      refine segD2 hst [0, 1, 2, 10, 11] [0, 1, 2, 10, 11] [(0, .slice A0_0 l_.length c0_0), (4, .int .i64 (i : Int)), (15, .slice A_1_126 b.length c_2_126), (16, .slice A0_0 l_.length c0_0), (17, .int .i64 (i : Int)), (25, .slice A0_0 l_.length c0_0), (26, .int .i64 (i : Int))] (by kernel_rfl) ?_
      obtain ⟨ad134, _, ea134, ⟨A134_1, c134_1, rfl, hl134_0, hs134_1⟩, hc134⟩ := (s0_0.mono (hsub1.trans hsub126)).at_ h_x_ (by decide)
      refine takeD2 (i := 3) (d := (some 18)) (s := vS (Instr.indexAt 41 (.slice A0_0 l_.length c0_0) (.int .i64 (i : Int)))) (v := .pointer (some (ad134.add (i * 2)))) hst (by kernel_rfl) (by kernel_rfl) (fun w' hw' => idx_run 41 43 2 _ ad134 _ _ _ _ _ ea134 (by kernel_rfl) (by omega) (by have := (List.getElem?_eq_some_iff.1 h_x_).1; omega) rfl) ?_
      refine segD2 hst [4] [0, 1, 2, 10, 11, 3, 4] [(0, .slice A0_0 l_.length c0_0), (4, .int .i64 (i : Int)), (15, .slice A_1_126 b.length c_2_126), (19, .pointer (some (ad134.add (i * 2)))), (25, .slice A0_0 l_.length c0_0), (26, .int .i64 (i : Int))] (by kernel_rfl) ?_
      refine takeD2 (i := 5) (d := (some 20)) (s := vS (Instr.loadAt 9 (.pointer (some (ad134.add (i * 2)))))) (v := (.string ⟨x_.Name.toArray⟩)) hst (by kernel_rfl) (by kernel_rfl) (fun w' hw' => ld_run _ _ _ (by kernel_rfl) (hw'.cell (mc0 (hc134 0 _ rfl)))) ?_
      refine segD2 hst [6, 7] [0, 1, 2, 10, 11, 3, 4, 5, 6, 7] [(0, .slice A0_0 l_.length c0_0), (4, .int .i64 (i : Int)), (15, .slice A_1_126 b.length c_2_126), (22, .int .u8 (IntKind.u8.wrap (x_.Name.length : Int))), (25, .slice A0_0 l_.length c0_0), (26, .int .i64 (i : Int))] (by kernel_rfl) ?_
      rw [q8_wrap (x_.Name.length : Int)]
      refine takeD2 (i := 12) (d := (some 27)) (s := vS (Instr.indexAt 41 (.slice A0_0 l_.length c0_0) (.int .i64 (i : Int)))) (v := .pointer (some (ad134.add (i * 2)))) hst (by kernel_rfl) (by kernel_rfl) (fun w' hw' => idx_run 41 43 2 _ ad134 _ _ _ _ _ ea134 (by kernel_rfl) (by omega) (by have := (List.getElem?_eq_some_iff.1 h_x_).1; omega) rfl) ?_
      refine segD2 hst [13] [0, 1, 2, 10, 11, 3, 4, 5, 6, 7, 12, 13] [(0, .slice A0_0 l_.length c0_0), (4, .int .i64 (i : Int)), (15, .slice A_1_126 b.length c_2_126), (22, .int .u8 ((UInt8.ofInt (x_.Name.length : Int)).toNat : Int)), (28, .pointer (some (ad134.add (i * 2))))] (by kernel_rfl) ?_
      refine takeD2 (i := 14) (d := (some 29)) (s := vS (Instr.loadAt 9 (.pointer (some (ad134.add (i * 2)))))) (v := (.string ⟨x_.Name.toArray⟩)) hst (by kernel_rfl) (by kernel_rfl) (fun w' hw' => ld_run _ _ _ (by kernel_rfl) (hw'.cell (mc0 (hc134 0 _ rfl)))) ?_
      replace H : St w noF m mm126 [rowI rU8 5 A_1_126 c_2_126 b] w133 := H
      refine stD2 (i := 8) (by kernel_rfl) H.has (newS (some 23) (fun g => .slice (some ⟨g, 0, none⟩) 1 1) [.int .u8 ((UInt8.ofInt (x_.Name.length : Int)).toNat : Int)] 5 H (by kernel_rfl) ?_)
      intro g135 w135 H
      refine stD2 (i := 9) (by kernel_rfl) H.has (appS (r := rU8) (some 24) 29 5 1 (.int .u8 0) 29 1 A_1_126 (some ⟨g135, 0, none⟩) c_2_126 1 1 b [(UInt8.ofInt (x_.Name.length : Int))] b1 _ H rfl ⟨Try.underlying29, by kernel_rfl⟩ rfl (by decide) (by kernel_rfl) (Cs.of_blk (H.blk 0 rfl)) (Rows.u8.2 rfl) rfl h_b1 (by decide) (by decide) ?_)
      intro A136 c136 w136 H
      replace H := H.drop 0 rfl
      refine stD2 (i := 15) (by kernel_rfl) H.has (appstrS (some 30) 29 9 5 29 0 A136 c136 b1 x_.Name b2 H rfl ⟨Try.underlying29, by kernel_rfl⟩ Try.underlying9 (by kernel_rfl) h_b2 ?_)
      intro A137 c137 w137 H
      refine segD2 hst [16] [0, 1, 2, 10, 11, 3, 4, 5, 6, 7, 12, 13, 14, 8, 9, 15, 16] [(0, .slice A0_0 l_.length c0_0), (3, .slice A137 b2.length c137), (4, .int .i64 (i : Int))] (by kernel_rfl) ?_
      refine endD2 (by kernel_rfl) H.has ?_
      obtain ⟨store1, h_store1, hb_125⟩ := bindE hb_125
      obtain ⟨b3, h_b3, hb_125⟩ := bindE hb_125
      obtain ⟨b4, h_b4, hb_125⟩ := bindE hb_125
      have hst : statB (bodyOf Try.f21) [1, 1, 0, 1, 0, 0, 1, 0, 0, 1] = true := by kernel_rfl
      refine drawS (Has mm126) H (by kernel_rfl) (by kernel_rfl) ?_
      intro w143 H
      refine segD2 hst [0, 1, 2, 10, 11] [0, 1, 2, 10, 11] [(0, .slice A0_0 l_.length c0_0), (4, .int .i64 (i : Int)), (31, .slice A137 b2.length c137), (32, .slice A0_0 l_.length c0_0), (33, .int .i64 (i : Int)), (41, .slice A0_0 l_.length c0_0), (42, .int .i64 (i : Int))] (by kernel_rfl) ?_
      refine takeD2 (i := 3) (d := (some 34)) (s := vS (Instr.indexAt 41 (.slice A0_0 l_.length c0_0) (.int .i64 (i : Int)))) (v := .pointer (some (ad134.add (i * 2)))) hst (by kernel_rfl) (by kernel_rfl) (fun w' hw' => idx_run 41 43 2 _ ad134 _ _ _ _ _ ea134 (by kernel_rfl) (by omega) (by have := (List.getElem?_eq_some_iff.1 h_x_).1; omega) rfl) ?_
      refine segD2 hst [4] [0, 1, 2, 10, 11, 3, 4] [(0, .slice A0_0 l_.length c0_0), (4, .int .i64 (i : Int)), (31, .slice A137 b2.length c137), (35, .pointer (some ((ad134.add (i * 2)).add 1))), (41, .slice A0_0 l_.length c0_0), (42, .int .i64 (i : Int))] (by kernel_rfl) ?_
      refine takeD2 (i := 5) (d := (some 36)) (s := vS (Instr.loadAt 29 (.pointer (some ((ad134.add (i * 2)).add 1))))) (v := (.slice A134_1 x_.Value.length c134_1)) hst (by kernel_rfl) (by kernel_rfl) (fun w' hw' => ld_run _ _ _ (by kernel_rfl) (hw'.cell (hc134 1 _ rfl))) ?_
      refine segD2 hst [6, 7] [0, 1, 2, 10, 11, 3, 4, 5, 6, 7] [(0, .slice A0_0 l_.length c0_0), (4, .int .i64 (i : Int)), (31, .slice A137 b2.length c137), (38, .int .u64 (IntKind.u64.wrap (x_.Value.length : Int))), (41, .slice A0_0 l_.length c0_0), (42, .int .i64 (i : Int))] (by kernel_rfl) ?_
      rw [q64_wrap (x_.Value.length : Int)]
      refine takeD2 (i := 12) (d := (some 43)) (s := vS (Instr.indexAt 41 (.slice A0_0 l_.length c0_0) (.int .i64 (i : Int)))) (v := .pointer (some (ad134.add (i * 2)))) hst (by kernel_rfl) (by kernel_rfl) (fun w' hw' => idx_run 41 43 2 _ ad134 _ _ _ _ _ ea134 (by kernel_rfl) (by omega) (by have := (List.getElem?_eq_some_iff.1 h_x_).1; omega) rfl) ?_
      refine segD2 hst [13] [0, 1, 2, 10, 11, 3, 4, 5, 6, 7, 12, 13] [(0, .slice A0_0 l_.length c0_0), (4, .int .i64 (i : Int)), (31, .slice A137 b2.length c137), (38, .int .u64 ((UInt64.ofInt (x_.Value.length : Int)).toNat : Int)), (44, .pointer (some ((ad134.add (i * 2)).add 1)))] (by kernel_rfl) ?_
      refine takeD2 (i := 14) (d := (some 45)) (s := vS (Instr.loadAt 29 (.pointer (some ((ad134.add (i * 2)).add 1))))) (v := (.slice A134_1 x_.Value.length c134_1)) hst (by kernel_rfl) (by kernel_rfl) (fun w' hw' => ld_run _ _ _ (by kernel_rfl) (hw'.cell (hc134 1 _ rfl))) ?_
      replace H : St w noF m mm126 [rowI rU8 5 A137 c137 b2] w143 := H
      refine stD2 (i := 8) (by kernel_rfl) H.has (callR (some 39) 39 #[.int .u64 ((UInt64.ofInt (x_.Value.length : Int)).toNat : Int), .int .i64 2] Try.call39 (ref01_Store_c H.has (UInt64.ofInt (x_.Value.length : Int)) 2 h_store1) (by kernel_rfl) ?_)
      rintro _ w144 ⟨A144_0, c144_0, mk144, rfl, hS144⟩
      have hsub144 := hS144.sub
      replace H := H.call0 hS144
      obtain ⟨xs145, hr145, hx145⟩ := H.rowCs' 0 rfl
      refine stD2 (i := 9) (by kernel_rfl) (H.has.sub hsub144) (appS (r := rU8) (some 40) 29 5 1 (.int .u8 0) 29 1 A137 A144_0 c137 store1.length c144_0 b2 store1 b3 _ H rfl ⟨Try.underlying29, by kernel_rfl⟩ rfl (by decide) (by kernel_rfl) hx145 hr145 rfl h_b3 (by decide) (by decide) ?_)
      intro A146 c146 w146 H
      obtain ⟨xs147, hr147, hx147⟩ := (hs134_1.mono hsub144).cs
      refine stD2 (i := 15) (by kernel_rfl) (H.has.sub hsub144) (appS (r := rU8) (some 46) 29 5 1 (.int .u8 0) 29 1 A146 A134_1 c146 x_.Value.length c134_1 b3 x_.Value b4 _ H rfl ⟨Try.underlying29, by kernel_rfl⟩ rfl (by decide) (by kernel_rfl) (hx147.cs H.has) hr147 rfl h_b4 (by decide) (by decide) ?_)
      intro A148 c148 w148 H
      refine segD2 hst [16] [0, 1, 2, 10, 11, 3, 4, 5, 6, 7, 12, 13, 14, 8, 9, 15, 16] [(0, .slice A0_0 l_.length c0_0), (3, .slice A148 b4.length c148), (4, .int .i64 (i : Int))] (by kernel_rfl) ?_
      refine endD2 (by kernel_rfl) (H.has.sub hsub144) ?_
      refine seg 6 [.le 1, .bl 0, .le 0, .co [1, 1, 1]] [(0, .slice A0_0 l_.length c0_0), (3, .slice A148 b4.length c148), (4, .int .i64 (IntKind.i64.wrap ((i : Int) + 1)))] (by kernel_rfl) ?_
      have := s0_0.bound
      rw [show IntKind.i64.wrap ((i : Int) + 1) = ((i : Int) + 1) from w64 (by omega)]
      refine leR (nk125, b4, (i + 1), A148, c148, mk144) (Nat.lt_succ_self _) ⟨hnx125 _ (Option.some.inj hb_125).symm, (St.takeN 1 (H.pull 1 rfl)), (hsub126.trans hsub144)⟩ (by kernel_rfl)
    · rw [hb127]
      have p127 := of_decide_eq_false hb127
      refine seg 2 [.le 0, .co [1, 1, 1]] [(3, .slice A_1_126 b.length c_2_126)] (by kernel_rfl) ?_
      refine leR_up (k' := []) (by rfl) ?_
      refine leJ (b, A_1_126, c_2_126, mm126) ⟨(hfin125 _ (Option.some.inj hb_125).symm).symm, H, hsub126⟩ (by kernel_rfl)
  rintro ⟨b, A_1_100, c_2_100, mm100⟩ wj99 ⟨hy99, H, hsub100⟩
  try dsimp only at hy99
  try dsimp only at H
  try dsimp only at hsub100
  rw [hy99] at hf
  refine seg 5 [.co [1, 1, 1, 1]] [(2, .slice A_1_100 b.length c_2_100)] (by kernel_rfl) ?_
  refine retR [2] [.slice A_1_100 b.length c_2_100] (by kernel_rfl) (by kernel_rfl) (by kernel_rfl) ?_
  have hret := (Option.some.inj hf)
  subst hret
  exact ⟨_, rfl, A_1_100, c_2_100, mm100, rfl, H⟩
theorem field_Reader_Bytes_c {m : Mem} {w : World} (hm : Has m w) (g0 : Nat) (r_ : TFieldReader) (A0_0 : Option Addr) (c0_0 : Nat) (s0_0 : SlI rU8 m A0_0 c0_0 r_.f_b) (n_ : Int) {F : Nat → Prop} (hsep : Sep m w [blkI g0 [.slice A0_0 r_.f_b.length c0_0, .int .i64 r_.f_at, .int .i64 r_.f_e] 114] F) (hF : ∀ k, F k → m k = none) {r : ((List UInt8) × TFieldReader)} (hf : field_Reader_Bytes r_ n_ = some r) :
    Calls Try.prog 48 #[.pointer (some (⟨g0, 0, none⟩)), .int .i64 n_] w fun e w' => ∃ v, e = .returned v ∧ ∃ Az_0 : Option Addr, ∃ cz_0 : Nat, ∃ Az_o0_0 : Option Addr, ∃ cz_o0_0 : Nat, ∃ m' : Mem, v = .slice Az_0 r.1.length cz_0 ∧ St w F m m' [rowI rU8 5 Az_0 cz_0 r.1, blkI g0 [.slice Az_o0_0 r.2.f_b.length cz_o0_0, .int .i64 r.2.f_at, .int .i64 r.2.f_e] 114] w' ∧ SlI rU8 m' Az_o0_0 cz_o0_0 r.2.f_b := by
  unfold field_Reader_Bytes at hf
  have H := St.start hm hsep hF
  refine callsR Try.func48 (by kernel_rfl) (by kernel_rfl) ?_
  refine seg 8 [.op [1, 0] 2, .co [1, 1]] [(5, .pointer (some (⟨g0, 0, none⟩))), (6, .int .i64 n_)] (by kernel_rfl) ?_
  obtain ⟨take, h_take, hf⟩ := bindE hf
  obtain ⟨F1, hse1, hFn1, hcl1⟩ := St.call [blkI g0 [.slice A0_0 r_.f_b.length c0_0, .int .i64 r_.f_at, .int .i64 r_.f_e] 114] H
  refine st (callR (some 7) 69 #[.pointer (some (⟨g0, 0, none⟩)), .int .i64 n_] Try.call69 (field_Reader_take_c H.has g0 r_ A0_0 c0_0 s0_0 n_ hse1 hFn1 h_take) (by kernel_rfl) ?_)
  rintro _ w1 ⟨A1_0, c1_0, A1_o0_0, c1_o0_0, mk1, rfl, hS1, hs1_0, hs1_1⟩
  have hsub1 := hS1.sub
  replace H := hcl1 _ _ _ hS1
  obtain ⟨copied, h_copied, hf⟩ := bindE hf
  refine st (callR (some 8) 71 #[.slice A1_0 take.1.length c1_0] Try.call71 (field_copied_c H.has take.1 A1_0 c1_0 hs1_0 h_copied) (by kernel_rfl) ?_)
  rintro _ w2 ⟨A2_0, c2_0, mk2, rfl, hS2⟩
  have hsub2 := hS2.sub
  replace H := H.call0 hS2
  refine seg 2 [.co [1, 1]] [(4, .slice A2_0 copied.length c2_0)] (by kernel_rfl) ?_
  refine retR [4] [.slice A2_0 copied.length c2_0] (by kernel_rfl) (by kernel_rfl) (by kernel_rfl) ?_
  obtain rfl : (copied, take.2) = r := (Option.some.inj hf)
  exact ⟨_, rfl, A2_0, c2_0, A1_o0_0, c1_o0_0, mk2, rfl, H, (hs1_1.mono hsub2)⟩
end Go.Proofs.Ytgoedcjjckdlpaa.F
