/- The code computes them: printed by lift.py, part 3. -/
import Derived.Test.YtgoedcjjckdlpaaProg
import Derived.Test.YtgoedcjjckdlpaaLTP
import Derived.Test.YtgoedcjjckdlpaaLT2
set_option linter.unusedVariables false
set_option linter.unusedSimpArgs false
namespace Go.Proofs.Ytgoedcjjckdlpaa.F
open Go Go.RowKit Go.Proofs.Ytgoedcjjckdlpaa Go.Proofs.Ytgoedcjjckdlpaa.K
set_option maxRecDepth 100000
theorem field_Reader_Text_c {m : Mem} {w : World} (hm : Has m w) (g0 : Nat) (r_ : TFieldReader) (A0_0 : Option Addr) (c0_0 : Nat) (s0_0 : SlI rU8 m A0_0 c0_0 r_.f_b) (most : Int) {F : Nat → Prop} (hsep : Sep m w [blkI g0 [.slice A0_0 r_.f_b.length c0_0, .int .i64 r_.f_at, .int .i64 r_.f_e] 114] F) (hF : ∀ k, F k → m k = none) {r : ((List UInt8) × TFieldReader)} (hf : field_Reader_Text r_ most = some r) :
    Calls Try.prog 49 #[.pointer (some (⟨g0, 0, none⟩)), .int .i64 most] w fun e w' => ∃ v, e = .returned v ∧ ∃ Az_0 : Option Addr, ∃ cz_0 : Nat, ∃ Az_o0_0 : Option Addr, ∃ cz_o0_0 : Nat, ∃ m' : Mem, v = .slice Az_0 r.1.length cz_0 ∧ St w F m m' [rowI rU8 5 Az_0 cz_0 r.1, blkI g0 [.slice Az_o0_0 r.2.f_b.length cz_o0_0, .int .i64 r.2.f_at, .int .i64 r.2.f_e] 114] w' ∧ SlI rU8 m' Az_o0_0 cz_o0_0 r.2.f_b := by
  unfold field_Reader_Text at hf
  have H := St.start hm hsep hF
  refine callsR Try.func49 (by kernel_rfl) (by kernel_rfl) ?_
  refine seg 13 [.op [1, 0, 0] 6, .co [1, 0, 1], .co [1, 1]] [(0, .pointer (some (⟨g0, 0, none⟩))), (1, .int .i64 most), (10, .bool false), (13, .pointer (some (⟨g0, 2, none⟩)))] (by kernel_rfl) ?_
  refine st (ldR (some 14) 30 (⟨g0, 2, none⟩) (.int .i64 r_.f_e) (by kernel_rfl) (by kernel_rfl) (H.cellB 0 rfl rfl) ?_)
  refine seg 3 [.co [1, 0, 1], .co [1, 1]] [(0, .pointer (some (⟨g0, 0, none⟩))), (1, .int .i64 most), (16, .bool (r_.f_e != 0))] (by kernel_rfl) ?_
  rcases condT hf with ⟨hb2, hf⟩ | ⟨hb2, hf⟩
  · rw [hb2]
    refine seg 5 [.co [1, 0, 1, 0, 1], .co [1, 1]] [(4, .slice none 0 0)] (by kernel_rfl) ?_
    have H := H.nilR rU8 5
    refine retR [4] [.slice none 0 0] (by kernel_rfl) (by kernel_rfl) (by kernel_rfl) ?_
    obtain rfl : ([], r_) = r := (Option.some.inj hf)
    exact ⟨_, rfl, none, 0, A0_0, c0_0, m, rfl, H, s0_0⟩
  · rw [hb2]
    refine seg 8 [.co [1, 1, 0, 1], .co [1, 1, 1]] [(0, .pointer (some (⟨g0, 0, none⟩))), (1, .int .i64 most), (18, .bool (decide (most < 0)))] (by kernel_rfl) ?_
    rcases condT hf with ⟨hb5, hf⟩ | ⟨hb5, hf⟩
    · rw [hb5]
      have p5 := of_decide_eq_true hb5
      refine seg 6 [.op [1, 1, 0, 1, 0, 0] 3, .co [1, 1, 0, 1, 0, 1], .co [1, 1, 1]] [(21, .pointer (some (⟨g0, 2, none⟩)))] (by kernel_rfl) ?_
      refine st (stS none 30 0 g0 2 (.int .i64 1) [.slice A0_0 r_.f_b.length c0_0, .int .i64 r_.f_at, .int .i64 r_.f_e] 114 H rfl (by kernel_rfl) (by kernel_rfl) rfl (of_decide_eq_true rfl) ?_)
      intro w6 H
      refine seg 5 [.co [1, 1, 0, 1, 0, 1, 1], .co [1, 1, 1]] [(4, .slice none 0 0)] (by kernel_rfl) ?_
      have H := H.nilR rU8 5
      refine retR [4] [.slice none 0 0] (by kernel_rfl) (by kernel_rfl) (by kernel_rfl) ?_
      obtain rfl : ([], ({ f_b := r_.f_b, f_at := r_.f_at, f_e := 1 } : TFieldReader)) = r := (Option.some.inj hf)
      exact ⟨_, rfl, none, 0, A0_0, c0_0, m, rfl, H, s0_0⟩
    · rw [hb5]
      have p5 := of_decide_eq_false hb5
      refine seg 7 [.op [1, 1, 1, 0] 3, .co [1, 1, 1, 1]] [(0, .pointer (some (⟨g0, 0, none⟩))), (1, .int .i64 most), (24, .pointer (some (⟨g0, 1, none⟩)))] (by kernel_rfl) ?_
      refine st (ldR (some 25) 3 (⟨g0, 1, none⟩) (.int .i64 r_.f_at) (by kernel_rfl) (by kernel_rfl) (H.cellB 0 rfl rfl) ?_)
      refine seg 5 [.op [1, 1, 1, 1, 0] 1, .co [1, 1, 1, 1, 1]] [(0, .pointer (some (⟨g0, 0, none⟩))), (1, .int .i64 most), (5, .int .i64 r_.f_at), (26, .pointer (some (⟨g0, 0, none⟩)))] (by kernel_rfl) ?_
      obtain ⟨take, h_take, hf⟩ := bindE hf
      obtain ⟨F7, hse7, hFn7, hcl7⟩ := St.call [blkI g0 [.slice A0_0 r_.f_b.length c0_0, .int .i64 r_.f_at, .int .i64 r_.f_e] 114] H
      refine st (callR (some 27) 69 #[.pointer (some (⟨g0, 0, none⟩)), .int .i64 2] Try.call69 (field_Reader_take_c H.has g0 r_ A0_0 c0_0 s0_0 2 hse7 hFn7 h_take) (by kernel_rfl) ?_)
      rintro _ w7 ⟨A7_0, c7_0, A7_o0_0, c7_o0_0, mk7, rfl, hS7, hs7_0, hs7_1⟩
      have hsub7 := hS7.sub
      replace H := hcl7 _ _ _ hS7
      obtain ⟨load, h_load, hf⟩ := bindE hf
      refine st (callR (some 28) 68 #[.slice A7_0 take.1.length c7_0] Try.call68 (field_load_c H.has take.1 A7_0 c7_0 hs7_0 h_load) (by kernel_rfl) ?_)
      rintro _ w9 ⟨rfl, hx9⟩
      replace H := H.ex hx9
      refine seg 5 [.co [1, 1, 1, 1, 1, 0, 0], .co [1, 1, 1, 1, 1, 0, 1], .co [1, 1, 1, 1, 1, 1]] [(0, .pointer (some (⟨g0, 0, none⟩))), (1, .int .i64 most), (5, .int .i64 r_.f_at), (6, .int .i64 (IntKind.i64.wrap (load.toNat : Int)))] (by kernel_rfl) ?_
      obtain ⟨y34, hp34, hf⟩ := ltE hf
      refine joinR 0 (fun (x : Bool) => [(0, .pointer (some (⟨g0, 0, none⟩))), (5, .int .i64 r_.f_at), (6, .int .i64 (IntKind.i64.wrap (load.toNat : Int))), (39, .bool x)]) (fun (x : Bool) (wj34 : World) => y34 = x ∧ St w F m mk7 [blkI g0 [.slice A7_o0_0 take.2.f_b.length c7_o0_0, .int .i64 take.2.f_at, .int .i64 take.2.f_e] 114] wj34) (by kernel_rfl) ?_ ?_
      · refine seg 4 [.op [1, 1, 1, 1, 1, 0, 0] 3, .le 0, .co [1, 1, 1, 1, 1, 0, 1], .co [1, 1, 1, 1, 1, 1]] [(0, .pointer (some (⟨g0, 0, none⟩))), (1, .int .i64 most), (5, .int .i64 r_.f_at), (6, .int .i64 (IntKind.i64.wrap (load.toNat : Int))), (32, .pointer (some (⟨g0, 2, none⟩)))] (by kernel_rfl) ?_
        refine st (ldR (some 33) 30 (⟨g0, 2, none⟩) (.int .i64 take.2.f_e) (by kernel_rfl) (by kernel_rfl) (H.cellB 0 rfl rfl) ?_)
        refine seg 2 [.op [1, 1, 1, 1, 1, 0, 0] 6, .le 0, .co [1, 1, 1, 1, 1, 0, 1], .co [1, 1, 1, 1, 1, 1]] [(0, .pointer (some (⟨g0, 0, none⟩))), (1, .int .i64 most), (5, .int .i64 r_.f_at), (6, .int .i64 (IntKind.i64.wrap (load.toNat : Int))), (35, .bool (take.2.f_e == 0))] (by kernel_rfl) ?_
        rcases condT hp34 with ⟨hb36, hp34⟩ | ⟨hb36, hp34⟩
        · rw [hb36]
          refine seg 5 [.le 0, .co [1, 1, 1, 1, 1, 0, 1], .co [1, 1, 1, 1, 1, 1]] [(0, .pointer (some (⟨g0, 0, none⟩))), (5, .int .i64 r_.f_at), (6, .int .i64 (IntKind.i64.wrap (load.toNat : Int))), (39, .bool (decide ((IntKind.i64.wrap (load.toNat : Int)) > most)))] (by kernel_rfl) ?_
          refine leJ ((decide ((IntKind.i64.wrap (load.toNat : Int)) > most))) ⟨hp34.symm, H⟩ (by kernel_rfl)
        · rw [hb36]
          refine seg 5 [.le 0, .co [1, 1, 1, 1, 1, 0, 1], .co [1, 1, 1, 1, 1, 1]] [(0, .pointer (some (⟨g0, 0, none⟩))), (5, .int .i64 r_.f_at), (6, .int .i64 (IntKind.i64.wrap (load.toNat : Int))), (39, .bool false)] (by kernel_rfl) ?_
          refine leJ (false) ⟨hp34.symm, H⟩ (by kernel_rfl)
      rintro t wj34 ⟨hy34, H⟩
      rw [hy34] at hf
      rcases condT hf with ⟨hb37, hf⟩ | ⟨hb37, hf⟩
      · rw [hb37]
        refine seg 5 [.op [1, 1, 1, 1, 1, 0, 1, 0] 3, .co [1, 1, 1, 1, 1, 1]] [(0, .pointer (some (⟨g0, 0, none⟩))), (5, .int .i64 r_.f_at), (6, .int .i64 (IntKind.i64.wrap (load.toNat : Int))), (42, .pointer (some (⟨g0, 2, none⟩)))] (by kernel_rfl) ?_
        refine st (stS none 30 0 g0 2 (.int .i64 2) [.slice A7_o0_0 take.2.f_b.length c7_o0_0, .int .i64 take.2.f_at, .int .i64 take.2.f_e] 114 H rfl (by kernel_rfl) (by kernel_rfl) rfl (of_decide_eq_true rfl) ?_)
        intro w38 H
        refine seg 5 [.op [1, 1, 1, 1, 1, 1, 0] 2, .co [1, 1, 1, 1, 1, 1, 1]] [(0, .pointer (some (⟨g0, 0, none⟩))), (5, .int .i64 r_.f_at), (43, .pointer (some (⟨g0, 0, none⟩))), (44, .int .i64 (IntKind.i64.wrap (load.toNat : Int)))] (by kernel_rfl) ?_
        obtain ⟨take1, h_take1, hf⟩ := bindE hf
        obtain ⟨F39, hse39, hFn39, hcl39⟩ := St.call [blkI g0 [.slice A7_o0_0 take.2.f_b.length c7_o0_0, .int .i64 take.2.f_at, .int .i64 2] 114] H
        refine st (callR (some 45) 69 #[.pointer (some (⟨g0, 0, none⟩)), .int .i64 (IntKind.i64.wrap (load.toNat : Int))] Try.call69 (field_Reader_take_c H.has g0 ({ f_b := take.2.f_b, f_at := take.2.f_at, f_e := 2 } : TFieldReader) A7_o0_0 c7_o0_0 hs7_1 (IntKind.i64.wrap (load.toNat : Int)) hse39 hFn39 h_take1) (by kernel_rfl) ?_)
        rintro _ w39 ⟨A39_0, c39_0, A39_o0_0, c39_o0_0, mk39, rfl, hS39, hs39_0, hs39_1⟩
        have hsub39 := hS39.sub
        replace H := hcl39 _ _ _ hS39
        refine seg 8 [.op [1, 1, 1, 1, 1, 1, 1, 0, 0] 3, .co [1, 1, 1, 1, 1, 1, 1, 0, 1], .co [1, 1, 1, 1, 1, 1, 1, 1]] [(0, .pointer (some (⟨g0, 0, none⟩))), (5, .int .i64 r_.f_at), (7, .slice A39_0 take1.1.length c39_0), (48, .pointer (some (⟨g0, 2, none⟩)))] (by kernel_rfl) ?_
        refine st (ldR (some 49) 30 (⟨g0, 2, none⟩) (.int .i64 take1.2.f_e) (by kernel_rfl) (by kernel_rfl) (H.cellB 0 rfl rfl) ?_)
        refine seg 2 [.co [1, 1, 1, 1, 1, 1, 1, 0, 1], .co [1, 1, 1, 1, 1, 1, 1, 1]] [(0, .pointer (some (⟨g0, 0, none⟩))), (5, .int .i64 r_.f_at), (7, .slice A39_0 take1.1.length c39_0), (50, .bool (take1.2.f_e != 0))] (by kernel_rfl) ?_
        rcases condT hf with ⟨hb42, hf⟩ | ⟨hb42, hf⟩
        · rw [hb42]
          refine seg 7 [.op [1, 1, 1, 1, 1, 1, 1, 0, 1, 0, 0] 4, .co [1, 1, 1, 1, 1, 1, 1, 0, 1, 0, 1], .co [1, 1, 1, 1, 1, 1, 1, 1]] [(52, .int .i64 r_.f_at), (54, .pointer (some (⟨g0, 1, none⟩)))] (by kernel_rfl) ?_
          replace H : St w F m mk39 [blkI g0 [.slice A39_o0_0 take1.2.f_b.length c39_o0_0, .int .i64 take1.2.f_at, .int .i64 take1.2.f_e] 114] w39 := H
          refine st (stS none 3 0 g0 1 (.int .i64 r_.f_at) [.slice A39_o0_0 take1.2.f_b.length c39_o0_0, .int .i64 take1.2.f_at, .int .i64 take1.2.f_e] 114 H rfl (by kernel_rfl) (by kernel_rfl) rfl (of_decide_eq_true rfl) ?_)
          intro w43 H
          refine seg 5 [.co [1, 1, 1, 1, 1, 1, 1, 0, 1, 0, 1, 1], .co [1, 1, 1, 1, 1, 1, 1, 1]] [(4, .slice none 0 0)] (by kernel_rfl) ?_
          have H := H.nilR rU8 5
          refine retR [4] [.slice none 0 0] (by kernel_rfl) (by kernel_rfl) (by kernel_rfl) ?_
          obtain rfl : ([], ({ f_b := take1.2.f_b, f_at := r_.f_at, f_e := take1.2.f_e } : TFieldReader)) = r := (Option.some.inj hf)
          exact ⟨_, rfl, none, 0, A39_o0_0, c39_o0_0, mk39, rfl, H, hs39_1⟩
        · rw [hb42]
          refine seg 5 [.op [1, 1, 1, 1, 1, 1, 1, 1, 0] 1, .co [1, 1, 1, 1, 1, 1, 1, 1, 1]] [(55, .slice A39_0 take1.1.length c39_0)] (by kernel_rfl) ?_
          obtain ⟨copied, h_copied, hf⟩ := bindE hf
          refine st (callR (some 56) 71 #[.slice A39_0 take1.1.length c39_0] Try.call71 (field_copied_c H.has take1.1 A39_0 c39_0 hs39_0 h_copied) (by kernel_rfl) ?_)
          rintro _ w44 ⟨A44_0, c44_0, mk44, rfl, hS44⟩
          have hsub44 := hS44.sub
          replace H := H.call0 hS44
          refine seg 2 [.co [1, 1, 1, 1, 1, 1, 1, 1, 1]] [(4, .slice A44_0 copied.length c44_0)] (by kernel_rfl) ?_
          refine retR [4] [.slice A44_0 copied.length c44_0] (by kernel_rfl) (by kernel_rfl) (by kernel_rfl) ?_
          obtain rfl : (copied, take1.2) = r := (Option.some.inj hf)
          exact ⟨_, rfl, A44_0, c44_0, A39_o0_0, c39_o0_0, mk44, rfl, H, (hs39_1.mono hsub44)⟩
      · rw [hb37]
        refine seg 6 [.op [1, 1, 1, 1, 1, 1, 0] 2, .co [1, 1, 1, 1, 1, 1, 1]] [(0, .pointer (some (⟨g0, 0, none⟩))), (5, .int .i64 r_.f_at), (43, .pointer (some (⟨g0, 0, none⟩))), (44, .int .i64 (IntKind.i64.wrap (load.toNat : Int)))] (by kernel_rfl) ?_
        obtain ⟨take2, h_take2, hf⟩ := bindE hf
        obtain ⟨F45, hse45, hFn45, hcl45⟩ := St.call [blkI g0 [.slice A7_o0_0 take.2.f_b.length c7_o0_0, .int .i64 take.2.f_at, .int .i64 take.2.f_e] 114] H
        refine st (callR (some 45) 69 #[.pointer (some (⟨g0, 0, none⟩)), .int .i64 (IntKind.i64.wrap (load.toNat : Int))] Try.call69 (field_Reader_take_c H.has g0 take.2 A7_o0_0 c7_o0_0 hs7_1 (IntKind.i64.wrap (load.toNat : Int)) hse45 hFn45 h_take2) (by kernel_rfl) ?_)
        rintro _ w45 ⟨A45_0, c45_0, A45_o0_0, c45_o0_0, mk45, rfl, hS45, hs45_0, hs45_1⟩
        have hsub45 := hS45.sub
        replace H := hcl45 _ _ _ hS45
        refine seg 8 [.op [1, 1, 1, 1, 1, 1, 1, 0, 0] 3, .co [1, 1, 1, 1, 1, 1, 1, 0, 1], .co [1, 1, 1, 1, 1, 1, 1, 1]] [(0, .pointer (some (⟨g0, 0, none⟩))), (5, .int .i64 r_.f_at), (7, .slice A45_0 take2.1.length c45_0), (48, .pointer (some (⟨g0, 2, none⟩)))] (by kernel_rfl) ?_
        refine st (ldR (some 49) 30 (⟨g0, 2, none⟩) (.int .i64 take2.2.f_e) (by kernel_rfl) (by kernel_rfl) (H.cellB 0 rfl rfl) ?_)
        refine seg 2 [.co [1, 1, 1, 1, 1, 1, 1, 0, 1], .co [1, 1, 1, 1, 1, 1, 1, 1]] [(0, .pointer (some (⟨g0, 0, none⟩))), (5, .int .i64 r_.f_at), (7, .slice A45_0 take2.1.length c45_0), (50, .bool (take2.2.f_e != 0))] (by kernel_rfl) ?_
        rcases condT hf with ⟨hb48, hf⟩ | ⟨hb48, hf⟩
        · rw [hb48]
          refine seg 7 [.op [1, 1, 1, 1, 1, 1, 1, 0, 1, 0, 0] 4, .co [1, 1, 1, 1, 1, 1, 1, 0, 1, 0, 1], .co [1, 1, 1, 1, 1, 1, 1, 1]] [(52, .int .i64 r_.f_at), (54, .pointer (some (⟨g0, 1, none⟩)))] (by kernel_rfl) ?_
          replace H : St w F m mk45 [blkI g0 [.slice A45_o0_0 take2.2.f_b.length c45_o0_0, .int .i64 take2.2.f_at, .int .i64 take2.2.f_e] 114] w45 := H
          refine st (stS none 3 0 g0 1 (.int .i64 r_.f_at) [.slice A45_o0_0 take2.2.f_b.length c45_o0_0, .int .i64 take2.2.f_at, .int .i64 take2.2.f_e] 114 H rfl (by kernel_rfl) (by kernel_rfl) rfl (of_decide_eq_true rfl) ?_)
          intro w49 H
          refine seg 5 [.co [1, 1, 1, 1, 1, 1, 1, 0, 1, 0, 1, 1], .co [1, 1, 1, 1, 1, 1, 1, 1]] [(4, .slice none 0 0)] (by kernel_rfl) ?_
          have H := H.nilR rU8 5
          refine retR [4] [.slice none 0 0] (by kernel_rfl) (by kernel_rfl) (by kernel_rfl) ?_
          obtain rfl : ([], ({ f_b := take2.2.f_b, f_at := r_.f_at, f_e := take2.2.f_e } : TFieldReader)) = r := (Option.some.inj hf)
          exact ⟨_, rfl, none, 0, A45_o0_0, c45_o0_0, mk45, rfl, H, hs45_1⟩
        · rw [hb48]
          refine seg 5 [.op [1, 1, 1, 1, 1, 1, 1, 1, 0] 1, .co [1, 1, 1, 1, 1, 1, 1, 1, 1]] [(55, .slice A45_0 take2.1.length c45_0)] (by kernel_rfl) ?_
          obtain ⟨copied1, h_copied1, hf⟩ := bindE hf
          refine st (callR (some 56) 71 #[.slice A45_0 take2.1.length c45_0] Try.call71 (field_copied_c H.has take2.1 A45_0 c45_0 hs45_0 h_copied1) (by kernel_rfl) ?_)
          rintro _ w50 ⟨A50_0, c50_0, mk50, rfl, hS50⟩
          have hsub50 := hS50.sub
          replace H := H.call0 hS50
          refine seg 2 [.co [1, 1, 1, 1, 1, 1, 1, 1, 1]] [(4, .slice A50_0 copied1.length c50_0)] (by kernel_rfl) ?_
          refine retR [4] [.slice A50_0 copied1.length c50_0] (by kernel_rfl) (by kernel_rfl) (by kernel_rfl) ?_
          obtain rfl : (copied1, take2.2) = r := (Option.some.inj hf)
          exact ⟨_, rfl, A50_0, c50_0, A45_o0_0, c45_o0_0, mk50, rfl, H, (hs45_1.mono hsub50)⟩
theorem field_Reader_Err_c {m : Mem} {w : World} (hm : Has m w) (g0 : Nat) (r_ : TFieldReader) (A0_0 : Option Addr) (c0_0 : Nat) (s0_0 : SlI rU8 m A0_0 c0_0 r_.f_b) {F : Nat → Prop} (hsep : Sep m w [blkI g0 [.slice A0_0 r_.f_b.length c0_0, .int .i64 r_.f_at, .int .i64 r_.f_e] 114] F) (hF : ∀ k, F k → m k = none) {r : (Int × Int)} (hf : field_Reader_Err r_ = some r) :
    Calls Try.prog 50 #[.pointer (some (⟨g0, 0, none⟩))] w fun e w' => ∃ v, e = .returned v ∧ ∃ m' : Mem, v = .tuple #[.int .i64 r.1, .int .i64 r.2] ∧ St w F m m' [blkI g0 [.slice A0_0 r_.f_b.length c0_0, .int .i64 r_.f_at, .int .i64 r_.f_e] 114] w' := by
  unfold field_Reader_Err at hf
  have H := St.start hm hsep hF
  refine callsR Try.func50 (by kernel_rfl) (by kernel_rfl) ?_
  refine seg 14 [.co [1, 1, 0], .co [1, 1, 1]] [(0, .pointer (some (⟨g0, 0, none⟩)))] (by kernel_rfl) ?_
  have hst : statB (bodyOf Try.f50) [1, 1, 0] = true := by kernel_rfl
  refine drawS (fun w' => Has m w' ∧ w'.heap[g0]? = some (.cells [.slice A0_0 r_.f_b.length c0_0, .int .i64 r_.f_at, .int .i64 r_.f_e].toArray 114 (0, 0))) H (by kernel_rfl) (by kernel_rfl) ?_
  intro w1 H
  refine segD2 hst [0, 1, 2, 4, 5, 6] [0, 1, 2, 4, 5, 6] [(8, .pointer (some (⟨g0, 1, none⟩))), (12, .pointer (some (⟨g0, 2, none⟩)))] (by kernel_rfl) ?_
  refine takeD2 (i := 3) (d := (some 9)) (s := vS (Instr.loadAt 3 (.pointer (some (⟨g0, 1, none⟩))))) (v := (.int .i64 r_.f_at)) hst (by kernel_rfl) (by kernel_rfl) (fun w' hw' => ld_run _ _ _ (by kernel_rfl) (blk_cell hw'.2 rfl)) ?_
  refine segD2 hst [8] [0, 1, 2, 4, 5, 6, 3, 8] [(2, .int .i64 r_.f_at), (12, .pointer (some (⟨g0, 2, none⟩)))] (by kernel_rfl) ?_
  refine stD2 (i := 7) (by kernel_rfl) ⟨H.has, H.blk 0 rfl⟩ (ldR (some 13) 30 (⟨g0, 2, none⟩) (.int .i64 r_.f_e) (by kernel_rfl) (by kernel_rfl) (H.cellB 0 rfl rfl) ?_)
  refine segD2 hst [9] [0, 1, 2, 4, 5, 6, 3, 8, 7, 9] [(2, .int .i64 r_.f_at), (3, .int .i64 r_.f_e)] (by kernel_rfl) ?_
  refine endD2 (by kernel_rfl) ⟨H.has, H.blk 0 rfl⟩ ?_
  refine retR [2, 3] [.int .i64 r_.f_at, .int .i64 r_.f_e] (by kernel_rfl) (by kernel_rfl) (by kernel_rfl) ?_
  obtain rfl : (r_.f_at, r_.f_e) = r := (Option.some.inj hf)
  exact ⟨_, rfl, m, rfl, H⟩
theorem table_DecodeAttrs_c {m : Mem} {w : World} (hm : Has m w) (b : (List UInt8)) (A0_0 : Option Addr) (c0_0 : Nat) (s0_0 : SlI rU8 m A0_0 c0_0 b) (at_ : Int) {r : ((List TApiAttr) × Int × Int)} (hf : table_DecodeAttrs b at_ = some r) :
    Calls Try.prog 22 #[.slice A0_0 b.length c0_0, .int .i64 at_] w fun e w' => ∃ v, e = .returned v ∧ ∃ Az_0 : Option Addr, ∃ cz_0 : Nat, ∃ m' : Mem, v = .tuple #[.slice Az_0 r.1.length cz_0, .int .i64 r.2.1, .int .i64 r.2.2] ∧ St w noF m m' [rowI rApiAttr 43 Az_0 cz_0 r.1] w' := by
  unfold table_DecodeAttrs at hf
  have H := St.start0 hm
  refine callsR Try.func22 (by kernel_rfl) (by kernel_rfl) ?_
  refine seg 12 [.op [1, 0, 0] 3, .co [1, 0, 1], .co [1, 1]] [(0, .slice A0_0 b.length c0_0), (1, .int .i64 at_), (4, .slice none 0 0), (13, .bool (decide (at_ < 0)))] (by kernel_rfl) ?_
  rcases condT hf with ⟨hb2, hf⟩ | ⟨hb2, hf⟩
  · rw [hb2]
    have p2 := of_decide_eq_true hb2
    refine seg 13 [.co [1, 0, 1, 0, 1], .co [1, 1]] [(4, .slice none 0 0), (5, .int .i64 0), (6, .int .i64 9)] (by kernel_rfl) ?_
    have H := H.nilR rApiAttr 43
    refine retR [4, 5, 6] [.slice none 0 0, .int .i64 0, .int .i64 9] (by kernel_rfl) (by kernel_rfl) (by kernel_rfl) ?_
    obtain rfl : ([], 0, 9) = r := (Option.some.inj hf)
    exact ⟨_, rfl, none, 0, m, rfl, H⟩
  · rw [hb2]
    have p2 := of_decide_eq_false hb2
    refine seg 6 [.co [1, 0, 1], .co [1, 1]] [(0, .slice A0_0 b.length c0_0), (1, .int .i64 at_), (4, .slice none 0 0), (18, .bool (decide (at_ > (b.length : Int))))] (by kernel_rfl) ?_
    rcases condT hf with ⟨hb4, hf⟩ | ⟨hb4, hf⟩
    · rw [hb4]
      have p4 := of_decide_eq_true hb4
      refine seg 7 [.co [1, 0, 1, 0, 1], .co [1, 1]] [(4, .slice none 0 0), (5, .int .i64 0), (6, .int .i64 9)] (by kernel_rfl) ?_
      have H := H.nilR rApiAttr 43
      refine retR [4, 5, 6] [.slice none 0 0, .int .i64 0, .int .i64 9] (by kernel_rfl) (by kernel_rfl) (by kernel_rfl) ?_
      obtain rfl : ([], 0, 9) = r := (Option.some.inj hf)
      exact ⟨_, rfl, none, 0, m, rfl, H⟩
    · rw [hb4]
      have p4 := of_decide_eq_false hb4
      refine seg 6 [.op [1, 1, 0] 2, .co [1, 1, 1]] [(1, .int .i64 at_), (4, .slice none 0 0), (19, .slice A0_0 b.length c0_0), (20, .int .i64 at_)] (by kernel_rfl) ?_
      obtain ⟨y_, h_y_, hf⟩ := bindE hf
      refine st (sliS (r := rU8) (some 21) 29 5 A0_0 c0_0 b y_ (some (.int .i64 at_)) none at_ (b.length : Int) s0_0 (by kernel_rfl) (by kernel_rfl) (.inr ⟨_, rfl⟩) (.inl ⟨rfl, rfl⟩) h_y_ ?_)
      intro A5 c5 hs5
      obtain ⟨newRea, h_newRea, hf⟩ := bindE hf
      refine st (callR (some 22) 47 #[.slice A5 y_.length c5] Try.call47 (field_NewReader_c H.has y_ A5 c5 hs5 h_newRea) (by kernel_rfl) ?_)
      rintro _ w6 ⟨g6_0, A6_0_0, c6_0_0, mk6, rfl, hS6, hs6_0⟩
      have hsub6 := hS6.sub
      replace H := H.call0 hS6
      refine seg 5 [.op [1, 1, 1, 0] 1, .co [1, 1, 1, 1]] [(1, .int .i64 at_), (4, .slice none 0 0), (7, .pointer (some (⟨g6_0, 0, none⟩))), (23, .pointer (some (⟨g6_0, 0, none⟩)))] (by kernel_rfl) ?_
      obtain ⟨num, h_num, hf⟩ := bindE hf
      obtain ⟨F7, hse7, hFn7, hcl7⟩ := St.call [blkI g6_0 [.slice A6_0_0 newRea.f_b.length c6_0_0, .int .i64 newRea.f_at, .int .i64 newRea.f_e] 114] H
      refine st (callR (some 24) 38 #[.pointer (some (⟨g6_0, 0, none⟩)), .int .i64 2] Try.call38 (field_Reader_Num_c H.has g6_0 newRea A6_0_0 c6_0_0 hs6_0 2 hse7 hFn7 h_num) (by kernel_rfl) ?_)
      rintro _ w7 ⟨A7_o0_0, c7_o0_0, mk7, rfl, hS7, hs7_0⟩
      have hsub7 := hS7.sub
      replace H := hcl7 _ _ _ hS7
      refine seg 8 [.co [1, 1, 1, 1, 0, 1], .co [1, 1, 1, 1, 1]] [(1, .int .i64 at_), (4, .slice none 0 0), (7, .pointer (some (⟨g6_0, 0, none⟩))), (8, .int .u64 (num.1.toNat : Int)), (26, .bool (decide ((num.1.toNat : Int) > 64)))] (by kernel_rfl) ?_
      rcases condT hf with ⟨hb10, hf⟩ | ⟨hb10, hf⟩
      · rw [hb10]
        have p10 := of_decide_eq_true hb10
        refine seg 7 [.co [1, 1, 1, 1, 0, 1, 0, 1], .co [1, 1, 1, 1, 1]] [(4, .slice none 0 0), (5, .int .i64 0), (6, .int .i64 6)] (by kernel_rfl) ?_
        have H := H.nilR rApiAttr 43
        refine retR [4, 5, 6] [.slice none 0 0, .int .i64 0, .int .i64 6] (by kernel_rfl) (by kernel_rfl) (by kernel_rfl) ?_
        obtain rfl : ([], 0, 6) = r := (Option.some.inj hf)
        exact ⟨_, rfl, none, 0, mk7, rfl, (St.takeN 1 H)⟩
      · rw [hb10]
        have p10 := of_decide_eq_false hb10
        refine seg 8 [.co [1, 1, 1, 1, 1, 0, 1], .co [1, 1, 1, 1, 1, 1]] [(1, .int .i64 at_), (4, .slice none 0 0), (7, .pointer (some (⟨g6_0, 0, none⟩))), (27, .int .u64 (num.1.toNat : Int)), (28, .int .u64 0)] (by kernel_rfl) ?_
        obtain ⟨y83, hp83, hf⟩ := bindE hf
        refine joinR 0 (fun (x : (List TApiAttr) × (List UInt8) × Int × Int × Option Addr × Nat × Option Addr × Nat × Mem) => [(1, .int .i64 at_), (4, .slice (x.2.2.2.2.1) x.1.length (x.2.2.2.2.2.1)), (7, .pointer (some (⟨g6_0, 0, none⟩)))]) (fun (x : (List TApiAttr) × (List UInt8) × Int × Int × Option Addr × Nat × Option Addr × Nat × Mem) (wj83 : World) => y83 = (x.1, x.2.1, x.2.2.1, x.2.2.2.1) ∧ St w noF m x.2.2.2.2.2.2.2.2 [rowI rApiAttr 43 (x.2.2.2.2.1) (x.2.2.2.2.2.1) x.1, blkI g6_0 [.slice (x.2.2.2.2.2.2.1) x.2.1.length (x.2.2.2.2.2.2.2.1), .int .i64 x.2.2.1, .int .i64 x.2.2.2.1] 114] wj83 ∧ Sub mk7 x.2.2.2.2.2.2.2.2 ∧ SlI rU8 x.2.2.2.2.2.2.2.2 x.2.2.2.2.2.2.1 x.2.2.2.2.2.2.2.1 x.2.1) (by kernel_rfl) ?_ ?_
        · refine seg 1 [.co [1, 1, 1, 1, 1, 0, 1, 0], .bl 0, .le 0, .co [1, 1, 1, 1, 1, 1]] [(1, .int .i64 at_), (4, .slice none 0 0), (7, .pointer (some (⟨g6_0, 0, none⟩))), (27, .int .u64 (num.1.toNat : Int)), (28, .int .u64 0)] (by kernel_rfl) ?_
          have H := H.nilR rApiAttr 43
          obtain ⟨nn103, hR103⟩ := loopO_iff.1 hp83
          refine loopR 1 (fun (x : Nat × (List TApiAttr) × (List UInt8) × Int × Int × UInt64 × Option Addr × Nat × Option Addr × Nat × Mem) => [(1, .int .i64 at_), (4, .slice (x.2.2.2.2.2.2.1) x.2.1.length (x.2.2.2.2.2.2.2.1)), (7, .pointer (some (⟨g6_0, 0, none⟩))), (27, .int .u64 (num.1.toNat : Int)), (28, .int .u64 (x.2.2.2.2.2.1.toNat : Int))]) (fun (x : Nat × (List TApiAttr) × (List UInt8) × Int × Int × UInt64 × Option Addr × Nat × Option Addr × Nat × Mem) (wl103 : World) => iter (fun s => table_DecodeAttrs_l1 num s.1 s.2.1 s.2.2.1 s.2.2.2.1 s.2.2.2.2) x.1 (x.2.1, x.2.2.1, x.2.2.2.1, x.2.2.2.2.1, x.2.2.2.2.2.1) = some y83 ∧ St w noF m x.2.2.2.2.2.2.2.2.2.2 [rowI rApiAttr 43 (x.2.2.2.2.2.2.1) (x.2.2.2.2.2.2.2.1) x.2.1, blkI g6_0 [.slice (x.2.2.2.2.2.2.2.2.1) x.2.2.1.length (x.2.2.2.2.2.2.2.2.2.1), .int .i64 x.2.2.2.1, .int .i64 x.2.2.2.2.1] 114] wl103 ∧ Sub mk7 x.2.2.2.2.2.2.2.2.2.2 ∧ SlI rU8 x.2.2.2.2.2.2.2.2.2.2 x.2.2.2.2.2.2.2.2.1 x.2.2.2.2.2.2.2.2.2.1 x.2.2.1) (fun (x : Nat × (List TApiAttr) × (List UInt8) × Int × Int × UInt64 × Option Addr × Nat × Option Addr × Nat × Mem) => x.1) (nn103, [], num.2.f_b, num.2.f_at, num.2.f_e, (0 : UInt64), none, 0, A7_o0_0, c7_o0_0, mk7) (by kernel_rfl) (by kernel_rfl) (by kernel_rfl) ?_ ?_
          · exact ⟨hR103, H, (Sub.refl _), hs7_0⟩
          rintro ⟨n103, l_, b1, at_1, e_, t, A_1_104, c_2_104, A_3_104, c_4_104, mm104⟩ wl103 ⟨hR103, H, hsub104, hs104_0⟩
          try dsimp only at hR103
          try dsimp only at H
          try dsimp only at hsub104
          try dsimp only at hs104_0
          obtain ⟨nk103, q103, rfl, hb_103, hnx103, hfin103⟩ := iterE hR103
          replace hb_103 : table_DecodeAttrs_l1 num l_ b1 at_1 e_ t = some q103 := hb_103
          unfold table_DecodeAttrs_l1 at hb_103
          refine seg 5 [.co [1, 1, 1, 1, 1, 0, 1, 0, 0, 1, 0], .co [1, 1, 1, 1, 1, 0, 1, 0, 0, 1, 1], .le 1, .bl 0, .le 0, .co [1, 1, 1, 1, 1, 1]] [(1, .int .i64 at_), (4, .slice A_1_104 l_.length c_2_104), (7, .pointer (some (⟨g6_0, 0, none⟩))), (27, .int .u64 (num.1.toNat : Int)), (28, .int .u64 (t.toNat : Int)), (29, .bool (decide ((t.toNat : Int) < (num.1.toNat : Int))))] (by kernel_rfl) ?_
          rcases condT hb_103 with ⟨hb105, hb_103⟩ | ⟨hb105, hb_103⟩
          · rw [hb105]
            have p105 := of_decide_eq_true hb105
            refine seg 8 [.op [1, 1, 1, 1, 1, 0, 1, 0, 0, 1, 1, 0, 0, 0] 2, .co [1, 1, 1, 1, 1, 0, 1, 0, 0, 1, 1, 0, 0, 1], .bl 1, .co [1, 1, 1, 1, 1, 0, 1, 0, 0, 1, 1, 1], .le 1, .bl 0, .le 0, .co [1, 1, 1, 1, 1, 1]] [(1, .int .i64 at_), (4, .slice A_1_104 l_.length c_2_104), (7, .pointer (some (⟨g6_0, 0, none⟩))), (27, .int .u64 (num.1.toNat : Int)), (28, .int .u64 (t.toNat : Int)), (30, .pointer (some (⟨g6_0, 0, none⟩))), (31, .pointer (some (⟨g6_0, 0, none⟩)))] (by kernel_rfl) ?_
            replace H : St w noF m mm104 [rowI rApiAttr 43 A_1_104 c_2_104 l_, blkI g6_0 [.slice A_3_104 b1.length c_4_104, .int .i64 at_1, .int .i64 e_] 114] wl103 := H
            obtain ⟨num1, h_num1, hb_103⟩ := bindE hb_103
            obtain ⟨F106, hse106, hFn106, hcl106⟩ := St.call [blkI g6_0 [.slice A_3_104 b1.length c_4_104, .int .i64 at_1, .int .i64 e_] 114] (H.pull 1 rfl)
            refine st (callR (some 32) 38 #[.pointer (some (⟨g6_0, 0, none⟩)), .int .i64 1] Try.call38 (field_Reader_Num_c H.has g6_0 ({ f_b := b1, f_at := at_1, f_e := e_ } : TFieldReader) A_3_104 c_4_104 hs104_0 1 hse106 hFn106 h_num1) (by kernel_rfl) ?_)
            rintro _ w106 ⟨A106_o0_0, c106_o0_0, mk106, rfl, hS106, hs106_0⟩
            have hsub106 := hS106.sub
            replace H := hcl106 _ _ _ hS106
            refine seg 1 [.op [1, 1, 1, 1, 1, 0, 1, 0, 0, 1, 1, 0, 0, 0] 4, .co [1, 1, 1, 1, 1, 0, 1, 0, 0, 1, 1, 0, 0, 1], .bl 1, .co [1, 1, 1, 1, 1, 0, 1, 0, 0, 1, 1, 1], .le 1, .bl 0, .le 0, .co [1, 1, 1, 1, 1, 1]] [(1, .int .i64 at_), (4, .slice A_1_104 l_.length c_2_104), (7, .pointer (some (⟨g6_0, 0, none⟩))), (27, .int .u64 (num.1.toNat : Int)), (28, .int .u64 (t.toNat : Int)), (30, .pointer (some (⟨g6_0, 0, none⟩))), (33, .int .i64 (IntKind.i64.wrap (num1.1.toNat : Int)))] (by kernel_rfl) ?_
            obtain ⟨bytes, h_bytes, hb_103⟩ := bindE hb_103
            obtain ⟨F107, hse107, hFn107, hcl107⟩ := St.call [blkI g6_0 [.slice A106_o0_0 num1.2.f_b.length c106_o0_0, .int .i64 num1.2.f_at, .int .i64 num1.2.f_e] 114] H
            refine st (callR (some 34) 48 #[.pointer (some (⟨g6_0, 0, none⟩)), .int .i64 (IntKind.i64.wrap (num1.1.toNat : Int))] Try.call48 (field_Reader_Bytes_c H.has g6_0 num1.2 A106_o0_0 c106_o0_0 hs106_0 (IntKind.i64.wrap (num1.1.toNat : Int)) hse107 hFn107 h_bytes) (by kernel_rfl) ?_)
            rintro _ w107 ⟨A107_0, c107_0, A107_o0_0, c107_o0_0, mk107, rfl, hS107, hs107_0⟩
            have hsub107 := hS107.sub
            replace H := hcl107 _ _ _ hS107
            refine seg 2 [.co [1, 1, 1, 1, 1, 0, 1, 0, 0, 1, 1, 0, 0, 1], .bl 1, .co [1, 1, 1, 1, 1, 0, 1, 0, 0, 1, 1, 1], .le 1, .bl 0, .le 0, .co [1, 1, 1, 1, 1, 1]] [(1, .int .i64 at_), (4, .slice A_1_104 l_.length c_2_104), (7, .pointer (some (⟨g6_0, 0, none⟩))), (9, .slice A107_0 bytes.1.length c107_0), (27, .int .u64 (num.1.toNat : Int)), (28, .int .u64 (t.toNat : Int))] (by kernel_rfl) ?_
            obtain ⟨text, h_text, hb_103⟩ := bindE hb_103
            obtain ⟨b2, h_b2, hb_103⟩ := bindE hb_103
            have hst : statB (bodyOf Try.f22) [1, 1, 1, 1, 1, 0, 1, 0, 0, 1, 1, 0, 0, 1] = true := by kernel_rfl
            refine drawS (Has mk107) H (by kernel_rfl) (by kernel_rfl) ?_
            intro w113 H
            refine segD2 hst [0, 1, 3] [0, 1, 3] [(1, .int .i64 at_), (7, .pointer (some (⟨g6_0, 0, none⟩))), (27, .int .u64 (num.1.toNat : Int)), (28, .int .u64 (t.toNat : Int)), (35, .slice A_1_104 l_.length c_2_104), (36, .slice A107_0 bytes.1.length c107_0), (38, .pointer (some (⟨g6_0, 0, none⟩)))] (by kernel_rfl) ?_
            refine allD2 [2, 4] (by kernel_rfl) H.has ⟨?_, ?_, trivial⟩
            · replace H : St w noF m mk107 [rowI rU8 5 A107_0 c107_0 bytes.1, blkI g6_0 [.slice A107_o0_0 bytes.2.f_b.length c107_o0_0, .int .i64 bytes.2.f_at, .int .i64 bytes.2.f_e] 114, rowI rApiAttr 43 A_1_104 c_2_104 l_] w113 := H
              refine (b2sS (some 37) 29 9 5 A107_0 c107_0 bytes.1 Try.underlying29 Try.underlying5 Try.underlying9 (by kernel_rfl) (H.rowCs 0 rfl) ?_)
              have hl114 : bytes.1.length ≤ 9223372036854775807 := (Nat.le_trans (H.rowCap 0 rfl).1 (H.rowCap 0 rfl).2)
              replace H := (H.pull 1 rfl)
              obtain ⟨F115, hse115, hFn115, hcl115⟩ := St.call [blkI g6_0 [.slice A107_o0_0 bytes.2.f_b.length c107_o0_0, .int .i64 bytes.2.f_at, .int .i64 bytes.2.f_e] 114] H
              refine stD2 (i := 4) (by kernel_rfl) H.has (callR (some 39) 49 #[.pointer (some (⟨g6_0, 0, none⟩)), .int .i64 4096] Try.call49 (field_Reader_Text_c H.has g6_0 bytes.2 A107_o0_0 c107_o0_0 hs107_0 4096 hse115 hFn115 h_text) (by kernel_rfl) ?_)
              rintro _ w115 ⟨A115_0, c115_0, A115_o0_0, c115_o0_0, mk115, rfl, hS115, hs115_0⟩
              have hsub115 := hS115.sub
              replace H := hcl115 _ _ _ hS115
              refine segD2 hst [5] [0, 1, 3, 2, 4, 5] [(1, .int .i64 at_), (7, .pointer (some (⟨g6_0, 0, none⟩))), (27, .int .u64 (num.1.toNat : Int)), (28, .int .u64 (t.toNat : Int)), (35, .slice A_1_104 l_.length c_2_104), (40, .agg #[.string ⟨bytes.1.toArray⟩, .slice A115_0 text.1.length c115_0])] (by kernel_rfl) ?_
              refine stD2 (i := 6) (by kernel_rfl) (H.has.sub hsub115) (newS (some 41) (fun g => .slice (some ⟨g, 0, none⟩) 1 1) [.string ⟨bytes.1.toArray⟩, .slice A115_0 text.1.length c115_0] 43 H (by kernel_rfl) ?_)
              intro g116 w116 H
              obtain ⟨mf117, hsub117, hsf117, H⟩ := H.fixR 1 rfl
              refine stD2 (i := 7) (by kernel_rfl) (H.has.sub (hsub115.trans hsub117)) (appS (r := rApiAttr) (some 42) 41 43 40 (.agg #[.string ⟨([] : List UInt8).toArray⟩, .slice none 0 0]) 41 3 A_1_104 (some ⟨g116, 0, none⟩) c_2_104 1 1 l_ [({ Name := bytes.1, Value := text.1 } : TApiAttr)] b2 _ H rfl ⟨Try.underlying41, by kernel_rfl⟩ rfl (by decide) (by kernel_rfl) (Cs.of_blk (H.blk 0 rfl)) (Rows.cons (cs := [.string ⟨bytes.1.toArray⟩, .slice A115_0 text.1.length c115_0]) ⟨A115_0, c115_0, rfl, hl114, hsf117⟩ Rows.nil) rfl h_b2 (by decide) (by decide) ?_)
              intro A118 c118 w118 H
              replace H := H.drop 0 rfl
              refine segD2 hst [8] [0, 1, 3, 2, 4, 5, 6, 7, 8] [(1, .int .i64 at_), (4, .slice A118 b2.length c118), (7, .pointer (some (⟨g6_0, 0, none⟩))), (27, .int .u64 (num.1.toNat : Int)), (28, .int .u64 (t.toNat : Int))] (by kernel_rfl) ?_
              refine endD2 (by kernel_rfl) (H.has.sub (hsub115.trans hsub117)) ?_
              refine seg 5 [.le 1, .bl 0, .le 0, .co [1, 1, 1, 1, 1, 1]] [(1, .int .i64 at_), (4, .slice A118 b2.length c118), (7, .pointer (some (⟨g6_0, 0, none⟩))), (27, .int .u64 (num.1.toNat : Int)), (28, .int .u64 (IntKind.u64.wrap ((t.toNat : Int) + 1)))] (by kernel_rfl) ?_
              rw [q64_add t (1 : UInt64) (t.toNat : Int) 1 (by rfl) (by rfl)]
              refine leR (nk103, b2, text.2.f_b, text.2.f_at, text.2.f_e, (t + (1 : UInt64)), A118, c118, A115_o0_0, c115_o0_0, mf117) (Nat.lt_succ_self _) ⟨hnx103 _ (Option.some.inj hb_103).symm, (St.takeN 2 (H.pull 2 rfl)), ((((hsub104.trans hsub106).trans hsub107).trans hsub115).trans hsub117), (hs115_0.mono hsub117)⟩ (by kernel_rfl)
            · replace H := (H.pull 1 rfl)
              obtain ⟨F119, hse119, hFn119, hcl119⟩ := St.call [blkI g6_0 [.slice A107_o0_0 bytes.2.f_b.length c107_o0_0, .int .i64 bytes.2.f_at, .int .i64 bytes.2.f_e] 114] H
              refine (callR (some 39) 49 #[.pointer (some (⟨g6_0, 0, none⟩)), .int .i64 4096] Try.call49 (field_Reader_Text_c H.has g6_0 bytes.2 A107_o0_0 c107_o0_0 hs107_0 4096 hse119 hFn119 h_text) (by kernel_rfl) ?_)
              rintro _ w119 ⟨A119_0, c119_0, A119_o0_0, c119_o0_0, mk119, rfl, hS119, hs119_0⟩
              have hsub119 := hS119.sub
              replace H := hcl119 _ _ _ hS119
              replace H : St w noF m mk119 [rowI rU8 5 A119_0 c119_0 text.1, blkI g6_0 [.slice A119_o0_0 text.2.f_b.length c119_o0_0, .int .i64 text.2.f_at, .int .i64 text.2.f_e] 114, rowI rU8 5 A107_0 c107_0 bytes.1, rowI rApiAttr 43 A_1_104 c_2_104 l_] w119 := H
              refine stD2 (i := 2) (by kernel_rfl) (H.has.sub hsub119) (b2sS (some 37) 29 9 5 A107_0 c107_0 bytes.1 Try.underlying29 Try.underlying5 Try.underlying9 (by kernel_rfl) (H.rowCs 2 rfl) ?_)
              have hl120 : bytes.1.length ≤ 9223372036854775807 := (Nat.le_trans (H.rowCap 2 rfl).1 (H.rowCap 2 rfl).2)
              refine segD2 hst [5] [0, 1, 3, 4, 2, 5] [(1, .int .i64 at_), (7, .pointer (some (⟨g6_0, 0, none⟩))), (27, .int .u64 (num.1.toNat : Int)), (28, .int .u64 (t.toNat : Int)), (35, .slice A_1_104 l_.length c_2_104), (40, .agg #[.string ⟨bytes.1.toArray⟩, .slice A119_0 text.1.length c119_0])] (by kernel_rfl) ?_
              refine stD2 (i := 6) (by kernel_rfl) (H.has.sub hsub119) (newS (some 41) (fun g => .slice (some ⟨g, 0, none⟩) 1 1) [.string ⟨bytes.1.toArray⟩, .slice A119_0 text.1.length c119_0] 43 H (by kernel_rfl) ?_)
              intro g121 w121 H
              obtain ⟨mf122, hsub122, hsf122, H⟩ := H.fixR 1 rfl
              refine stD2 (i := 7) (by kernel_rfl) (H.has.sub (hsub119.trans hsub122)) (appS (r := rApiAttr) (some 42) 41 43 40 (.agg #[.string ⟨([] : List UInt8).toArray⟩, .slice none 0 0]) 41 3 A_1_104 (some ⟨g121, 0, none⟩) c_2_104 1 1 l_ [({ Name := bytes.1, Value := text.1 } : TApiAttr)] b2 _ H rfl ⟨Try.underlying41, by kernel_rfl⟩ rfl (by decide) (by kernel_rfl) (Cs.of_blk (H.blk 0 rfl)) (Rows.cons (cs := [.string ⟨bytes.1.toArray⟩, .slice A119_0 text.1.length c119_0]) ⟨A119_0, c119_0, rfl, hl120, hsf122⟩ Rows.nil) rfl h_b2 (by decide) (by decide) ?_)
              intro A123 c123 w123 H
              replace H := H.drop 0 rfl
              refine segD2 hst [8] [0, 1, 3, 4, 2, 5, 6, 7, 8] [(1, .int .i64 at_), (4, .slice A123 b2.length c123), (7, .pointer (some (⟨g6_0, 0, none⟩))), (27, .int .u64 (num.1.toNat : Int)), (28, .int .u64 (t.toNat : Int))] (by kernel_rfl) ?_
              refine endD2 (by kernel_rfl) (H.has.sub (hsub119.trans hsub122)) ?_
              refine seg 5 [.le 1, .bl 0, .le 0, .co [1, 1, 1, 1, 1, 1]] [(1, .int .i64 at_), (4, .slice A123 b2.length c123), (7, .pointer (some (⟨g6_0, 0, none⟩))), (27, .int .u64 (num.1.toNat : Int)), (28, .int .u64 (IntKind.u64.wrap ((t.toNat : Int) + 1)))] (by kernel_rfl) ?_
              rw [q64_add t (1 : UInt64) (t.toNat : Int) 1 (by rfl) (by rfl)]
              refine leR (nk103, b2, text.2.f_b, text.2.f_at, text.2.f_e, (t + (1 : UInt64)), A123, c123, A119_o0_0, c119_o0_0, mf122) (Nat.lt_succ_self _) ⟨hnx103 _ (Option.some.inj hb_103).symm, (St.takeN 2 (H.pull 2 rfl)), ((((hsub104.trans hsub106).trans hsub107).trans hsub119).trans hsub122), (hs119_0.mono hsub122)⟩ (by kernel_rfl)
          · rw [hb105]
            have p105 := of_decide_eq_false hb105
            refine seg 2 [.le 0, .co [1, 1, 1, 1, 1, 1]] [(1, .int .i64 at_), (4, .slice A_1_104 l_.length c_2_104), (7, .pointer (some (⟨g6_0, 0, none⟩)))] (by kernel_rfl) ?_
            refine leR_up (k' := []) (by rfl) ?_
            refine leJ (l_, b1, at_1, e_, A_1_104, c_2_104, A_3_104, c_4_104, mm104) ⟨(hfin103 _ (Option.some.inj hb_103).symm).symm, H, hsub104, hs104_0⟩ (by kernel_rfl)
        rintro ⟨l_, b1, at_1, e_, A_1_84, c_2_84, A_3_84, c_4_84, mm84⟩ wj83 ⟨hy83, H, hsub84, hs84_0⟩
        try dsimp only at hy83
        try dsimp only at H
        try dsimp only at hsub84
        try dsimp only at hs84_0
        rw [hy83] at hf
        try dsimp only at hf
        refine seg 3 [.op [1, 1, 1, 1, 1, 1, 0] 1, .co [1, 1, 1, 1, 1, 1, 1]] [(1, .int .i64 at_), (4, .slice A_1_84 l_.length c_2_84), (45, .pointer (some (⟨g6_0, 0, none⟩)))] (by kernel_rfl) ?_
        obtain ⟨err, h_err, hf⟩ := bindE hf
        obtain ⟨F124, hse124, hFn124, hcl124⟩ := St.call [blkI g6_0 [.slice A_3_84 b1.length c_4_84, .int .i64 at_1, .int .i64 e_] 114] (H.pull 1 rfl)
        refine st (callR (some 46) 50 #[.pointer (some (⟨g6_0, 0, none⟩))] Try.call50 (field_Reader_Err_c H.has g6_0 ({ f_b := b1, f_at := at_1, f_e := e_ } : TFieldReader) A_3_84 c_4_84 hs84_0 hse124 hFn124 h_err) (by kernel_rfl) ?_)
        rintro _ w124 ⟨mk124, rfl, hS124⟩
        have hsub124 := hS124.sub
        replace H := hcl124 _ _ _ hS124
        refine seg 12 [.op [1, 1, 1, 1, 1, 1, 1, 0, 0] 3, .co [1, 1, 1, 1, 1, 1, 1, 0, 1], .co [1, 1, 1, 1, 1, 1, 1, 1]] [(1, .int .i64 at_), (4, .slice A_1_84 l_.length c_2_84), (10, .int .i64 err.1), (51, .bool (err.2 != 0))] (by kernel_rfl) ?_
        rcases condT hf with ⟨hb129, hf⟩ | ⟨hb129, hf⟩
        · rw [hb129]
          refine seg 12 [.co [1, 1, 1, 1, 1, 1, 1, 0, 1, 0, 1], .co [1, 1, 1, 1, 1, 1, 1, 1]] [(4, .slice none 0 0), (5, .int .i64 0), (6, .int .i64 6)] (by kernel_rfl) ?_
          have H := H.nilR rApiAttr 43
          refine retR [4, 5, 6] [.slice none 0 0, .int .i64 0, .int .i64 6] (by kernel_rfl) (by kernel_rfl) (by kernel_rfl) ?_
          obtain rfl : ([], 0, 6) = r := (Option.some.inj hf)
          exact ⟨_, rfl, none, 0, mk124, rfl, (St.takeN 1 H)⟩
        · rw [hb129]
          refine seg 1 [.op [1, 1, 1, 1, 1, 1, 1, 0, 0] 4, .co [1, 1, 1, 1, 1, 1, 1, 0, 1], .co [1, 1, 1, 1, 1, 1, 1, 1]] [(1, .int .i64 at_), (4, .slice A_1_84 l_.length c_2_84), (10, .int .i64 err.1), (51, .bool false), (52, .slice A_1_84 l_.length c_2_84)] (by kernel_rfl) ?_
          replace H : St w noF m mk124 [rowI rApiAttr 43 A_1_84 c_2_84 l_] w124 := (H.drop 0 rfl)
          have H0_130 := H
          obtain ⟨mf131, hsub131, hsf131, H⟩ := H.fixR 0 rfl
          obtain ⟨right, h_right, hf⟩ := bindE hf
          refine st (callR (some 53) 41 #[.slice A_1_84 l_.length c_2_84] Try.call41 (table_right_c H.has l_ A_1_84 c_2_84 hsf131 h_right) (by kernel_rfl) ?_)
          rintro _ w132 ⟨rfl, hx132⟩
          replace H := H0_130.ex hx132
          refine seg 3 [.co [1, 1, 1, 1, 1, 1, 1, 0, 1], .co [1, 1, 1, 1, 1, 1, 1, 1]] [(1, .int .i64 at_), (4, .slice A_1_84 l_.length c_2_84), (10, .int .i64 err.1), (55, .bool (!right))] (by kernel_rfl) ?_
          rcases condT hf with ⟨hb134, hf⟩ | ⟨hb134, hf⟩
          · rw [hb134]
            refine seg 12 [.co [1, 1, 1, 1, 1, 1, 1, 1, 1]] [(4, .slice A_1_84 l_.length c_2_84), (5, .int .i64 (IntKind.i64.wrap (at_ + err.1))), (6, .int .i64 0)] (by kernel_rfl) ?_
            refine retR [4, 5, 6] [.slice A_1_84 l_.length c_2_84, .int .i64 (IntKind.i64.wrap (at_ + err.1)), .int .i64 0] (by kernel_rfl) (by kernel_rfl) (by kernel_rfl) ?_
            obtain rfl : (l_, (IntKind.i64.wrap (at_ + err.1)), 0) = r := (Option.some.inj hf)
            exact ⟨_, rfl, A_1_84, c_2_84, mk124, rfl, H⟩
          · rw [hb134]
            refine seg 7 [.co [1, 1, 1, 1, 1, 1, 1, 0, 1, 0, 1], .co [1, 1, 1, 1, 1, 1, 1, 1]] [(4, .slice none 0 0), (5, .int .i64 0), (6, .int .i64 6)] (by kernel_rfl) ?_
            have H := H.nilR rApiAttr 43
            refine retR [4, 5, 6] [.slice none 0 0, .int .i64 0, .int .i64 6] (by kernel_rfl) (by kernel_rfl) (by kernel_rfl) ?_
            obtain rfl : ([], 0, 6) = r := (Option.some.inj hf)
            exact ⟨_, rfl, none, 0, mk124, rfl, (St.takeN 1 H)⟩
theorem ref11_SameAttrs_c {m : Mem} {w : World} (hm : Has m w) (a : (List TApiAttr)) (A0_0 : Option Addr) (c0_0 : Nat) (s0_0 : SlI rApiAttr m A0_0 c0_0 a) (b : (List TApiAttr)) (A1_0 : Option Addr) (c1_0 : Nat) (s1_0 : SlI rApiAttr m A1_0 c1_0 b) {r : Bool} (hf : ref11_SameAttrs a b = some r) :
    Calls Try.prog 23 #[.slice A0_0 a.length c0_0, .slice A1_0 b.length c1_0] w fun e w' => ∃ v, e = .returned v ∧ v = .bool r ∧ Ex w w' := by
  unfold ref11_SameAttrs at hf
  have H := St.start0 hm
  refine callsR Try.func23 (by kernel_rfl) (by kernel_rfl) ?_
  refine seg 13 [.co [1, 0, 1], .co [1, 1]] [(0, .slice A0_0 a.length c0_0), (1, .slice A1_0 b.length c1_0), (10, .bool ((a.length : Int) != (b.length : Int)))] (by kernel_rfl) ?_
  rcases condT hf with ⟨hb2, hf⟩ | ⟨hb2, hf⟩
  · rw [hb2]
    refine seg 5 [.co [1, 0, 1, 0, 1], .co [1, 1]] [(4, .bool false)] (by kernel_rfl) ?_
    refine retR [4] [.bool false] (by kernel_rfl) (by kernel_rfl) (by kernel_rfl) ?_
    have hret := (Option.some.inj hf)
    subst hret
    exact ⟨_, rfl, rfl, H.scalar⟩
  · rw [hb2]
    refine seg 7 [.co [1, 1, 0, 1], .co [1, 1, 1]] [(0, .slice A0_0 a.length c0_0), (1, .slice A1_0 b.length c1_0), (5, .int .i64 0)] (by kernel_rfl) ?_
    obtain ⟨y165, hp165, hfl165, hfr165⟩ := bndE hf
    refine joinR 0 (fun (x : Unit) => []) (fun (x : Unit) (wj165 : World) => y165 = .inl () ∧ St w noF m m [] wj165) (by kernel_rfl) ?_ ?_
    · refine seg 1 [.co [1, 1, 0, 1, 0], .bl 0, .le 0, .co [1, 1, 1]] [(0, .slice A0_0 a.length c0_0), (1, .slice A1_0 b.length c1_0), (5, .int .i64 0)] (by kernel_rfl) ?_
      obtain ⟨nn203, hR203⟩ := loopO_iff.1 hp165
      refine loopR 1 (fun (x : Nat × Nat) => [(0, .slice A0_0 a.length c0_0), (1, .slice A1_0 b.length c1_0), (5, .int .i64 (x.2 : Int))]) (fun (x : Nat × Nat) (wl203 : World) => iter (fun s => ref11_SameAttrs_l1 a b s) x.1 x.2 = some y165 ∧ St w noF m m [] wl203) (fun (x : Nat × Nat) => x.1) (nn203, 0) (by kernel_rfl) (by kernel_rfl) (by kernel_rfl) ?_ ?_
      · exact ⟨hR203, H⟩
      rintro ⟨n203, i⟩ wl203 ⟨hR203, H⟩
      try dsimp only at hR203
      try dsimp only at H
      obtain ⟨nk203, q203, rfl, hb_203, hnx203, hfin203⟩ := iterE hR203
      replace hb_203 : ref11_SameAttrs_l1 a b i = some q203 := hb_203
      unfold ref11_SameAttrs_l1 at hb_203
      refine seg 8 [.co [1, 1, 0, 1, 0, 0, 0, 1], .co [1, 1, 0, 1, 0, 0, 1], .le 1, .bl 0, .le 0, .co [1, 1, 1]] [(0, .slice A0_0 a.length c0_0), (1, .slice A1_0 b.length c1_0), (5, .int .i64 (i : Int)), (14, .bool (decide ((i : Int) < (a.length : Int))))] (by kernel_rfl) ?_
      rcases condT hb_203 with ⟨hb205, hb_203⟩ | ⟨hb205, hb_203⟩
      · rw [hb205]
        have p205 := of_decide_eq_true hb205
        refine seg 5 [.co [1, 1, 0, 1, 0, 0, 1, 0, 0, 0], .co [1, 1, 0, 1, 0, 0, 1, 0, 0, 1], .bl 1, .co [1, 1, 0, 1, 0, 0, 1, 1], .le 1, .bl 0, .le 0, .co [1, 1, 1]] [(0, .slice A0_0 a.length c0_0), (1, .slice A1_0 b.length c1_0), (5, .int .i64 (i : Int))] (by kernel_rfl) ?_
        obtain ⟨x_, h_x_, hb_203⟩ := bindE hb_203
        obtain ⟨x_1, h_x_1, hb_203⟩ := bindE hb_203
        rcases condT hb_203 with ⟨hb210, hb_203⟩ | ⟨hb210, hb_203⟩
        · have hst : statB (bodyOf Try.f23) [1, 1, 0, 1, 0, 0, 1, 0, 0, 0] = true := by kernel_rfl
          refine drawS (Has m) H (by kernel_rfl) (by kernel_rfl) ?_
          intro w215 H
          refine segD2 hst [0, 1, 5, 6] [0, 1, 5, 6] [(0, .slice A0_0 a.length c0_0), (1, .slice A1_0 b.length c1_0), (5, .int .i64 (i : Int)), (17, .slice A0_0 a.length c0_0), (18, .int .i64 (i : Int)), (22, .slice A1_0 b.length c1_0), (23, .int .i64 (i : Int))] (by kernel_rfl) ?_
          obtain ⟨ad216, _, ea216, ⟨A216_1, c216_1, rfl, hl216_0, hs216_1⟩, hc216⟩ := s0_0.at_ h_x_ (by decide)
          refine takeD2 (i := 2) (d := (some 19)) (s := vS (Instr.indexAt 41 (.slice A0_0 a.length c0_0) (.int .i64 (i : Int)))) (v := .pointer (some (ad216.add (i * 2)))) hst (by kernel_rfl) (by kernel_rfl) (fun w' hw' => idx_run 41 43 2 _ ad216 _ _ _ _ _ ea216 (by kernel_rfl) (by omega) (by have := (List.getElem?_eq_some_iff.1 h_x_).1; omega) rfl) ?_
          refine segD2 hst [3] [0, 1, 5, 6, 2, 3] [(0, .slice A0_0 a.length c0_0), (1, .slice A1_0 b.length c1_0), (5, .int .i64 (i : Int)), (20, .pointer (some (ad216.add (i * 2)))), (22, .slice A1_0 b.length c1_0), (23, .int .i64 (i : Int))] (by kernel_rfl) ?_
          refine takeD2 (i := 4) (d := (some 21)) (s := vS (Instr.loadAt 9 (.pointer (some (ad216.add (i * 2)))))) (v := (.string ⟨x_.Name.toArray⟩)) hst (by kernel_rfl) (by kernel_rfl) (fun w' hw' => ld_run _ _ _ (by kernel_rfl) (hw'.cell (mc0 (hc216 0 _ rfl)))) ?_
          obtain ⟨ad217, _, ea217, ⟨A217_1, c217_1, rfl, hl217_0, hs217_1⟩, hc217⟩ := s1_0.at_ h_x_1 (by decide)
          refine stD2 (i := 7) (by kernel_rfl) H.has (idxS (some 24) 41 43 2 A1_0 ad217 b.length c1_0 .i64 (i : Int) ea217 (by kernel_rfl) (by kernel_rfl) (by omega) (by have := (List.getElem?_eq_some_iff.1 h_x_1).1; omega) ?_)
          refine segD2 hst [8] [0, 1, 5, 6, 2, 3, 4, 7, 8] [(0, .slice A0_0 a.length c0_0), (1, .slice A1_0 b.length c1_0), (5, .int .i64 (i : Int)), (21, .string ⟨x_.Name.toArray⟩), (25, .pointer (some (ad217.add (i * 2))))] (by kernel_rfl) ?_
          refine stD2 (i := 9) (by kernel_rfl) H.has (ldR (some 26) 9 (ad217.add (i * 2)) (.string ⟨x_1.Name.toArray⟩) (by kernel_rfl) (by kernel_rfl) (H.cellI (mc0 (hc217 0 _ rfl))) ?_)
          refine segD2 hst [10] [0, 1, 5, 6, 2, 3, 4, 7, 8, 9, 10] [(0, .slice A0_0 a.length c0_0), (1, .slice A1_0 b.length c1_0), (5, .int .i64 (i : Int)), (27, .bool (!((ByteArray.toList ⟨x_.Name.toArray⟩) == (ByteArray.toList ⟨x_1.Name.toArray⟩))))] (by kernel_rfl) ?_
          rw [sne_raw x_.Name x_1.Name]
          rw [show (x_.Name != x_1.Name) = true from hb210]
          refine segD2 hst [11, 12, 13, 14, 15, 16, 17, 18, 19, 20, 21, 22, 23, 24, 25] [0, 1, 5, 6, 2, 3, 4, 7, 8, 9, 10, 11, 12, 13, 14, 15, 16, 17, 18, 19, 20, 21, 22, 23, 24, 25] [(0, .slice A0_0 a.length c0_0), (1, .slice A1_0 b.length c1_0), (5, .int .i64 (i : Int)), (42, .bool true)] (by kernel_rfl) ?_
          refine endD2 (by kernel_rfl) H.has ?_
          refine seg 5 [.co [1, 1, 0, 1, 0, 0, 1, 0, 0, 1, 0, 1], .bl 1, .co [1, 1, 0, 1, 0, 0, 1, 1], .le 1, .bl 0, .le 0, .co [1, 1, 1]] [(4, .bool false)] (by kernel_rfl) ?_
          refine retR [4] [.bool false] (by kernel_rfl) (by kernel_rfl) (by kernel_rfl) ?_
          have hret := (hfr165 _ (hfin203 _ (Option.some.inj hb_203).symm).symm)
          subst hret
          exact ⟨_, rfl, rfl, H.scalar⟩
        · have hst : statB (bodyOf Try.f23) [1, 1, 0, 1, 0, 0, 1, 0, 0, 0] = true := by kernel_rfl
          refine drawS (Has m) H (by kernel_rfl) (by kernel_rfl) ?_
          intro w224 H
          refine segD2 hst [0, 1, 5, 6] [0, 1, 5, 6] [(0, .slice A0_0 a.length c0_0), (1, .slice A1_0 b.length c1_0), (5, .int .i64 (i : Int)), (17, .slice A0_0 a.length c0_0), (18, .int .i64 (i : Int)), (22, .slice A1_0 b.length c1_0), (23, .int .i64 (i : Int))] (by kernel_rfl) ?_
          obtain ⟨ad225, _, ea225, ⟨A225_1, c225_1, rfl, hl225_0, hs225_1⟩, hc225⟩ := s0_0.at_ h_x_ (by decide)
          refine takeD2 (i := 2) (d := (some 19)) (s := vS (Instr.indexAt 41 (.slice A0_0 a.length c0_0) (.int .i64 (i : Int)))) (v := .pointer (some (ad225.add (i * 2)))) hst (by kernel_rfl) (by kernel_rfl) (fun w' hw' => idx_run 41 43 2 _ ad225 _ _ _ _ _ ea225 (by kernel_rfl) (by omega) (by have := (List.getElem?_eq_some_iff.1 h_x_).1; omega) rfl) ?_
          refine segD2 hst [3] [0, 1, 5, 6, 2, 3] [(0, .slice A0_0 a.length c0_0), (1, .slice A1_0 b.length c1_0), (5, .int .i64 (i : Int)), (20, .pointer (some (ad225.add (i * 2)))), (22, .slice A1_0 b.length c1_0), (23, .int .i64 (i : Int))] (by kernel_rfl) ?_
          refine takeD2 (i := 4) (d := (some 21)) (s := vS (Instr.loadAt 9 (.pointer (some (ad225.add (i * 2)))))) (v := (.string ⟨x_.Name.toArray⟩)) hst (by kernel_rfl) (by kernel_rfl) (fun w' hw' => ld_run _ _ _ (by kernel_rfl) (hw'.cell (mc0 (hc225 0 _ rfl)))) ?_
          obtain ⟨ad226, _, ea226, ⟨A226_1, c226_1, rfl, hl226_0, hs226_1⟩, hc226⟩ := s1_0.at_ h_x_1 (by decide)
          refine stD2 (i := 7) (by kernel_rfl) H.has (idxS (some 24) 41 43 2 A1_0 ad226 b.length c1_0 .i64 (i : Int) ea226 (by kernel_rfl) (by kernel_rfl) (by omega) (by have := (List.getElem?_eq_some_iff.1 h_x_1).1; omega) ?_)
          refine segD2 hst [8] [0, 1, 5, 6, 2, 3, 4, 7, 8] [(0, .slice A0_0 a.length c0_0), (1, .slice A1_0 b.length c1_0), (5, .int .i64 (i : Int)), (21, .string ⟨x_.Name.toArray⟩), (25, .pointer (some (ad226.add (i * 2))))] (by kernel_rfl) ?_
          refine stD2 (i := 9) (by kernel_rfl) H.has (ldR (some 26) 9 (ad226.add (i * 2)) (.string ⟨x_1.Name.toArray⟩) (by kernel_rfl) (by kernel_rfl) (H.cellI (mc0 (hc226 0 _ rfl))) ?_)
          refine segD2 hst [10] [0, 1, 5, 6, 2, 3, 4, 7, 8, 9, 10] [(0, .slice A0_0 a.length c0_0), (1, .slice A1_0 b.length c1_0), (5, .int .i64 (i : Int)), (27, .bool (!((ByteArray.toList ⟨x_.Name.toArray⟩) == (ByteArray.toList ⟨x_1.Name.toArray⟩))))] (by kernel_rfl) ?_
          rw [sne_raw x_.Name x_1.Name]
          rw [show (x_.Name != x_1.Name) = false from hb210]
          refine segD2 hst [11, 12, 13, 18, 19] [0, 1, 5, 6, 2, 3, 4, 7, 8, 9, 10, 11, 12, 13, 18, 19] [(0, .slice A0_0 a.length c0_0), (1, .slice A1_0 b.length c1_0), (5, .int .i64 (i : Int)), (28, .bool false), (29, .slice A0_0 a.length c0_0), (30, .int .i64 (i : Int)), (35, .slice A1_0 b.length c1_0), (36, .int .i64 (i : Int))] (by kernel_rfl) ?_
          refine takeD2 (i := 14) (d := (some 31)) (s := vS (Instr.indexAt 41 (.slice A0_0 a.length c0_0) (.int .i64 (i : Int)))) (v := .pointer (some (ad225.add (i * 2)))) hst (by kernel_rfl) (by kernel_rfl) (fun w' hw' => idx_run 41 43 2 _ ad225 _ _ _ _ _ ea225 (by kernel_rfl) (by omega) (by have := (List.getElem?_eq_some_iff.1 h_x_).1; omega) rfl) ?_
          refine segD2 hst [15] [0, 1, 5, 6, 2, 3, 4, 7, 8, 9, 10, 11, 12, 13, 18, 19, 14, 15] [(0, .slice A0_0 a.length c0_0), (1, .slice A1_0 b.length c1_0), (5, .int .i64 (i : Int)), (28, .bool false), (32, .pointer (some ((ad225.add (i * 2)).add 1))), (35, .slice A1_0 b.length c1_0), (36, .int .i64 (i : Int))] (by kernel_rfl) ?_
          refine takeD2 (i := 16) (d := (some 33)) (s := vS (Instr.loadAt 29 (.pointer (some ((ad225.add (i * 2)).add 1))))) (v := (.slice A225_1 x_.Value.length c225_1)) hst (by kernel_rfl) (by kernel_rfl) (fun w' hw' => ld_run _ _ _ (by kernel_rfl) (hw'.cell (hc225 1 _ rfl))) ?_
          refine takeD2 (i := 20) (d := (some 37)) (s := vS (Instr.indexAt 41 (.slice A1_0 b.length c1_0) (.int .i64 (i : Int)))) (v := .pointer (some (ad226.add (i * 2)))) hst (by kernel_rfl) (by kernel_rfl) (fun w' hw' => idx_run 41 43 2 _ ad226 _ _ _ _ _ ea226 (by kernel_rfl) (by omega) (by have := (List.getElem?_eq_some_iff.1 h_x_1).1; omega) rfl) ?_
          refine segD2 hst [21] [0, 1, 5, 6, 2, 3, 4, 7, 8, 9, 10, 11, 12, 13, 18, 19, 14, 15, 16, 20, 21] [(0, .slice A0_0 a.length c0_0), (1, .slice A1_0 b.length c1_0), (5, .int .i64 (i : Int)), (28, .bool false), (33, .slice A225_1 x_.Value.length c225_1), (38, .pointer (some ((ad226.add (i * 2)).add 1)))] (by kernel_rfl) ?_
          refine takeD2 (i := 22) (d := (some 39)) (s := vS (Instr.loadAt 29 (.pointer (some ((ad226.add (i * 2)).add 1))))) (v := (.slice A226_1 x_1.Value.length c226_1)) hst (by kernel_rfl) (by kernel_rfl) (fun w' hw' => ld_run _ _ _ (by kernel_rfl) (hw'.cell (hc226 1 _ rfl))) ?_
          refine allD2 [17, 23] (by kernel_rfl) H.has ⟨?_, ?_, trivial⟩
          · refine (b2sS (some 34) 29 9 5 A225_1 c225_1 x_.Value Try.underlying29 Try.underlying5 Try.underlying9 (by kernel_rfl) (hs225_1.bytes.cs H.has) ?_)
            have hl227 : x_.Value.length ≤ 9223372036854775807 := hs225_1.bound
            refine stD2 (i := 23) (by kernel_rfl) H.has (b2sS (some 40) 29 9 5 A226_1 c226_1 x_1.Value Try.underlying29 Try.underlying5 Try.underlying9 (by kernel_rfl) (hs226_1.bytes.cs H.has) ?_)
            have hl228 : x_1.Value.length ≤ 9223372036854775807 := hs226_1.bound
            refine segD2 hst [24] [0, 1, 5, 6, 2, 3, 4, 7, 8, 9, 10, 11, 12, 13, 18, 19, 14, 15, 16, 20, 21, 22, 17, 23, 24] [(0, .slice A0_0 a.length c0_0), (1, .slice A1_0 b.length c1_0), (5, .int .i64 (i : Int)), (28, .bool false), (41, .bool (!((ByteArray.toList ⟨x_.Value.toArray⟩) == (ByteArray.toList ⟨x_1.Value.toArray⟩))))] (by kernel_rfl) ?_
            rw [sne_raw x_.Value x_1.Value]
            refine segD2 hst [25] [0, 1, 5, 6, 2, 3, 4, 7, 8, 9, 10, 11, 12, 13, 18, 19, 14, 15, 16, 20, 21, 22, 17, 23, 24, 25] [(0, .slice A0_0 a.length c0_0), (1, .slice A1_0 b.length c1_0), (5, .int .i64 (i : Int)), (42, .bool (x_.Value != x_1.Value))] (by kernel_rfl) ?_
            refine endD2 (by kernel_rfl) H.has ?_
            rcases condT hb_203 with ⟨hb229, hb_203⟩ | ⟨hb229, hb_203⟩
            · rw [hb229]
              refine seg 5 [.co [1, 1, 0, 1, 0, 0, 1, 0, 0, 1, 0, 1], .bl 1, .co [1, 1, 0, 1, 0, 0, 1, 1], .le 1, .bl 0, .le 0, .co [1, 1, 1]] [(4, .bool false)] (by kernel_rfl) ?_
              refine retR [4] [.bool false] (by kernel_rfl) (by kernel_rfl) (by kernel_rfl) ?_
              have hret := (hfr165 _ (hfin203 _ (Option.some.inj hb_203).symm).symm)
              subst hret
              exact ⟨_, rfl, rfl, H.scalar⟩
            · rw [hb229]
              refine seg 8 [.le 1, .bl 0, .le 0, .co [1, 1, 1]] [(0, .slice A0_0 a.length c0_0), (1, .slice A1_0 b.length c1_0), (5, .int .i64 (IntKind.i64.wrap ((i : Int) + 1)))] (by kernel_rfl) ?_
              have := s0_0.bound
              rw [show IntKind.i64.wrap ((i : Int) + 1) = ((i : Int) + 1) from w64 (by omega)]
              refine leR (nk203, (i + 1)) (Nat.lt_succ_self _) ⟨hnx203 _ (Option.some.inj hb_203).symm, H⟩ (by kernel_rfl)
          · refine (b2sS (some 40) 29 9 5 A226_1 c226_1 x_1.Value Try.underlying29 Try.underlying5 Try.underlying9 (by kernel_rfl) (hs226_1.bytes.cs H.has) ?_)
            have hl230 : x_1.Value.length ≤ 9223372036854775807 := hs226_1.bound
            refine stD2 (i := 17) (by kernel_rfl) H.has (b2sS (some 34) 29 9 5 A225_1 c225_1 x_.Value Try.underlying29 Try.underlying5 Try.underlying9 (by kernel_rfl) (hs225_1.bytes.cs H.has) ?_)
            have hl231 : x_.Value.length ≤ 9223372036854775807 := hs225_1.bound
            refine segD2 hst [24] [0, 1, 5, 6, 2, 3, 4, 7, 8, 9, 10, 11, 12, 13, 18, 19, 14, 15, 16, 20, 21, 22, 23, 17, 24] [(0, .slice A0_0 a.length c0_0), (1, .slice A1_0 b.length c1_0), (5, .int .i64 (i : Int)), (28, .bool false), (41, .bool (!((ByteArray.toList ⟨x_.Value.toArray⟩) == (ByteArray.toList ⟨x_1.Value.toArray⟩))))] (by kernel_rfl) ?_
            rw [sne_raw x_.Value x_1.Value]
            refine segD2 hst [25] [0, 1, 5, 6, 2, 3, 4, 7, 8, 9, 10, 11, 12, 13, 18, 19, 14, 15, 16, 20, 21, 22, 23, 17, 24, 25] [(0, .slice A0_0 a.length c0_0), (1, .slice A1_0 b.length c1_0), (5, .int .i64 (i : Int)), (42, .bool (x_.Value != x_1.Value))] (by kernel_rfl) ?_
            refine endD2 (by kernel_rfl) H.has ?_
            rcases condT hb_203 with ⟨hb232, hb_203⟩ | ⟨hb232, hb_203⟩
            · rw [hb232]
              refine seg 5 [.co [1, 1, 0, 1, 0, 0, 1, 0, 0, 1, 0, 1], .bl 1, .co [1, 1, 0, 1, 0, 0, 1, 1], .le 1, .bl 0, .le 0, .co [1, 1, 1]] [(4, .bool false)] (by kernel_rfl) ?_
              refine retR [4] [.bool false] (by kernel_rfl) (by kernel_rfl) (by kernel_rfl) ?_
              have hret := (hfr165 _ (hfin203 _ (Option.some.inj hb_203).symm).symm)
              subst hret
              exact ⟨_, rfl, rfl, H.scalar⟩
            · rw [hb232]
              refine seg 8 [.le 1, .bl 0, .le 0, .co [1, 1, 1]] [(0, .slice A0_0 a.length c0_0), (1, .slice A1_0 b.length c1_0), (5, .int .i64 (IntKind.i64.wrap ((i : Int) + 1)))] (by kernel_rfl) ?_
              have := s0_0.bound
              rw [show IntKind.i64.wrap ((i : Int) + 1) = ((i : Int) + 1) from w64 (by omega)]
              refine leR (nk203, (i + 1)) (Nat.lt_succ_self _) ⟨hnx203 _ (Option.some.inj hb_203).symm, H⟩ (by kernel_rfl)
      · rw [hb205]
        have p205 := of_decide_eq_false hb205
        refine seg 2 [.le 0, .co [1, 1, 1]] [] (by kernel_rfl) ?_
        refine leR_up (k' := []) (by rfl) ?_
        refine leJ () ⟨(hfin203 _ (Option.some.inj hb_203).symm).symm, H⟩ (by kernel_rfl)
    rintro _ wj165 ⟨hy165, H⟩
    have hf := hfl165 _ hy165
    try dsimp only at hf
    refine seg 4 [.co [1, 1, 1, 1]] [(4, .bool true)] (by kernel_rfl) ?_
    refine retR [4] [.bool true] (by kernel_rfl) (by kernel_rfl) (by kernel_rfl) ?_
    have hret := (Option.some.inj hf)
    subst hret
    exact ⟨_, rfl, rfl, H.scalar⟩
theorem law17_TableAttrs_c {m : Mem} {w : World} (hm : Has m w) (l_ : (List TApiAttr)) (A0_0 : Option Addr) (c0_0 : Nat) (s0_0 : SlI rApiAttr m A0_0 c0_0 l_) (a : (List UInt8)) (A1_0 : Option Addr) (c1_0 : Nat) (s1_0 : SlI rU8 m A1_0 c1_0 a) (b : (List UInt8)) (A2_0 : Option Addr) (c2_0 : Nat) (s2_0 : SlI rU8 m A2_0 c2_0 b) {r : Bool} (hf : law17_TableAttrs l_ a b = some r) :
    Calls Try.prog 5 #[.slice A0_0 l_.length c0_0, .slice A1_0 a.length c1_0, .slice A2_0 b.length c2_0] w fun e w' => ∃ v, e = .returned v ∧ v = .bool r ∧ Ex w w' := by
  unfold law17_TableAttrs at hf
  have H := St.start0 hm
  refine callsR Try.func5 (by kernel_rfl) (by kernel_rfl) ?_
  refine seg 11 [.op [1, 0, 0] 4, .co [1, 0, 1], .co [1, 1]] [(0, .slice A0_0 l_.length c0_0), (1, .slice A1_0 a.length c1_0), (2, .slice A2_0 b.length c2_0), (16, .bool (decide ((l_.length : Int) > 70)))] (by kernel_rfl) ?_
  rcases condT hf with ⟨hb4, hf⟩ | ⟨hb4, hf⟩
  · rw [hb4]
    have p4 := of_decide_eq_true hb4
    refine seg 13 [.op [1, 0, 1, 0, 0] 0, .co [1, 0, 1, 0, 1], .co [1, 1]] [] (by kernel_rfl) ?_
    obtain ⟨live, h_live, hf⟩ := bindE hf
    refine st (callR (some 26) 8 #[] Try.call8 (law17_live_c H.has  h_live) (by kernel_rfl) ?_)
    rintro _ w5 ⟨rfl, hx5⟩
    replace H := H.ex hx5
    refine seg 2 [.co [1, 0, 1, 0, 1], .co [1, 1]] [(6, .bool live)] (by kernel_rfl) ?_
    refine retR [6] [.bool live] (by kernel_rfl) (by kernel_rfl) (by kernel_rfl) ?_
    have hret := (Option.some.inj hf)
    subst hret
    exact ⟨_, rfl, rfl, H.scalar⟩
  · rw [hb4]
    have p4 := of_decide_eq_false hb4
    refine seg 5 [.op [1, 0, 0] 9, .co [1, 0, 1], .co [1, 1]] [(0, .slice A0_0 l_.length c0_0), (1, .slice A1_0 a.length c1_0), (2, .slice A2_0 b.length c2_0), (21, .bool (decide ((a.length : Int) > 300)))] (by kernel_rfl) ?_
    rcases condT hf with ⟨hb6, hf⟩ | ⟨hb6, hf⟩
    · rw [hb6]
      have p6 := of_decide_eq_true hb6
      refine seg 8 [.op [1, 0, 1, 0, 0] 0, .co [1, 0, 1, 0, 1], .co [1, 1]] [] (by kernel_rfl) ?_
      obtain ⟨live1, h_live1, hf⟩ := bindE hf
      refine st (callR (some 26) 8 #[] Try.call8 (law17_live_c H.has  h_live1) (by kernel_rfl) ?_)
      rintro _ w7 ⟨rfl, hx7⟩
      replace H := H.ex hx7
      refine seg 2 [.co [1, 0, 1, 0, 1], .co [1, 1]] [(6, .bool live1)] (by kernel_rfl) ?_
      refine retR [6] [.bool live1] (by kernel_rfl) (by kernel_rfl) (by kernel_rfl) ?_
      have hret := (Option.some.inj hf)
      subst hret
      exact ⟨_, rfl, rfl, H.scalar⟩
    · rw [hb6]
      have p6 := of_decide_eq_false hb6
      refine seg 5 [.co [1, 0, 1], .co [1, 1]] [(0, .slice A0_0 l_.length c0_0), (1, .slice A1_0 a.length c1_0), (2, .slice A2_0 b.length c2_0), (25, .bool (decide ((b.length : Int) > 300)))] (by kernel_rfl) ?_
      rcases condT hf with ⟨hb11, hf⟩ | ⟨hb11, hf⟩
      · rw [hb11]
        have p11 := of_decide_eq_true hb11
        refine seg 3 [.op [1, 0, 1, 0, 0] 0, .co [1, 0, 1, 0, 1], .co [1, 1]] [] (by kernel_rfl) ?_
        replace H : St w noF m m [] w := H
        obtain ⟨live2, h_live2, hf⟩ := bindE hf
        refine st (callR (some 26) 8 #[] Try.call8 (law17_live_c H.has  h_live2) (by kernel_rfl) ?_)
        rintro _ w12 ⟨rfl, hx12⟩
        replace H := H.ex hx12
        refine seg 2 [.co [1, 0, 1, 0, 1], .co [1, 1]] [(6, .bool live2)] (by kernel_rfl) ?_
        refine retR [6] [.bool live2] (by kernel_rfl) (by kernel_rfl) (by kernel_rfl) ?_
        have hret := (Option.some.inj hf)
        subst hret
        exact ⟨_, rfl, rfl, H.scalar⟩
      · rw [hb11]
        have p11 := of_decide_eq_false hb11
        refine seg 7 [.co [1, 1, 0, 1], .co [1, 1, 1]] [(0, .slice A0_0 l_.length c0_0), (1, .slice A1_0 a.length c1_0), (2, .slice A2_0 b.length c2_0), (7, .int .i64 0)] (by kernel_rfl) ?_
        obtain ⟨y85, hp85, hfl85, hfr85⟩ := bndE hf
        refine joinR 0 (fun (x : Unit) => [(0, .slice A0_0 l_.length c0_0), (1, .slice A1_0 a.length c1_0), (2, .slice A2_0 b.length c2_0)]) (fun (x : Unit) (wj85 : World) => y85 = .inl () ∧ St w noF m m [] wj85) (by kernel_rfl) ?_ ?_
        · refine seg 1 [.co [1, 1, 0, 1, 0], .bl 0, .le 0, .co [1, 1, 1]] [(0, .slice A0_0 l_.length c0_0), (1, .slice A1_0 a.length c1_0), (2, .slice A2_0 b.length c2_0), (7, .int .i64 0)] (by kernel_rfl) ?_
          obtain ⟨nn103, hR103⟩ := loopO_iff.1 hp85
          refine loopR 1 (fun (x : Nat × Nat) => [(0, .slice A0_0 l_.length c0_0), (1, .slice A1_0 a.length c1_0), (2, .slice A2_0 b.length c2_0), (7, .int .i64 (x.2 : Int))]) (fun (x : Nat × Nat) (wl103 : World) => iter (fun s => law17_TableAttrs_l1 l_ s) x.1 x.2 = some y85 ∧ St w noF m m [] wl103) (fun (x : Nat × Nat) => x.1) (nn103, 0) (by kernel_rfl) (by kernel_rfl) (by kernel_rfl) ?_ ?_
          · exact ⟨hR103, H⟩
          rintro ⟨n103, i⟩ wl103 ⟨hR103, H⟩
          try dsimp only at hR103
          try dsimp only at H
          obtain ⟨nk103, q103, rfl, hb_103, hnx103, hfin103⟩ := iterE hR103
          replace hb_103 : law17_TableAttrs_l1 l_ i = some q103 := hb_103
          unfold law17_TableAttrs_l1 at hb_103
          refine seg 8 [.co [1, 1, 0, 1, 0, 0, 0, 1], .co [1, 1, 0, 1, 0, 0, 1], .le 1, .bl 0, .le 0, .co [1, 1, 1]] [(0, .slice A0_0 l_.length c0_0), (1, .slice A1_0 a.length c1_0), (2, .slice A2_0 b.length c2_0), (7, .int .i64 (i : Int)), (30, .bool (decide ((i : Int) < (l_.length : Int))))] (by kernel_rfl) ?_
          rcases condT hb_103 with ⟨hb105, hb_103⟩ | ⟨hb105, hb_103⟩
          · rw [hb105]
            have p105 := of_decide_eq_true hb105
            refine seg 8 [.op [1, 1, 0, 1, 0, 0, 1, 0, 0, 0] 2, .co [1, 1, 0, 1, 0, 0, 1, 0, 0, 1], .bl 1, .co [1, 1, 0, 1, 0, 0, 1, 1], .le 1, .bl 0, .le 0, .co [1, 1, 1]] [(0, .slice A0_0 l_.length c0_0), (1, .slice A1_0 a.length c1_0), (2, .slice A2_0 b.length c2_0), (7, .int .i64 (i : Int)), (33, .slice A0_0 l_.length c0_0), (34, .int .i64 (i : Int))] (by kernel_rfl) ?_
            replace H : St w noF m m [] wl103 := H
            obtain ⟨x_, h_x_, hb_103⟩ := bindE hb_103
            obtain ⟨ad107, _, ea107, ⟨A107_1, c107_1, rfl, hl107_0, hs107_1⟩, hc107⟩ := s0_0.at_ h_x_ (by decide)
            refine st (idxS (some 35) 41 43 2 A0_0 ad107 l_.length c0_0 .i64 (i : Int) ea107 (by kernel_rfl) (by kernel_rfl) (by omega) (by have := (List.getElem?_eq_some_iff.1 h_x_).1; omega) ?_)
            refine seg 1 [.op [1, 1, 0, 1, 0, 0, 1, 0, 0, 0] 4, .co [1, 1, 0, 1, 0, 0, 1, 0, 0, 1], .bl 1, .co [1, 1, 0, 1, 0, 0, 1, 1], .le 1, .bl 0, .le 0, .co [1, 1, 1]] [(0, .slice A0_0 l_.length c0_0), (1, .slice A1_0 a.length c1_0), (2, .slice A2_0 b.length c2_0), (7, .int .i64 (i : Int)), (36, .pointer (some (ad107.add (i * 2))))] (by kernel_rfl) ?_
            refine st (ldR (some 37) 9 (ad107.add (i * 2)) (.string ⟨x_.Name.toArray⟩) (by kernel_rfl) (by kernel_rfl) (H.cellI (mc0 (hc107 0 _ rfl))) ?_)
            refine seg 3 [.op [1, 1, 0, 1, 0, 0, 1, 0, 0, 0] 8, .co [1, 1, 0, 1, 0, 0, 1, 0, 0, 1], .bl 1, .co [1, 1, 0, 1, 0, 0, 1, 1], .le 1, .bl 0, .le 0, .co [1, 1, 1]] [(0, .slice A0_0 l_.length c0_0), (1, .slice A1_0 a.length c1_0), (2, .slice A2_0 b.length c2_0), (7, .int .i64 (i : Int)), (40, .bool (decide ((x_.Name.length : Int) > 300)))] (by kernel_rfl) ?_
            rcases condT hb_103 with ⟨hb108, hb_103⟩ | ⟨hb108, hb_103⟩
            · rw [hb108]
              have p108 := of_decide_eq_true hb108
              refine seg 12 [.op [1, 1, 0, 1, 0, 0, 1, 0, 0, 1, 0, 0] 0, .co [1, 1, 0, 1, 0, 0, 1, 0, 0, 1, 0, 1], .bl 1, .co [1, 1, 0, 1, 0, 0, 1, 1], .le 1, .bl 0, .le 0, .co [1, 1, 1]] [] (by kernel_rfl) ?_
              obtain ⟨live3, h_live3, hb_103⟩ := bindE hb_103
              refine st (callR (some 49) 8 #[] Try.call8 (law17_live_c H.has  h_live3) (by kernel_rfl) ?_)
              rintro _ w109 ⟨rfl, hx109⟩
              replace H := H.ex hx109
              refine seg 2 [.co [1, 1, 0, 1, 0, 0, 1, 0, 0, 1, 0, 1], .bl 1, .co [1, 1, 0, 1, 0, 0, 1, 1], .le 1, .bl 0, .le 0, .co [1, 1, 1]] [(6, .bool live3)] (by kernel_rfl) ?_
              refine retR [6] [.bool live3] (by kernel_rfl) (by kernel_rfl) (by kernel_rfl) ?_
              have hret := (hfr85 _ (hfin103 _ (Option.some.inj hb_103).symm).symm)
              subst hret
              exact ⟨_, rfl, rfl, H.scalar⟩
            · rw [hb108]
              have p108 := of_decide_eq_false hb108
              refine seg 2 [.op [1, 1, 0, 1, 0, 0, 1, 0, 0, 0] 10, .co [1, 1, 0, 1, 0, 0, 1, 0, 0, 1], .bl 1, .co [1, 1, 0, 1, 0, 0, 1, 1], .le 1, .bl 0, .le 0, .co [1, 1, 1]] [(0, .slice A0_0 l_.length c0_0), (1, .slice A1_0 a.length c1_0), (2, .slice A2_0 b.length c2_0), (7, .int .i64 (i : Int)), (40, .bool false), (41, .slice A0_0 l_.length c0_0), (42, .int .i64 (i : Int))] (by kernel_rfl) ?_
              refine st (idxS (some 43) 41 43 2 A0_0 ad107 l_.length c0_0 .i64 (i : Int) ea107 (by kernel_rfl) (by kernel_rfl) (by omega) (by have := (List.getElem?_eq_some_iff.1 h_x_).1; omega) ?_)
              refine seg 1 [.op [1, 1, 0, 1, 0, 0, 1, 0, 0, 0] 12, .co [1, 1, 0, 1, 0, 0, 1, 0, 0, 1], .bl 1, .co [1, 1, 0, 1, 0, 0, 1, 1], .le 1, .bl 0, .le 0, .co [1, 1, 1]] [(0, .slice A0_0 l_.length c0_0), (1, .slice A1_0 a.length c1_0), (2, .slice A2_0 b.length c2_0), (7, .int .i64 (i : Int)), (40, .bool false), (44, .pointer (some ((ad107.add (i * 2)).add 1)))] (by kernel_rfl) ?_
              refine st (ldR (some 45) 29 ((ad107.add (i * 2)).add 1) (.slice A107_1 x_.Value.length c107_1) (by kernel_rfl) (by kernel_rfl) (H.cellI (hc107 1 _ rfl)) ?_)
              refine seg 4 [.co [1, 1, 0, 1, 0, 0, 1, 0, 0, 1], .bl 1, .co [1, 1, 0, 1, 0, 0, 1, 1], .le 1, .bl 0, .le 0, .co [1, 1, 1]] [(0, .slice A0_0 l_.length c0_0), (1, .slice A1_0 a.length c1_0), (2, .slice A2_0 b.length c2_0), (7, .int .i64 (i : Int)), (48, .bool (decide ((x_.Value.length : Int) > 5000)))] (by kernel_rfl) ?_
              rcases condT hb_103 with ⟨hb110, hb_103⟩ | ⟨hb110, hb_103⟩
              · rw [hb110]
                have p110 := of_decide_eq_true hb110
                refine seg 3 [.op [1, 1, 0, 1, 0, 0, 1, 0, 0, 1, 0, 0] 0, .co [1, 1, 0, 1, 0, 0, 1, 0, 0, 1, 0, 1], .bl 1, .co [1, 1, 0, 1, 0, 0, 1, 1], .le 1, .bl 0, .le 0, .co [1, 1, 1]] [] (by kernel_rfl) ?_
                obtain ⟨live4, h_live4, hb_103⟩ := bindE hb_103
                refine st (callR (some 49) 8 #[] Try.call8 (law17_live_c H.has  h_live4) (by kernel_rfl) ?_)
                rintro _ w111 ⟨rfl, hx111⟩
                replace H := H.ex hx111
                refine seg 2 [.co [1, 1, 0, 1, 0, 0, 1, 0, 0, 1, 0, 1], .bl 1, .co [1, 1, 0, 1, 0, 0, 1, 1], .le 1, .bl 0, .le 0, .co [1, 1, 1]] [(6, .bool live4)] (by kernel_rfl) ?_
                refine retR [6] [.bool live4] (by kernel_rfl) (by kernel_rfl) (by kernel_rfl) ?_
                have hret := (hfr85 _ (hfin103 _ (Option.some.inj hb_103).symm).symm)
                subst hret
                exact ⟨_, rfl, rfl, H.scalar⟩
              · rw [hb110]
                have p110 := of_decide_eq_false hb110
                refine seg 8 [.le 1, .bl 0, .le 0, .co [1, 1, 1]] [(0, .slice A0_0 l_.length c0_0), (1, .slice A1_0 a.length c1_0), (2, .slice A2_0 b.length c2_0), (7, .int .i64 (IntKind.i64.wrap ((i : Int) + 1)))] (by kernel_rfl) ?_
                have := s0_0.bound
                rw [show IntKind.i64.wrap ((i : Int) + 1) = ((i : Int) + 1) from w64 (by omega)]
                refine leR (nk103, (i + 1)) (Nat.lt_succ_self _) ⟨hnx103 _ (Option.some.inj hb_103).symm, H⟩ (by kernel_rfl)
          · rw [hb105]
            have p105 := of_decide_eq_false hb105
            refine seg 2 [.le 0, .co [1, 1, 1]] [(0, .slice A0_0 l_.length c0_0), (1, .slice A1_0 a.length c1_0), (2, .slice A2_0 b.length c2_0)] (by kernel_rfl) ?_
            refine leR_up (k' := []) (by rfl) ?_
            refine leJ () ⟨(hfin103 _ (Option.some.inj hb_103).symm).symm, H⟩ (by kernel_rfl)
        rintro _ wj85 ⟨hy85, H⟩
        have hf := hfl85 _ hy85
        try dsimp only at hf
        refine seg 3 [.op [1, 1, 1, 0] 1, .co [1, 1, 1, 1]] [(0, .slice A0_0 l_.length c0_0), (1, .slice A1_0 a.length c1_0), (2, .slice A2_0 b.length c2_0), (51, .slice A0_0 l_.length c0_0)] (by kernel_rfl) ?_
        obtain ⟨encode, h_encode, hf⟩ := bindE hf
        refine st (callR (some 52) 19 #[.slice A0_0 l_.length c0_0] Try.call19 (table_EncodeAttrs_c H.has l_ A0_0 c0_0 s0_0 h_encode) (by kernel_rfl) ?_)
        rintro _ w112 ⟨A112_0, c112_0, mk112, rfl, hS112⟩
        have hsub112 := hS112.sub
        replace H := H.call0 hS112
        refine seg 10 [.op [1, 1, 1, 1, 0, 0] 1, .co [1, 1, 1, 1, 0, 1], .co [1, 1, 1, 1, 1]] [(0, .slice A0_0 l_.length c0_0), (1, .slice A1_0 a.length c1_0), (2, .slice A2_0 b.length c2_0), (8, .slice A112_0 encode.1.length c112_0), (9, .int .i64 encode.2), (55, .slice A0_0 l_.length c0_0)] (by kernel_rfl) ?_
        obtain ⟨rightA, h_rightA, hf⟩ := bindE hf
        refine st (callR (some 56) 20 #[.slice A0_0 l_.length c0_0] Try.call20 (ref17_RightAttrs_c H.has l_ A0_0 c0_0 (s0_0.mono hsub112) h_rightA) (by kernel_rfl) ?_)
        rintro _ w113 ⟨rfl, hx113⟩
        replace H := H.ex hx113
        refine seg 2 [.co [1, 1, 1, 1, 0, 1], .co [1, 1, 1, 1, 1]] [(0, .slice A0_0 l_.length c0_0), (1, .slice A1_0 a.length c1_0), (2, .slice A2_0 b.length c2_0), (8, .slice A112_0 encode.1.length c112_0), (9, .int .i64 encode.2), (57, .bool (!rightA))] (by kernel_rfl) ?_
        rcases condT hf with ⟨hb123, hf⟩ | ⟨hb123, hf⟩
        · rw [hb123]
          refine seg 4 [.co [1, 1, 1, 1, 1, 0, 0], .co [1, 1, 1, 1, 1, 0, 1], .co [1, 1, 1, 1, 1, 1]] [(0, .slice A0_0 l_.length c0_0), (1, .slice A1_0 a.length c1_0), (2, .slice A2_0 b.length c2_0), (8, .slice A112_0 encode.1.length c112_0), (9, .int .i64 encode.2)] (by kernel_rfl) ?_
          rcases condT hf with ⟨hb132, hf⟩ | ⟨hb132, hf⟩
          · have hst : statB (bodyOf Try.f5) [1, 1, 1, 1, 1, 0, 0] = true := by kernel_rfl
            refine drawS (Has mk112) H (by kernel_rfl) (by kernel_rfl) ?_
            intro w134 H
            refine segD2 hst [0] [0] [(0, .slice A0_0 l_.length c0_0), (1, .slice A1_0 a.length c1_0), (2, .slice A2_0 b.length c2_0), (8, .slice A112_0 encode.1.length c112_0), (69, .int .i64 encode.2)] (by kernel_rfl) ?_
            replace H : St w noF m mk112 [rowI rU8 5 A112_0 c112_0 encode.1] w134 := H
            refine stD2 (i := 1) (by kernel_rfl) H.has (callR (some 70) 15 #[.int .i64 encode.2] Try.call15 (law17_num_c H.has encode.2) (by kernel_rfl) ?_)
            rintro _ w135 ⟨rfl, hx135⟩
            replace H := H.ex hx135
            refine segD2 hst [2] [0, 1, 2] [(0, .slice A0_0 l_.length c0_0), (1, .slice A1_0 a.length c1_0), (2, .slice A2_0 b.length c2_0), (8, .slice A112_0 encode.1.length c112_0), (71, .bool ((law17_num encode.2) != 0))] (by kernel_rfl) ?_
            rw [show ((law17_num encode.2) != 0) = true from hb132]
            refine segD2 hst [3, 4, 5, 6, 7, 8, 9, 10] [0, 1, 2, 3, 4, 5, 6, 7, 8, 9, 10] [(0, .slice A0_0 l_.length c0_0), (1, .slice A1_0 a.length c1_0), (2, .slice A2_0 b.length c2_0), (8, .slice A112_0 encode.1.length c112_0), (79, .bool true)] (by kernel_rfl) ?_
            refine endD2 (by kernel_rfl) H.has ?_
            refine seg 5 [.co [1, 1, 1, 1, 1, 0, 1, 0, 1], .co [1, 1, 1, 1, 1, 1]] [(6, .bool false)] (by kernel_rfl) ?_
            refine retR [6] [.bool false] (by kernel_rfl) (by kernel_rfl) (by kernel_rfl) ?_
            have hret := (Option.some.inj hf)
            subst hret
            exact ⟨_, rfl, rfl, H.scalar⟩
          · obtain ⟨attrBy, h_attrBy, hf⟩ := bindE hf
            have hst : statB (bodyOf Try.f5) [1, 1, 1, 1, 1, 0, 0] = true := by kernel_rfl
            refine drawS (Has mk112) H (by kernel_rfl) (by kernel_rfl) ?_
            intro w140 H
            refine segD2 hst [0] [0] [(0, .slice A0_0 l_.length c0_0), (1, .slice A1_0 a.length c1_0), (2, .slice A2_0 b.length c2_0), (8, .slice A112_0 encode.1.length c112_0), (69, .int .i64 encode.2)] (by kernel_rfl) ?_
            refine stD2 (i := 1) (by kernel_rfl) H.has (callR (some 70) 15 #[.int .i64 encode.2] Try.call15 (law17_num_c H.has encode.2) (by kernel_rfl) ?_)
            rintro _ w141 ⟨rfl, hx141⟩
            replace H := H.ex hx141
            refine segD2 hst [2] [0, 1, 2] [(0, .slice A0_0 l_.length c0_0), (1, .slice A1_0 a.length c1_0), (2, .slice A2_0 b.length c2_0), (8, .slice A112_0 encode.1.length c112_0), (71, .bool ((law17_num encode.2) != 0))] (by kernel_rfl) ?_
            rw [show ((law17_num encode.2) != 0) = false from hb132]
            refine segD2 hst [3, 4, 6] [0, 1, 2, 3, 4, 6] [(0, .slice A0_0 l_.length c0_0), (1, .slice A1_0 a.length c1_0), (2, .slice A2_0 b.length c2_0), (8, .slice A112_0 encode.1.length c112_0), (72, .bool false), (73, .slice A112_0 encode.1.length c112_0), (75, .slice A0_0 l_.length c0_0)] (by kernel_rfl) ?_
            refine allD2 [5, 7] (by kernel_rfl) H.has ⟨?_, ?_, trivial⟩
            · replace H : St w noF m mk112 [rowI rU8 5 A112_0 c112_0 encode.1] w141 := H
              refine (b2sS (some 74) 29 9 5 A112_0 c112_0 encode.1 Try.underlying29 Try.underlying5 Try.underlying9 (by kernel_rfl) (H.rowCs 0 rfl) ?_)
              have hl142 : encode.1.length ≤ 9223372036854775807 := (Nat.le_trans (H.rowCap 0 rfl).1 (H.rowCap 0 rfl).2)
              refine stD2 (i := 7) (by kernel_rfl) H.has (callR (some 76) 21 #[.slice A0_0 l_.length c0_0] Try.call21 (ref17_AttrBytes_c H.has l_ A0_0 c0_0 (s0_0.mono hsub112) h_attrBy) (by kernel_rfl) ?_)
              rintro _ w143 ⟨A143_0, c143_0, mk143, rfl, hS143⟩
              have hsub143 := hS143.sub
              replace H := H.call0 hS143
              refine stD2 (i := 8) (by kernel_rfl) (H.has.sub hsub143) (b2sS (some 77) 29 9 5 A143_0 c143_0 attrBy Try.underlying29 Try.underlying5 Try.underlying9 (by kernel_rfl) (H.rowCs 0 rfl) ?_)
              have hl144 : attrBy.length ≤ 9223372036854775807 := (Nat.le_trans (H.rowCap 0 rfl).1 (H.rowCap 0 rfl).2)
              refine segD2 hst [9] [0, 1, 2, 3, 4, 6, 5, 7, 8, 9] [(0, .slice A0_0 l_.length c0_0), (1, .slice A1_0 a.length c1_0), (2, .slice A2_0 b.length c2_0), (8, .slice A112_0 encode.1.length c112_0), (72, .bool false), (78, .bool (!((ByteArray.toList ⟨encode.1.toArray⟩) == (ByteArray.toList ⟨attrBy.toArray⟩))))] (by kernel_rfl) ?_
              rw [sne_raw encode.1 attrBy]
              refine segD2 hst [10] [0, 1, 2, 3, 4, 6, 5, 7, 8, 9, 10] [(0, .slice A0_0 l_.length c0_0), (1, .slice A1_0 a.length c1_0), (2, .slice A2_0 b.length c2_0), (8, .slice A112_0 encode.1.length c112_0), (79, .bool (encode.1 != attrBy))] (by kernel_rfl) ?_
              refine endD2 (by kernel_rfl) (H.has.sub hsub143) ?_
              rcases condT hf with ⟨hb146, hf⟩ | ⟨hb146, hf⟩
              · rw [hb146]
                refine seg 5 [.co [1, 1, 1, 1, 1, 0, 1, 0, 1], .co [1, 1, 1, 1, 1, 1]] [(6, .bool false)] (by kernel_rfl) ?_
                refine retR [6] [.bool false] (by kernel_rfl) (by kernel_rfl) (by kernel_rfl) ?_
                have hret := (Option.some.inj hf)
                subst hret
                exact ⟨_, rfl, rfl, H.scalar⟩
              · rw [hb146]
                refine seg 4 [.op [1, 1, 1, 1, 1, 1, 0] 0, .co [1, 1, 1, 1, 1, 1, 1]] [(0, .slice A0_0 l_.length c0_0), (1, .slice A1_0 a.length c1_0), (2, .slice A2_0 b.length c2_0), (8, .slice A112_0 encode.1.length c112_0)] (by kernel_rfl) ?_
                refine st (newS (some 81) (fun g => .slice (some ⟨g, 0, none⟩) 0 0) [] 5 H (by kernel_rfl) ?_)
                intro g147 w147 H
                refine seg 1 [.op [1, 1, 1, 1, 1, 1, 0] 2, .co [1, 1, 1, 1, 1, 1, 1]] [(0, .slice A0_0 l_.length c0_0), (1, .slice A1_0 a.length c1_0), (2, .slice A2_0 b.length c2_0), (8, .slice A112_0 encode.1.length c112_0), (81, .slice (some ⟨g147, 0, none⟩) 0 0), (82, .slice A1_0 a.length c1_0)] (by kernel_rfl) ?_
                have H := H.toRow (r := rU8) (l := ([] : List UInt8)) 0 rfl (Rows.u8.2 rfl) (Nat.le_of_ble_eq_true rfl)
                obtain ⟨xs148, hr148, hx148⟩ := (s1_0.mono (hsub112.trans hsub143)).cs
                obtain ⟨b1, h_b1, hf⟩ := bindE hf
                refine st (appS (r := rU8) (some 83) 29 5 1 (.int .u8 0) 29 0 (some ⟨g147, 0, none⟩) A1_0 0 a.length c1_0 ([] : List UInt8) a b1 _ H rfl ⟨Try.underlying29, by kernel_rfl⟩ rfl (by decide) (by kernel_rfl) (hx148.cs H.has) hr148 rfl h_b1 (by decide) (by decide) ?_)
                intro A149 c149 w149 H
                refine seg 1 [.op [1, 1, 1, 1, 1, 1, 0] 4, .co [1, 1, 1, 1, 1, 1, 1]] [(0, .slice A0_0 l_.length c0_0), (1, .slice A1_0 a.length c1_0), (2, .slice A2_0 b.length c2_0), (8, .slice A112_0 encode.1.length c112_0), (83, .slice A149 b1.length c149), (84, .slice A112_0 encode.1.length c112_0)] (by kernel_rfl) ?_
                obtain ⟨xs150, hr150, hx150⟩ := H.rowCs' 2 rfl
                obtain ⟨b2, h_b2, hf⟩ := bindE hf
                refine st (appS (r := rU8) (some 85) 29 5 1 (.int .u8 0) 29 0 A149 A112_0 c149 encode.1.length c112_0 b1 encode.1 b2 _ H rfl ⟨Try.underlying29, by kernel_rfl⟩ rfl (by decide) (by kernel_rfl) hx150 hr150 rfl h_b2 (by decide) (by decide) ?_)
                intro A151 c151 w151 H
                refine seg 1 [.op [1, 1, 1, 1, 1, 1, 0] 6, .co [1, 1, 1, 1, 1, 1, 1]] [(0, .slice A0_0 l_.length c0_0), (1, .slice A1_0 a.length c1_0), (8, .slice A112_0 encode.1.length c112_0), (85, .slice A151 b2.length c151), (86, .slice A2_0 b.length c2_0)] (by kernel_rfl) ?_
                replace H : St w noF m mk143 [rowI rU8 5 A151 c151 b2, rowI rU8 5 A112_0 c112_0 encode.1] w151 := (H.drop 1 rfl)
                obtain ⟨xs152, hr152, hx152⟩ := (s2_0.mono (hsub112.trans hsub143)).cs
                obtain ⟨b3, h_b3, hf⟩ := bindE hf
                refine st (appS (r := rU8) (some 87) 29 5 1 (.int .u8 0) 29 0 A151 A2_0 c151 b.length c2_0 b2 b b3 _ H rfl ⟨Try.underlying29, by kernel_rfl⟩ rfl (by decide) (by kernel_rfl) (hx152.cs H.has) hr152 rfl h_b3 (by decide) (by decide) ?_)
                intro A153 c153 w153 H
                refine seg 2 [.op [1, 1, 1, 1, 1, 1, 0] 9, .co [1, 1, 1, 1, 1, 1, 1]] [(0, .slice A0_0 l_.length c0_0), (1, .slice A1_0 a.length c1_0), (8, .slice A112_0 encode.1.length c112_0), (87, .slice A153 b3.length c153), (89, .int .i64 (a.length : Int))] (by kernel_rfl) ?_
                obtain ⟨mf154, hsub154, hsf154, H⟩ := H.fixR 0 rfl
                obtain ⟨decode, h_decode, hf⟩ := bindE hf
                refine st (callR (some 90) 22 #[.slice A153 b3.length c153, .int .i64 (a.length : Int)] Try.call22 (table_DecodeAttrs_c H.has b3 A153 c153 hsf154 (a.length : Int) h_decode) (by kernel_rfl) ?_)
                rintro _ w155 ⟨A155_0, c155_0, mk155, rfl, hS155⟩
                have hsub155 := hS155.sub
                replace H := H.call0 hS155
                refine seg 11 [.op [1, 1, 1, 1, 1, 1, 1, 0] 1, .co [1, 1, 1, 1, 1, 1, 1, 1]] [(0, .slice A0_0 l_.length c0_0), (1, .slice A1_0 a.length c1_0), (8, .slice A112_0 encode.1.length c112_0), (10, .slice A155_0 decode.1.length c155_0), (11, .int .i64 decode.2.1), (94, .int .i64 decode.2.2)] (by kernel_rfl) ?_
                refine st (callR (some 95) 15 #[.int .i64 decode.2.2] Try.call15 (law17_num_c H.has decode.2.2) (by kernel_rfl) ?_)
                rintro _ w164 ⟨rfl, hx164⟩
                replace H := H.ex hx164
                refine seg 2 [.op [1, 1, 1, 1, 1, 1, 1, 0] 4, .co [1, 1, 1, 1, 1, 1, 1, 1]] [(0, .slice A0_0 l_.length c0_0), (1, .slice A1_0 a.length c1_0), (8, .slice A112_0 encode.1.length c112_0), (10, .slice A155_0 decode.1.length c155_0), (11, .int .i64 decode.2.1), (97, .bool ((law17_num decode.2.2) == 0))] (by kernel_rfl) ?_
                rcases condT hf with ⟨hb165, hf⟩ | ⟨hb165, hf⟩
                · rw [hb165]
                  refine seg 9 [.op [1, 1, 1, 1, 1, 1, 1, 0] 13, .co [1, 1, 1, 1, 1, 1, 1, 1]] [(0, .slice A0_0 l_.length c0_0), (10, .slice A155_0 decode.1.length c155_0), (106, .bool (decode.2.1 == (IntKind.i64.wrap ((a.length : Int) + (encode.1.length : Int)))))] (by kernel_rfl) ?_
                  rcases condT hf with ⟨hb166, hf⟩ | ⟨hb166, hf⟩
                  · rw [hb166]
                    refine seg 2 [.op [1, 1, 1, 1, 1, 1, 1, 0] 15, .co [1, 1, 1, 1, 1, 1, 1, 1]] [(106, .bool true), (107, .slice A0_0 l_.length c0_0), (108, .slice A155_0 decode.1.length c155_0)] (by kernel_rfl) ?_
                    have H0_167 := H
                    obtain ⟨mf168, hsub168, hsf168, H⟩ := H.fixR 0 rfl
                    obtain ⟨sameAt, h_sameAt, hf⟩ := bindE hf
                    refine st (callR (some 109) 23 #[.slice A0_0 l_.length c0_0, .slice A155_0 decode.1.length c155_0] Try.call23 (ref11_SameAttrs_c H.has l_ A0_0 c0_0 (s0_0.mono ((((hsub112.trans hsub143).trans hsub154).trans hsub155).trans hsub168)) decode.1 A155_0 c155_0 hsf168 h_sameAt) (by kernel_rfl) ?_)
                    rintro _ w169 ⟨rfl, hx169⟩
                    replace H := H0_167.ex hx169
                    refine seg 2 [.op [1, 1, 1, 1, 1, 1, 1, 0] 18, .co [1, 1, 1, 1, 1, 1, 1, 1]] [(111, .bool sameAt)] (by kernel_rfl) ?_
                    rcases condT hf with ⟨hb170, hf⟩ | ⟨hb170, hf⟩
                    · rw [hb170]
                      obtain ⟨live5, h_live5, hf⟩ := bindE hf
                      refine st (callR (some 112) 8 #[] Try.call8 (law17_live_c H.has  h_live5) (by kernel_rfl) ?_)
                      rintro _ w171 ⟨rfl, hx171⟩
                      replace H := H.ex hx171
                      refine seg 3 [.co [1, 1, 1, 1, 1, 1, 1, 1]] [(6, .bool live5)] (by kernel_rfl) ?_
                      refine retR [6] [.bool live5] (by kernel_rfl) (by kernel_rfl) (by kernel_rfl) ?_
                      have hret := (Option.some.inj hf)
                      subst hret
                      exact ⟨_, rfl, rfl, H.scalar⟩
                    · rw [hb170]
                      refine seg 4 [.co [1, 1, 1, 1, 1, 1, 1, 1]] [(6, .bool false)] (by kernel_rfl) ?_
                      refine retR [6] [.bool false] (by kernel_rfl) (by kernel_rfl) (by kernel_rfl) ?_
                      have hret := (Option.some.inj hf)
                      subst hret
                      exact ⟨_, rfl, rfl, H.scalar⟩
                  · rw [hb166]
                    refine seg 9 [.co [1, 1, 1, 1, 1, 1, 1, 1]] [(6, .bool false)] (by kernel_rfl) ?_
                    refine retR [6] [.bool false] (by kernel_rfl) (by kernel_rfl) (by kernel_rfl) ?_
                    have hret := (Option.some.inj hf)
                    subst hret
                    exact ⟨_, rfl, rfl, H.scalar⟩
                · rw [hb165]
                  refine seg 18 [.co [1, 1, 1, 1, 1, 1, 1, 1]] [(6, .bool false)] (by kernel_rfl) ?_
                  refine retR [6] [.bool false] (by kernel_rfl) (by kernel_rfl) (by kernel_rfl) ?_
                  have hret := (Option.some.inj hf)
                  subst hret
                  exact ⟨_, rfl, rfl, H.scalar⟩
            · replace H : St w noF m mk112 [rowI rU8 5 A112_0 c112_0 encode.1] w141 := H
              refine (callR (some 76) 21 #[.slice A0_0 l_.length c0_0] Try.call21 (ref17_AttrBytes_c H.has l_ A0_0 c0_0 (s0_0.mono hsub112) h_attrBy) (by kernel_rfl) ?_)
              rintro _ w172 ⟨A172_0, c172_0, mk172, rfl, hS172⟩
              have hsub172 := hS172.sub
              replace H := H.call0 hS172
              refine allD2 [5, 8] (by kernel_rfl) (H.has.sub hsub172) ⟨?_, ?_, trivial⟩
              · refine (b2sS (some 74) 29 9 5 A112_0 c112_0 encode.1 Try.underlying29 Try.underlying5 Try.underlying9 (by kernel_rfl) (H.rowCs 1 rfl) ?_)
                have hl173 : encode.1.length ≤ 9223372036854775807 := (Nat.le_trans (H.rowCap 1 rfl).1 (H.rowCap 1 rfl).2)
                refine stD2 (i := 8) (by kernel_rfl) (H.has.sub hsub172) (b2sS (some 77) 29 9 5 A172_0 c172_0 attrBy Try.underlying29 Try.underlying5 Try.underlying9 (by kernel_rfl) (H.rowCs 0 rfl) ?_)
                have hl174 : attrBy.length ≤ 9223372036854775807 := (Nat.le_trans (H.rowCap 0 rfl).1 (H.rowCap 0 rfl).2)
                refine segD2 hst [9] [0, 1, 2, 3, 4, 6, 7, 5, 8, 9] [(0, .slice A0_0 l_.length c0_0), (1, .slice A1_0 a.length c1_0), (2, .slice A2_0 b.length c2_0), (8, .slice A112_0 encode.1.length c112_0), (72, .bool false), (78, .bool (!((ByteArray.toList ⟨encode.1.toArray⟩) == (ByteArray.toList ⟨attrBy.toArray⟩))))] (by kernel_rfl) ?_
                rw [sne_raw encode.1 attrBy]
                refine segD2 hst [10] [0, 1, 2, 3, 4, 6, 7, 5, 8, 9, 10] [(0, .slice A0_0 l_.length c0_0), (1, .slice A1_0 a.length c1_0), (2, .slice A2_0 b.length c2_0), (8, .slice A112_0 encode.1.length c112_0), (79, .bool (encode.1 != attrBy))] (by kernel_rfl) ?_
                refine endD2 (by kernel_rfl) (H.has.sub hsub172) ?_
                rcases condT hf with ⟨hb175, hf⟩ | ⟨hb175, hf⟩
                · rw [hb175]
                  refine seg 5 [.co [1, 1, 1, 1, 1, 0, 1, 0, 1], .co [1, 1, 1, 1, 1, 1]] [(6, .bool false)] (by kernel_rfl) ?_
                  refine retR [6] [.bool false] (by kernel_rfl) (by kernel_rfl) (by kernel_rfl) ?_
                  have hret := (Option.some.inj hf)
                  subst hret
                  exact ⟨_, rfl, rfl, H.scalar⟩
                · rw [hb175]
                  refine seg 4 [.op [1, 1, 1, 1, 1, 1, 0] 0, .co [1, 1, 1, 1, 1, 1, 1]] [(0, .slice A0_0 l_.length c0_0), (1, .slice A1_0 a.length c1_0), (2, .slice A2_0 b.length c2_0), (8, .slice A112_0 encode.1.length c112_0)] (by kernel_rfl) ?_
                  refine st (newS (some 81) (fun g => .slice (some ⟨g, 0, none⟩) 0 0) [] 5 H (by kernel_rfl) ?_)
                  intro g176 w176 H
                  refine seg 1 [.op [1, 1, 1, 1, 1, 1, 0] 2, .co [1, 1, 1, 1, 1, 1, 1]] [(0, .slice A0_0 l_.length c0_0), (1, .slice A1_0 a.length c1_0), (2, .slice A2_0 b.length c2_0), (8, .slice A112_0 encode.1.length c112_0), (81, .slice (some ⟨g176, 0, none⟩) 0 0), (82, .slice A1_0 a.length c1_0)] (by kernel_rfl) ?_
                  have H := H.toRow (r := rU8) (l := ([] : List UInt8)) 0 rfl (Rows.u8.2 rfl) (Nat.le_of_ble_eq_true rfl)
                  obtain ⟨xs177, hr177, hx177⟩ := (s1_0.mono (hsub112.trans hsub172)).cs
                  obtain ⟨b1, h_b1, hf⟩ := bindE hf
                  refine st (appS (r := rU8) (some 83) 29 5 1 (.int .u8 0) 29 0 (some ⟨g176, 0, none⟩) A1_0 0 a.length c1_0 ([] : List UInt8) a b1 _ H rfl ⟨Try.underlying29, by kernel_rfl⟩ rfl (by decide) (by kernel_rfl) (hx177.cs H.has) hr177 rfl h_b1 (by decide) (by decide) ?_)
                  intro A178 c178 w178 H
                  refine seg 1 [.op [1, 1, 1, 1, 1, 1, 0] 4, .co [1, 1, 1, 1, 1, 1, 1]] [(0, .slice A0_0 l_.length c0_0), (1, .slice A1_0 a.length c1_0), (2, .slice A2_0 b.length c2_0), (8, .slice A112_0 encode.1.length c112_0), (83, .slice A178 b1.length c178), (84, .slice A112_0 encode.1.length c112_0)] (by kernel_rfl) ?_
                  obtain ⟨xs179, hr179, hx179⟩ := H.rowCs' 2 rfl
                  obtain ⟨b2, h_b2, hf⟩ := bindE hf
                  refine st (appS (r := rU8) (some 85) 29 5 1 (.int .u8 0) 29 0 A178 A112_0 c178 encode.1.length c112_0 b1 encode.1 b2 _ H rfl ⟨Try.underlying29, by kernel_rfl⟩ rfl (by decide) (by kernel_rfl) hx179 hr179 rfl h_b2 (by decide) (by decide) ?_)
                  intro A180 c180 w180 H
                  refine seg 1 [.op [1, 1, 1, 1, 1, 1, 0] 6, .co [1, 1, 1, 1, 1, 1, 1]] [(0, .slice A0_0 l_.length c0_0), (1, .slice A1_0 a.length c1_0), (8, .slice A112_0 encode.1.length c112_0), (85, .slice A180 b2.length c180), (86, .slice A2_0 b.length c2_0)] (by kernel_rfl) ?_
                  replace H : St w noF m mk172 [rowI rU8 5 A180 c180 b2, rowI rU8 5 A112_0 c112_0 encode.1] w180 := (H.drop 1 rfl)
                  obtain ⟨xs181, hr181, hx181⟩ := (s2_0.mono (hsub112.trans hsub172)).cs
                  obtain ⟨b3, h_b3, hf⟩ := bindE hf
                  refine st (appS (r := rU8) (some 87) 29 5 1 (.int .u8 0) 29 0 A180 A2_0 c180 b.length c2_0 b2 b b3 _ H rfl ⟨Try.underlying29, by kernel_rfl⟩ rfl (by decide) (by kernel_rfl) (hx181.cs H.has) hr181 rfl h_b3 (by decide) (by decide) ?_)
                  intro A182 c182 w182 H
                  refine seg 2 [.op [1, 1, 1, 1, 1, 1, 0] 9, .co [1, 1, 1, 1, 1, 1, 1]] [(0, .slice A0_0 l_.length c0_0), (1, .slice A1_0 a.length c1_0), (8, .slice A112_0 encode.1.length c112_0), (87, .slice A182 b3.length c182), (89, .int .i64 (a.length : Int))] (by kernel_rfl) ?_
                  obtain ⟨mf183, hsub183, hsf183, H⟩ := H.fixR 0 rfl
                  obtain ⟨decode, h_decode, hf⟩ := bindE hf
                  refine st (callR (some 90) 22 #[.slice A182 b3.length c182, .int .i64 (a.length : Int)] Try.call22 (table_DecodeAttrs_c H.has b3 A182 c182 hsf183 (a.length : Int) h_decode) (by kernel_rfl) ?_)
                  rintro _ w184 ⟨A184_0, c184_0, mk184, rfl, hS184⟩
                  have hsub184 := hS184.sub
                  replace H := H.call0 hS184
                  refine seg 11 [.op [1, 1, 1, 1, 1, 1, 1, 0] 1, .co [1, 1, 1, 1, 1, 1, 1, 1]] [(0, .slice A0_0 l_.length c0_0), (1, .slice A1_0 a.length c1_0), (8, .slice A112_0 encode.1.length c112_0), (10, .slice A184_0 decode.1.length c184_0), (11, .int .i64 decode.2.1), (94, .int .i64 decode.2.2)] (by kernel_rfl) ?_
                  refine st (callR (some 95) 15 #[.int .i64 decode.2.2] Try.call15 (law17_num_c H.has decode.2.2) (by kernel_rfl) ?_)
                  rintro _ w185 ⟨rfl, hx185⟩
                  replace H := H.ex hx185
                  refine seg 2 [.op [1, 1, 1, 1, 1, 1, 1, 0] 4, .co [1, 1, 1, 1, 1, 1, 1, 1]] [(0, .slice A0_0 l_.length c0_0), (1, .slice A1_0 a.length c1_0), (8, .slice A112_0 encode.1.length c112_0), (10, .slice A184_0 decode.1.length c184_0), (11, .int .i64 decode.2.1), (97, .bool ((law17_num decode.2.2) == 0))] (by kernel_rfl) ?_
                  rcases condT hf with ⟨hb186, hf⟩ | ⟨hb186, hf⟩
                  · rw [hb186]
                    refine seg 9 [.op [1, 1, 1, 1, 1, 1, 1, 0] 13, .co [1, 1, 1, 1, 1, 1, 1, 1]] [(0, .slice A0_0 l_.length c0_0), (10, .slice A184_0 decode.1.length c184_0), (106, .bool (decode.2.1 == (IntKind.i64.wrap ((a.length : Int) + (encode.1.length : Int)))))] (by kernel_rfl) ?_
                    rcases condT hf with ⟨hb187, hf⟩ | ⟨hb187, hf⟩
                    · rw [hb187]
                      refine seg 2 [.op [1, 1, 1, 1, 1, 1, 1, 0] 15, .co [1, 1, 1, 1, 1, 1, 1, 1]] [(106, .bool true), (107, .slice A0_0 l_.length c0_0), (108, .slice A184_0 decode.1.length c184_0)] (by kernel_rfl) ?_
                      have H0_188 := H
                      obtain ⟨mf189, hsub189, hsf189, H⟩ := H.fixR 0 rfl
                      obtain ⟨sameAt, h_sameAt, hf⟩ := bindE hf
                      refine st (callR (some 109) 23 #[.slice A0_0 l_.length c0_0, .slice A184_0 decode.1.length c184_0] Try.call23 (ref11_SameAttrs_c H.has l_ A0_0 c0_0 (s0_0.mono ((((hsub112.trans hsub172).trans hsub183).trans hsub184).trans hsub189)) decode.1 A184_0 c184_0 hsf189 h_sameAt) (by kernel_rfl) ?_)
                      rintro _ w190 ⟨rfl, hx190⟩
                      replace H := H0_188.ex hx190
                      refine seg 2 [.op [1, 1, 1, 1, 1, 1, 1, 0] 18, .co [1, 1, 1, 1, 1, 1, 1, 1]] [(111, .bool sameAt)] (by kernel_rfl) ?_
                      rcases condT hf with ⟨hb191, hf⟩ | ⟨hb191, hf⟩
                      · rw [hb191]
                        replace H : St w noF m mk184 [] w190 := ((H.drop 1 rfl).drop 0 rfl)
                        obtain ⟨live5, h_live5, hf⟩ := bindE hf
                        refine st (callR (some 112) 8 #[] Try.call8 (law17_live_c H.has  h_live5) (by kernel_rfl) ?_)
                        rintro _ w192 ⟨rfl, hx192⟩
                        replace H := H.ex hx192
                        refine seg 3 [.co [1, 1, 1, 1, 1, 1, 1, 1]] [(6, .bool live5)] (by kernel_rfl) ?_
                        refine retR [6] [.bool live5] (by kernel_rfl) (by kernel_rfl) (by kernel_rfl) ?_
                        have hret := (Option.some.inj hf)
                        subst hret
                        exact ⟨_, rfl, rfl, H.scalar⟩
                      · rw [hb191]
                        refine seg 4 [.co [1, 1, 1, 1, 1, 1, 1, 1]] [(6, .bool false)] (by kernel_rfl) ?_
                        refine retR [6] [.bool false] (by kernel_rfl) (by kernel_rfl) (by kernel_rfl) ?_
                        have hret := (Option.some.inj hf)
                        subst hret
                        exact ⟨_, rfl, rfl, H.scalar⟩
                    · rw [hb187]
                      refine seg 9 [.co [1, 1, 1, 1, 1, 1, 1, 1]] [(6, .bool false)] (by kernel_rfl) ?_
                      refine retR [6] [.bool false] (by kernel_rfl) (by kernel_rfl) (by kernel_rfl) ?_
                      have hret := (Option.some.inj hf)
                      subst hret
                      exact ⟨_, rfl, rfl, H.scalar⟩
                  · rw [hb186]
                    refine seg 18 [.co [1, 1, 1, 1, 1, 1, 1, 1]] [(6, .bool false)] (by kernel_rfl) ?_
                    refine retR [6] [.bool false] (by kernel_rfl) (by kernel_rfl) (by kernel_rfl) ?_
                    have hret := (Option.some.inj hf)
                    subst hret
                    exact ⟨_, rfl, rfl, H.scalar⟩
              · refine (b2sS (some 77) 29 9 5 A172_0 c172_0 attrBy Try.underlying29 Try.underlying5 Try.underlying9 (by kernel_rfl) (H.rowCs 0 rfl) ?_)
                have hl193 : attrBy.length ≤ 9223372036854775807 := (Nat.le_trans (H.rowCap 0 rfl).1 (H.rowCap 0 rfl).2)
                refine stD2 (i := 5) (by kernel_rfl) (H.has.sub hsub172) (b2sS (some 74) 29 9 5 A112_0 c112_0 encode.1 Try.underlying29 Try.underlying5 Try.underlying9 (by kernel_rfl) (H.rowCs 1 rfl) ?_)
                have hl194 : encode.1.length ≤ 9223372036854775807 := (Nat.le_trans (H.rowCap 1 rfl).1 (H.rowCap 1 rfl).2)
                refine segD2 hst [9] [0, 1, 2, 3, 4, 6, 7, 8, 5, 9] [(0, .slice A0_0 l_.length c0_0), (1, .slice A1_0 a.length c1_0), (2, .slice A2_0 b.length c2_0), (8, .slice A112_0 encode.1.length c112_0), (72, .bool false), (78, .bool (!((ByteArray.toList ⟨encode.1.toArray⟩) == (ByteArray.toList ⟨attrBy.toArray⟩))))] (by kernel_rfl) ?_
                rw [sne_raw encode.1 attrBy]
                refine segD2 hst [10] [0, 1, 2, 3, 4, 6, 7, 8, 5, 9, 10] [(0, .slice A0_0 l_.length c0_0), (1, .slice A1_0 a.length c1_0), (2, .slice A2_0 b.length c2_0), (8, .slice A112_0 encode.1.length c112_0), (79, .bool (encode.1 != attrBy))] (by kernel_rfl) ?_
                refine endD2 (by kernel_rfl) (H.has.sub hsub172) ?_
                rcases condT hf with ⟨hb195, hf⟩ | ⟨hb195, hf⟩
                · rw [hb195]
                  refine seg 5 [.co [1, 1, 1, 1, 1, 0, 1, 0, 1], .co [1, 1, 1, 1, 1, 1]] [(6, .bool false)] (by kernel_rfl) ?_
                  refine retR [6] [.bool false] (by kernel_rfl) (by kernel_rfl) (by kernel_rfl) ?_
                  have hret := (Option.some.inj hf)
                  subst hret
                  exact ⟨_, rfl, rfl, H.scalar⟩
                · rw [hb195]
                  refine seg 4 [.op [1, 1, 1, 1, 1, 1, 0] 0, .co [1, 1, 1, 1, 1, 1, 1]] [(0, .slice A0_0 l_.length c0_0), (1, .slice A1_0 a.length c1_0), (2, .slice A2_0 b.length c2_0), (8, .slice A112_0 encode.1.length c112_0)] (by kernel_rfl) ?_
                  refine st (newS (some 81) (fun g => .slice (some ⟨g, 0, none⟩) 0 0) [] 5 H (by kernel_rfl) ?_)
                  intro g196 w196 H
                  refine seg 1 [.op [1, 1, 1, 1, 1, 1, 0] 2, .co [1, 1, 1, 1, 1, 1, 1]] [(0, .slice A0_0 l_.length c0_0), (1, .slice A1_0 a.length c1_0), (2, .slice A2_0 b.length c2_0), (8, .slice A112_0 encode.1.length c112_0), (81, .slice (some ⟨g196, 0, none⟩) 0 0), (82, .slice A1_0 a.length c1_0)] (by kernel_rfl) ?_
                  have H := H.toRow (r := rU8) (l := ([] : List UInt8)) 0 rfl (Rows.u8.2 rfl) (Nat.le_of_ble_eq_true rfl)
                  obtain ⟨xs197, hr197, hx197⟩ := (s1_0.mono (hsub112.trans hsub172)).cs
                  obtain ⟨b1, h_b1, hf⟩ := bindE hf
                  refine st (appS (r := rU8) (some 83) 29 5 1 (.int .u8 0) 29 0 (some ⟨g196, 0, none⟩) A1_0 0 a.length c1_0 ([] : List UInt8) a b1 _ H rfl ⟨Try.underlying29, by kernel_rfl⟩ rfl (by decide) (by kernel_rfl) (hx197.cs H.has) hr197 rfl h_b1 (by decide) (by decide) ?_)
                  intro A198 c198 w198 H
                  refine seg 1 [.op [1, 1, 1, 1, 1, 1, 0] 4, .co [1, 1, 1, 1, 1, 1, 1]] [(0, .slice A0_0 l_.length c0_0), (1, .slice A1_0 a.length c1_0), (2, .slice A2_0 b.length c2_0), (8, .slice A112_0 encode.1.length c112_0), (83, .slice A198 b1.length c198), (84, .slice A112_0 encode.1.length c112_0)] (by kernel_rfl) ?_
                  obtain ⟨xs199, hr199, hx199⟩ := H.rowCs' 2 rfl
                  obtain ⟨b2, h_b2, hf⟩ := bindE hf
                  refine st (appS (r := rU8) (some 85) 29 5 1 (.int .u8 0) 29 0 A198 A112_0 c198 encode.1.length c112_0 b1 encode.1 b2 _ H rfl ⟨Try.underlying29, by kernel_rfl⟩ rfl (by decide) (by kernel_rfl) hx199 hr199 rfl h_b2 (by decide) (by decide) ?_)
                  intro A200 c200 w200 H
                  refine seg 1 [.op [1, 1, 1, 1, 1, 1, 0] 6, .co [1, 1, 1, 1, 1, 1, 1]] [(0, .slice A0_0 l_.length c0_0), (1, .slice A1_0 a.length c1_0), (8, .slice A112_0 encode.1.length c112_0), (85, .slice A200 b2.length c200), (86, .slice A2_0 b.length c2_0)] (by kernel_rfl) ?_
                  replace H : St w noF m mk172 [rowI rU8 5 A200 c200 b2, rowI rU8 5 A112_0 c112_0 encode.1] w200 := (H.drop 1 rfl)
                  obtain ⟨xs201, hr201, hx201⟩ := (s2_0.mono (hsub112.trans hsub172)).cs
                  obtain ⟨b3, h_b3, hf⟩ := bindE hf
                  refine st (appS (r := rU8) (some 87) 29 5 1 (.int .u8 0) 29 0 A200 A2_0 c200 b.length c2_0 b2 b b3 _ H rfl ⟨Try.underlying29, by kernel_rfl⟩ rfl (by decide) (by kernel_rfl) (hx201.cs H.has) hr201 rfl h_b3 (by decide) (by decide) ?_)
                  intro A202 c202 w202 H
                  refine seg 2 [.op [1, 1, 1, 1, 1, 1, 0] 9, .co [1, 1, 1, 1, 1, 1, 1]] [(0, .slice A0_0 l_.length c0_0), (1, .slice A1_0 a.length c1_0), (8, .slice A112_0 encode.1.length c112_0), (87, .slice A202 b3.length c202), (89, .int .i64 (a.length : Int))] (by kernel_rfl) ?_
                  obtain ⟨mf203, hsub203, hsf203, H⟩ := H.fixR 0 rfl
                  obtain ⟨decode, h_decode, hf⟩ := bindE hf
                  refine st (callR (some 90) 22 #[.slice A202 b3.length c202, .int .i64 (a.length : Int)] Try.call22 (table_DecodeAttrs_c H.has b3 A202 c202 hsf203 (a.length : Int) h_decode) (by kernel_rfl) ?_)
                  rintro _ w204 ⟨A204_0, c204_0, mk204, rfl, hS204⟩
                  have hsub204 := hS204.sub
                  replace H := H.call0 hS204
                  refine seg 11 [.op [1, 1, 1, 1, 1, 1, 1, 0] 1, .co [1, 1, 1, 1, 1, 1, 1, 1]] [(0, .slice A0_0 l_.length c0_0), (1, .slice A1_0 a.length c1_0), (8, .slice A112_0 encode.1.length c112_0), (10, .slice A204_0 decode.1.length c204_0), (11, .int .i64 decode.2.1), (94, .int .i64 decode.2.2)] (by kernel_rfl) ?_
                  refine st (callR (some 95) 15 #[.int .i64 decode.2.2] Try.call15 (law17_num_c H.has decode.2.2) (by kernel_rfl) ?_)
                  rintro _ w205 ⟨rfl, hx205⟩
                  replace H := H.ex hx205
                  refine seg 2 [.op [1, 1, 1, 1, 1, 1, 1, 0] 4, .co [1, 1, 1, 1, 1, 1, 1, 1]] [(0, .slice A0_0 l_.length c0_0), (1, .slice A1_0 a.length c1_0), (8, .slice A112_0 encode.1.length c112_0), (10, .slice A204_0 decode.1.length c204_0), (11, .int .i64 decode.2.1), (97, .bool ((law17_num decode.2.2) == 0))] (by kernel_rfl) ?_
                  rcases condT hf with ⟨hb206, hf⟩ | ⟨hb206, hf⟩
                  · rw [hb206]
                    refine seg 9 [.op [1, 1, 1, 1, 1, 1, 1, 0] 13, .co [1, 1, 1, 1, 1, 1, 1, 1]] [(0, .slice A0_0 l_.length c0_0), (10, .slice A204_0 decode.1.length c204_0), (106, .bool (decode.2.1 == (IntKind.i64.wrap ((a.length : Int) + (encode.1.length : Int)))))] (by kernel_rfl) ?_
                    rcases condT hf with ⟨hb207, hf⟩ | ⟨hb207, hf⟩
                    · rw [hb207]
                      refine seg 2 [.op [1, 1, 1, 1, 1, 1, 1, 0] 15, .co [1, 1, 1, 1, 1, 1, 1, 1]] [(106, .bool true), (107, .slice A0_0 l_.length c0_0), (108, .slice A204_0 decode.1.length c204_0)] (by kernel_rfl) ?_
                      have H0_208 := H
                      obtain ⟨mf209, hsub209, hsf209, H⟩ := H.fixR 0 rfl
                      obtain ⟨sameAt, h_sameAt, hf⟩ := bindE hf
                      refine st (callR (some 109) 23 #[.slice A0_0 l_.length c0_0, .slice A204_0 decode.1.length c204_0] Try.call23 (ref11_SameAttrs_c H.has l_ A0_0 c0_0 (s0_0.mono ((((hsub112.trans hsub172).trans hsub203).trans hsub204).trans hsub209)) decode.1 A204_0 c204_0 hsf209 h_sameAt) (by kernel_rfl) ?_)
                      rintro _ w210 ⟨rfl, hx210⟩
                      replace H := H0_208.ex hx210
                      refine seg 2 [.op [1, 1, 1, 1, 1, 1, 1, 0] 18, .co [1, 1, 1, 1, 1, 1, 1, 1]] [(111, .bool sameAt)] (by kernel_rfl) ?_
                      rcases condT hf with ⟨hb211, hf⟩ | ⟨hb211, hf⟩
                      · rw [hb211]
                        replace H : St w noF m mk204 [] w210 := ((H.drop 1 rfl).drop 0 rfl)
                        obtain ⟨live5, h_live5, hf⟩ := bindE hf
                        refine st (callR (some 112) 8 #[] Try.call8 (law17_live_c H.has  h_live5) (by kernel_rfl) ?_)
                        rintro _ w212 ⟨rfl, hx212⟩
                        replace H := H.ex hx212
                        refine seg 3 [.co [1, 1, 1, 1, 1, 1, 1, 1]] [(6, .bool live5)] (by kernel_rfl) ?_
                        refine retR [6] [.bool live5] (by kernel_rfl) (by kernel_rfl) (by kernel_rfl) ?_
                        have hret := (Option.some.inj hf)
                        subst hret
                        exact ⟨_, rfl, rfl, H.scalar⟩
                      · rw [hb211]
                        refine seg 4 [.co [1, 1, 1, 1, 1, 1, 1, 1]] [(6, .bool false)] (by kernel_rfl) ?_
                        refine retR [6] [.bool false] (by kernel_rfl) (by kernel_rfl) (by kernel_rfl) ?_
                        have hret := (Option.some.inj hf)
                        subst hret
                        exact ⟨_, rfl, rfl, H.scalar⟩
                    · rw [hb207]
                      refine seg 9 [.co [1, 1, 1, 1, 1, 1, 1, 1]] [(6, .bool false)] (by kernel_rfl) ?_
                      refine retR [6] [.bool false] (by kernel_rfl) (by kernel_rfl) (by kernel_rfl) ?_
                      have hret := (Option.some.inj hf)
                      subst hret
                      exact ⟨_, rfl, rfl, H.scalar⟩
                  · rw [hb206]
                    refine seg 18 [.co [1, 1, 1, 1, 1, 1, 1, 1]] [(6, .bool false)] (by kernel_rfl) ?_
                    refine retR [6] [.bool false] (by kernel_rfl) (by kernel_rfl) (by kernel_rfl) ?_
                    have hret := (Option.some.inj hf)
                    subst hret
                    exact ⟨_, rfl, rfl, H.scalar⟩
        · rw [hb123]
          refine seg 4 [.op [1, 1, 1, 1, 0, 1, 0, 0] 1, .co [1, 1, 1, 1, 0, 1, 0, 1], .co [1, 1, 1, 1, 1]] [(8, .slice A112_0 encode.1.length c112_0), (58, .int .i64 encode.2)] (by kernel_rfl) ?_
          refine st (callR (some 59) 15 #[.int .i64 encode.2] Try.call15 (law17_num_c H.has encode.2) (by kernel_rfl) ?_)
          rintro _ w213 ⟨rfl, hx213⟩
          replace H := H.ex hx213
          refine seg 2 [.op [1, 1, 1, 1, 0, 1, 0, 0] 4, .co [1, 1, 1, 1, 0, 1, 0, 1], .co [1, 1, 1, 1, 1]] [(8, .slice A112_0 encode.1.length c112_0), (61, .bool ((law17_num encode.2) == 1))] (by kernel_rfl) ?_
          rcases condT hf with ⟨hb214, hf⟩ | ⟨hb214, hf⟩
          · rw [hb214]
            refine seg 5 [.op [1, 1, 1, 1, 0, 1, 0, 0] 9, .co [1, 1, 1, 1, 0, 1, 0, 1], .co [1, 1, 1, 1, 1]] [(66, .bool ((encode.1.length : Int) == 0))] (by kernel_rfl) ?_
            rcases condT hf with ⟨hb215, hf⟩ | ⟨hb215, hf⟩
            · rw [hb215]
              obtain ⟨live6, h_live6, hf⟩ := bindE hf
              refine st (callR (some 67) 8 #[] Try.call8 (law17_live_c H.has  h_live6) (by kernel_rfl) ?_)
              rintro _ w216 ⟨rfl, hx216⟩
              replace H := H.ex hx216
              refine seg 3 [.co [1, 1, 1, 1, 0, 1, 0, 1], .co [1, 1, 1, 1, 1]] [(6, .bool live6)] (by kernel_rfl) ?_
              refine retR [6] [.bool live6] (by kernel_rfl) (by kernel_rfl) (by kernel_rfl) ?_
              have hret := (Option.some.inj hf)
              subst hret
              exact ⟨_, rfl, rfl, H.scalar⟩
            · rw [hb215]
              refine seg 4 [.co [1, 1, 1, 1, 0, 1, 0, 1], .co [1, 1, 1, 1, 1]] [(6, .bool false)] (by kernel_rfl) ?_
              refine retR [6] [.bool false] (by kernel_rfl) (by kernel_rfl) (by kernel_rfl) ?_
              have hret := (Option.some.inj hf)
              subst hret
              exact ⟨_, rfl, rfl, H.scalar⟩
          · rw [hb214]
            refine seg 9 [.co [1, 1, 1, 1, 0, 1, 0, 1], .co [1, 1, 1, 1, 1]] [(6, .bool false)] (by kernel_rfl) ?_
            refine retR [6] [.bool false] (by kernel_rfl) (by kernel_rfl) (by kernel_rfl) ?_
            have hret := (Option.some.inj hf)
            subst hret
            exact ⟨_, rfl, rfl, H.scalar⟩
theorem ref17_DecodeAttrs_c {m : Mem} {w : World} (hm : Has m w) (b : (List UInt8)) (A0_0 : Option Addr) (c0_0 : Nat) (s0_0 : SlI rU8 m A0_0 c0_0 b) (at_ : Int) {r : ((List TApiAttr) × Int × Int)} (hf : ref17_DecodeAttrs b at_ = some r) :
    Calls Try.prog 24 #[.slice A0_0 b.length c0_0, .int .i64 at_] w fun e w' => ∃ v, e = .returned v ∧ ∃ Az_0 : Option Addr, ∃ cz_0 : Nat, ∃ m' : Mem, v = .tuple #[.slice Az_0 r.1.length cz_0, .int .i64 r.2.1, .int .i64 r.2.2] ∧ St w noF m m' [rowI rApiAttr 43 Az_0 cz_0 r.1] w' := by
  unfold ref17_DecodeAttrs at hf
  have H := St.start0 hm
  refine callsR Try.func24 (by kernel_rfl) (by kernel_rfl) ?_
  refine seg 12 [.op [1, 0, 0] 3, .co [1, 0, 1], .co [1, 1]] [(0, .slice A0_0 b.length c0_0), (1, .int .i64 at_), (14, .bool (decide (at_ < 0)))] (by kernel_rfl) ?_
  rcases condT hf with ⟨hb2, hf⟩ | ⟨hb2, hf⟩
  · rw [hb2]
    have p2 := of_decide_eq_true hb2
    refine seg 13 [.co [1, 0, 1, 0, 1], .co [1, 1]] [(4, .slice none 0 0), (5, .int .i64 0), (6, .int .i64 9)] (by kernel_rfl) ?_
    have H := H.nilR rApiAttr 43
    refine retR [4, 5, 6] [.slice none 0 0, .int .i64 0, .int .i64 9] (by kernel_rfl) (by kernel_rfl) (by kernel_rfl) ?_
    obtain rfl : ([], 0, 9) = r := (Option.some.inj hf)
    exact ⟨_, rfl, none, 0, m, rfl, H⟩
  · rw [hb2]
    have p2 := of_decide_eq_false hb2
    refine seg 6 [.co [1, 0, 1], .co [1, 1]] [(0, .slice A0_0 b.length c0_0), (1, .int .i64 at_), (19, .bool (decide (at_ > (b.length : Int))))] (by kernel_rfl) ?_
    rcases condT hf with ⟨hb4, hf⟩ | ⟨hb4, hf⟩
    · rw [hb4]
      have p4 := of_decide_eq_true hb4
      refine seg 7 [.co [1, 0, 1, 0, 1], .co [1, 1]] [(4, .slice none 0 0), (5, .int .i64 0), (6, .int .i64 9)] (by kernel_rfl) ?_
      have H := H.nilR rApiAttr 43
      refine retR [4, 5, 6] [.slice none 0 0, .int .i64 0, .int .i64 9] (by kernel_rfl) (by kernel_rfl) (by kernel_rfl) ?_
      obtain rfl : ([], 0, 9) = r := (Option.some.inj hf)
      exact ⟨_, rfl, none, 0, m, rfl, H⟩
    · rw [hb4]
      have p4 := of_decide_eq_false hb4
      refine seg 11 [.co [1, 1, 0, 1], .co [1, 1, 1]] [(0, .slice A0_0 b.length c0_0), (1, .int .i64 at_), (24, .bool (decide ((IntKind.i64.wrap (at_ + 2)) > (b.length : Int))))] (by kernel_rfl) ?_
      rcases condT hf with ⟨hb6, hf⟩ | ⟨hb6, hf⟩
      · rw [hb6]
        have p6 := of_decide_eq_true hb6
        refine seg 7 [.co [1, 1, 0, 1, 0, 1], .co [1, 1, 1]] [(4, .slice none 0 0), (5, .int .i64 0), (6, .int .i64 6)] (by kernel_rfl) ?_
        have H := H.nilR rApiAttr 43
        refine retR [4, 5, 6] [.slice none 0 0, .int .i64 0, .int .i64 6] (by kernel_rfl) (by kernel_rfl) (by kernel_rfl) ?_
        obtain rfl : ([], 0, 6) = r := (Option.some.inj hf)
        exact ⟨_, rfl, none, 0, m, rfl, H⟩
      · rw [hb6]
        have p6 := of_decide_eq_false hb6
        refine seg 6 [.op [1, 1, 1, 0] 2, .co [1, 1, 1, 1]] [(0, .slice A0_0 b.length c0_0), (1, .int .i64 at_), (25, .slice A0_0 b.length c0_0), (26, .int .i64 at_)] (by kernel_rfl) ?_
        obtain ⟨load, h_load, hf⟩ := bindE hf
        refine st (callR (some 27) 40 #[.slice A0_0 b.length c0_0, .int .i64 at_, .int .i64 2] Try.call40 (ref01_Load_c H.has b A0_0 c0_0 s0_0 at_ 2 h_load) (by kernel_rfl) ?_)
        rintro _ w7 ⟨rfl, hx7⟩
        replace H := H.ex hx7
        refine seg 18 [.co [1, 1, 1, 1, 1, 1, 0, 1], .co [1, 1, 1, 1, 1, 1, 1]] [(0, .slice A0_0 b.length c0_0), (1, .int .i64 (IntKind.i64.wrap (at_ + 2))), (7, .int .i64 (IntKind.i64.wrap (load.toNat : Int))), (8, .slice none 0 0), (9, .int .i64 0)] (by kernel_rfl) ?_
        obtain ⟨y159, hp159, hfl159, hfr159⟩ := bndE hf
        refine joinR 0 (fun (x : Int × (List TApiAttr) × Option Addr × Nat) => [(1, .int .i64 x.1), (8, .slice (x.2.2.1) x.2.1.length (x.2.2.2))]) (fun (x : Int × (List TApiAttr) × Option Addr × Nat) (wj159 : World) => y159 = .inl (x.1, x.2.1) ∧ St w noF m m [rowI rApiAttr 43 (x.2.2.1) (x.2.2.2) x.2.1] wj159) (by kernel_rfl) ?_ ?_
        · refine seg 1 [.co [1, 1, 1, 1, 1, 1, 0, 1, 0], .bl 0, .le 0, .co [1, 1, 1, 1, 1, 1, 1]] [(0, .slice A0_0 b.length c0_0), (1, .int .i64 (IntKind.i64.wrap (at_ + 2))), (7, .int .i64 (IntKind.i64.wrap (load.toNat : Int))), (8, .slice none 0 0), (9, .int .i64 0)] (by kernel_rfl) ?_
          have H := H.nilR rApiAttr 43
          obtain ⟨nn200, hR200⟩ := loopO_iff.1 hp159
          refine loopR 1 (fun (x : Nat × Int × (List TApiAttr) × Int × Option Addr × Nat) => [(0, .slice A0_0 b.length c0_0), (1, .int .i64 x.2.1), (7, .int .i64 (IntKind.i64.wrap (load.toNat : Int))), (8, .slice (x.2.2.2.2.1) x.2.2.1.length (x.2.2.2.2.2)), (9, .int .i64 x.2.2.2.1)]) (fun (x : Nat × Int × (List TApiAttr) × Int × Option Addr × Nat) (wl200 : World) => iter (fun s => ref17_DecodeAttrs_l1 b load s.1 s.2.1 s.2.2) x.1 (x.2.1, x.2.2.1, x.2.2.2.1) = some y159 ∧ St w noF m m [rowI rApiAttr 43 (x.2.2.2.2.1) (x.2.2.2.2.2) x.2.2.1] wl200) (fun (x : Nat × Int × (List TApiAttr) × Int × Option Addr × Nat) => x.1) (nn200, (IntKind.i64.wrap (at_ + 2)), [], 0, none, 0) (by kernel_rfl) (by kernel_rfl) (by kernel_rfl) ?_ ?_
          · exact ⟨hR200, H⟩
          rintro ⟨n200, at_1, l_, i, A_1_201, c_2_201⟩ wl200 ⟨hR200, H⟩
          try dsimp only at hR200
          try dsimp only at H
          obtain ⟨nk200, q200, rfl, hb_200, hnx200, hfin200⟩ := iterE hR200
          replace hb_200 : ref17_DecodeAttrs_l1 b load at_1 l_ i = some q200 := hb_200
          unfold ref17_DecodeAttrs_l1 at hb_200
          refine seg 7 [.co [1, 1, 1, 1, 1, 1, 0, 1, 0, 0, 0, 1], .co [1, 1, 1, 1, 1, 1, 0, 1, 0, 0, 1], .le 1, .bl 0, .le 0, .co [1, 1, 1, 1, 1, 1, 1]] [(0, .slice A0_0 b.length c0_0), (1, .int .i64 at_1), (7, .int .i64 (IntKind.i64.wrap (load.toNat : Int))), (8, .slice A_1_201 l_.length c_2_201), (9, .int .i64 i), (33, .bool (decide (i < (IntKind.i64.wrap (load.toNat : Int)))))] (by kernel_rfl) ?_
          rcases condT hb_200 with ⟨hb202, hb_200⟩ | ⟨hb202, hb_200⟩
          · rw [hb202]
            have p202 := of_decide_eq_true hb202
            refine seg 12 [.op [1, 1, 1, 1, 1, 1, 0, 1, 0, 0, 1, 0, 0, 0, 0] 5, .co [1, 1, 1, 1, 1, 1, 0, 1, 0, 0, 1, 0, 0, 0, 1], .co [1, 1, 1, 1, 1, 1, 0, 1, 0, 0, 1, 0, 0, 1], .bl 1, .co [1, 1, 1, 1, 1, 1, 0, 1, 0, 0, 1, 1], .le 1, .bl 0, .le 0, .co [1, 1, 1, 1, 1, 1, 1]] [(0, .slice A0_0 b.length c0_0), (1, .int .i64 at_1), (7, .int .i64 (IntKind.i64.wrap (load.toNat : Int))), (8, .slice A_1_201 l_.length c_2_201), (9, .int .i64 i), (40, .bool (decide (at_1 ≥ (b.length : Int))))] (by kernel_rfl) ?_
            rcases condT hb_200 with ⟨hb203, hb_200⟩ | ⟨hb203, hb_200⟩
            · rw [hb203]
              have p203 := of_decide_eq_true hb203
              refine seg 21 [.co [1, 1, 1, 1, 1, 1, 0, 1, 0, 0, 1, 0, 0, 0, 1, 0, 1], .co [1, 1, 1, 1, 1, 1, 0, 1, 0, 0, 1, 0, 0, 1], .bl 1, .co [1, 1, 1, 1, 1, 1, 0, 1, 0, 0, 1, 1], .le 1, .bl 0, .le 0, .co [1, 1, 1, 1, 1, 1, 1]] [(4, .slice none 0 0), (5, .int .i64 0), (6, .int .i64 6)] (by kernel_rfl) ?_
              have H := H.nilR rApiAttr 43
              refine retR [4, 5, 6] [.slice none 0 0, .int .i64 0, .int .i64 6] (by kernel_rfl) (by kernel_rfl) (by kernel_rfl) ?_
              obtain rfl : ([], 0, 6) = r := (hfr159 _ (hfin200 _ (Option.some.inj hb_200).symm).symm)
              exact ⟨_, rfl, none, 0, m, rfl, (St.takeN 1 H)⟩
            · rw [hb203]
              have p203 := of_decide_eq_false hb203
              refine seg 4 [.op [1, 1, 1, 1, 1, 1, 0, 1, 0, 0, 1, 0, 0, 0, 0] 9, .co [1, 1, 1, 1, 1, 1, 0, 1, 0, 0, 1, 0, 0, 0, 1], .co [1, 1, 1, 1, 1, 1, 0, 1, 0, 0, 1, 0, 0, 1], .bl 1, .co [1, 1, 1, 1, 1, 1, 0, 1, 0, 0, 1, 1], .le 1, .bl 0, .le 0, .co [1, 1, 1, 1, 1, 1, 1]] [(0, .slice A0_0 b.length c0_0), (1, .int .i64 at_1), (7, .int .i64 (IntKind.i64.wrap (load.toNat : Int))), (8, .slice A_1_201 l_.length c_2_201), (9, .int .i64 i), (40, .bool false), (42, .int .i64 (IntKind.i64.wrap (at_1 + 1))), (43, .slice A0_0 b.length c0_0), (44, .int .i64 at_1)] (by kernel_rfl) ?_
              obtain ⟨x_, h_x_, hb_200⟩ := bindE hb_200
              obtain ⟨i0204, i1204, ix204⟩ := idx_some h_x_
              obtain ⟨ad205, _, ea205, rfl, hc205⟩ := s0_0.at_ ix204 (by decide)
              refine st (idxS (some 45) 29 5 1 A0_0 ad205 b.length c0_0 .i64 at_1 ea205 (by kernel_rfl) (by kernel_rfl) i0204 i1204 ?_)
              refine st (ldR (some 46) 5 (ad205.add (at_1.toNat * 1)) (.int .u8 (x_.toNat : Int)) (by kernel_rfl) (by kernel_rfl) (H.cellI (mc0 (hc205 0 _ rfl))) ?_)
              refine seg 8 [.co [1, 1, 1, 1, 1, 1, 0, 1, 0, 0, 1, 0, 0, 0, 1], .co [1, 1, 1, 1, 1, 1, 0, 1, 0, 0, 1, 0, 0, 1], .bl 1, .co [1, 1, 1, 1, 1, 1, 0, 1, 0, 0, 1, 1], .le 1, .bl 0, .le 0, .co [1, 1, 1, 1, 1, 1, 1]] [(0, .slice A0_0 b.length c0_0), (1, .int .i64 at_1), (7, .int .i64 (IntKind.i64.wrap (load.toNat : Int))), (8, .slice A_1_201 l_.length c_2_201), (9, .int .i64 i), (53, .bool (decide ((IntKind.i64.wrap ((IntKind.i64.wrap ((IntKind.i64.wrap (at_1 + 1)) + (IntKind.i64.wrap (x_.toNat : Int)))) + 2)) > (b.length : Int))))] (by kernel_rfl) ?_
              have := x_.toNat_lt
              rw [show IntKind.i64.wrap (x_.toNat : Int) = (x_.toNat : Int) from w64 (by omega)]
              rcases condT hb_200 with ⟨hb206, hb_200⟩ | ⟨hb206, hb_200⟩
              · rw [hb206]
                have p206 := of_decide_eq_true hb206
                refine seg 7 [.co [1, 1, 1, 1, 1, 1, 0, 1, 0, 0, 1, 0, 0, 0, 1, 0, 1], .co [1, 1, 1, 1, 1, 1, 0, 1, 0, 0, 1, 0, 0, 1], .bl 1, .co [1, 1, 1, 1, 1, 1, 0, 1, 0, 0, 1, 1], .le 1, .bl 0, .le 0, .co [1, 1, 1, 1, 1, 1, 1]] [(4, .slice none 0 0), (5, .int .i64 0), (6, .int .i64 6)] (by kernel_rfl) ?_
                have H := H.nilR rApiAttr 43
                refine retR [4, 5, 6] [.slice none 0 0, .int .i64 0, .int .i64 6] (by kernel_rfl) (by kernel_rfl) (by kernel_rfl) ?_
                obtain rfl : ([], 0, 6) = r := (hfr159 _ (hfin200 _ (Option.some.inj hb_200).symm).symm)
                exact ⟨_, rfl, none, 0, m, rfl, (St.takeN 1 H)⟩
              · rw [hb206]
                have p206 := of_decide_eq_false hb206
                refine seg 11 [.op [1, 1, 1, 1, 1, 1, 0, 1, 0, 0, 1, 0, 0, 1, 0] 7, .co [1, 1, 1, 1, 1, 1, 0, 1, 0, 0, 1, 0, 0, 1, 1], .bl 1, .co [1, 1, 1, 1, 1, 1, 0, 1, 0, 0, 1, 1], .le 1, .bl 0, .le 0, .co [1, 1, 1, 1, 1, 1, 1]] [(0, .slice A0_0 b.length c0_0), (1, .int .i64 at_1), (7, .int .i64 (IntKind.i64.wrap (load.toNat : Int))), (8, .slice A_1_201 l_.length c_2_201), (9, .int .i64 i), (54, .slice A0_0 b.length c0_0), (56, .int .i64 (IntKind.i64.wrap (at_1 + 1))), (58, .int .i64 (IntKind.i64.wrap (at_1 + 1))), (59, .slice A0_0 b.length c0_0), (60, .int .i64 at_1)] (by kernel_rfl) ?_
                refine st (idxS (some 61) 29 5 1 A0_0 ad205 b.length c0_0 .i64 at_1 ea205 (by kernel_rfl) (by kernel_rfl) i0204 i1204 ?_)
                refine st (ldR (some 62) 5 (ad205.add (at_1.toNat * 1)) (.int .u8 (x_.toNat : Int)) (by kernel_rfl) (by kernel_rfl) (H.cellI (mc0 (hc205 0 _ rfl))) ?_)
                refine seg 2 [.op [1, 1, 1, 1, 1, 1, 0, 1, 0, 0, 1, 0, 0, 1, 0] 11, .co [1, 1, 1, 1, 1, 1, 0, 1, 0, 0, 1, 0, 0, 1, 1], .bl 1, .co [1, 1, 1, 1, 1, 1, 0, 1, 0, 0, 1, 1], .le 1, .bl 0, .le 0, .co [1, 1, 1, 1, 1, 1, 1]] [(0, .slice A0_0 b.length c0_0), (1, .int .i64 at_1), (7, .int .i64 (IntKind.i64.wrap (load.toNat : Int))), (8, .slice A_1_201 l_.length c_2_201), (9, .int .i64 i), (54, .slice A0_0 b.length c0_0), (56, .int .i64 (IntKind.i64.wrap (at_1 + 1))), (64, .int .i64 (IntKind.i64.wrap ((IntKind.i64.wrap (at_1 + 1)) + (IntKind.i64.wrap (x_.toNat : Int)))))] (by kernel_rfl) ?_
                have := x_.toNat_lt
                rw [show IntKind.i64.wrap (x_.toNat : Int) = (x_.toNat : Int) from w64 (by omega)]
                obtain ⟨y_, h_y_, hb_200⟩ := bindE hb_200
                refine st (sliS (r := rU8) (some 65) 29 5 A0_0 c0_0 b y_ (some (.int .i64 (IntKind.i64.wrap (at_1 + 1)))) (some (.int .i64 (IntKind.i64.wrap ((IntKind.i64.wrap (at_1 + 1)) + (x_.toNat : Int))))) (IntKind.i64.wrap (at_1 + 1)) (IntKind.i64.wrap ((IntKind.i64.wrap (at_1 + 1)) + (x_.toNat : Int))) s0_0 (by kernel_rfl) (by kernel_rfl) (.inr ⟨_, rfl⟩) (.inr ⟨_, rfl⟩) h_y_ ?_)
                intro A207 c207 hs207
                refine st (b2sS (some 66) 29 9 5 A207 c207 y_ Try.underlying29 Try.underlying5 Try.underlying9 (by kernel_rfl) (hs207.bytes.cs H.has) ?_)
                have hl208 : y_.length ≤ 9223372036854775807 := hs207.bound
                refine seg 15 [.op [1, 1, 1, 1, 1, 1, 0, 1, 0, 0, 1, 0, 0, 1, 1, 1, 0] 2, .co [1, 1, 1, 1, 1, 1, 0, 1, 0, 0, 1, 0, 0, 1, 1, 1, 1], .bl 1, .co [1, 1, 1, 1, 1, 1, 0, 1, 0, 0, 1, 1], .le 1, .bl 0, .le 0, .co [1, 1, 1, 1, 1, 1, 1]] [(0, .slice A0_0 b.length c0_0), (1, .int .i64 (IntKind.i64.wrap ((IntKind.i64.wrap (at_1 + 1)) + (y_.length : Int)))), (7, .int .i64 (IntKind.i64.wrap (load.toNat : Int))), (8, .slice A_1_201 l_.length c_2_201), (9, .int .i64 i), (10, .string ⟨y_.toArray⟩), (72, .slice A0_0 b.length c0_0), (73, .int .i64 (IntKind.i64.wrap ((IntKind.i64.wrap (at_1 + 1)) + (y_.length : Int))))] (by kernel_rfl) ?_
                obtain ⟨load1, h_load1, hb_200⟩ := bindE hb_200
                refine st (callR (some 74) 40 #[.slice A0_0 b.length c0_0, .int .i64 (IntKind.i64.wrap ((IntKind.i64.wrap (at_1 + 1)) + (y_.length : Int))), .int .i64 2] Try.call40 (ref01_Load_c H.has b A0_0 c0_0 s0_0 (IntKind.i64.wrap ((IntKind.i64.wrap (at_1 + 1)) + (y_.length : Int))) 2 h_load1) (by kernel_rfl) ?_)
                rintro _ w209 ⟨rfl, hx209⟩
                replace H := H.ex hx209
                refine seg 14 [.co [1, 1, 1, 1, 1, 1, 0, 1, 0, 0, 1, 0, 0, 1, 1, 1, 1, 0, 1], .co [1, 1, 1, 1, 1, 1, 0, 1, 0, 0, 1, 0, 0, 1, 1, 1, 1, 1], .bl 1, .co [1, 1, 1, 1, 1, 1, 0, 1, 0, 0, 1, 1], .le 1, .bl 0, .le 0, .co [1, 1, 1, 1, 1, 1, 1]] [(0, .slice A0_0 b.length c0_0), (1, .int .i64 (IntKind.i64.wrap ((IntKind.i64.wrap (at_1 + 1)) + (y_.length : Int)))), (7, .int .i64 (IntKind.i64.wrap (load.toNat : Int))), (8, .slice A_1_201 l_.length c_2_201), (9, .int .i64 i), (10, .string ⟨y_.toArray⟩), (11, .int .i64 (IntKind.i64.wrap (load1.toNat : Int))), (82, .bool (decide ((IntKind.i64.wrap ((IntKind.i64.wrap ((IntKind.i64.wrap ((IntKind.i64.wrap (at_1 + 1)) + (y_.length : Int))) + 2)) + (IntKind.i64.wrap (load1.toNat : Int)))) > (b.length : Int))))] (by kernel_rfl) ?_
                rcases condT hb_200 with ⟨hb210, hb_200⟩ | ⟨hb210, hb_200⟩
                · rw [hb210]
                  have p210 := of_decide_eq_true hb210
                  refine seg 7 [.co [1, 1, 1, 1, 1, 1, 0, 1, 0, 0, 1, 0, 0, 1, 1, 1, 1, 0, 1, 0, 1], .co [1, 1, 1, 1, 1, 1, 0, 1, 0, 0, 1, 0, 0, 1, 1, 1, 1, 1], .bl 1, .co [1, 1, 1, 1, 1, 1, 0, 1, 0, 0, 1, 1], .le 1, .bl 0, .le 0, .co [1, 1, 1, 1, 1, 1, 1]] [(4, .slice none 0 0), (5, .int .i64 0), (6, .int .i64 6)] (by kernel_rfl) ?_
                  have H := H.nilR rApiAttr 43
                  refine retR [4, 5, 6] [.slice none 0 0, .int .i64 0, .int .i64 6] (by kernel_rfl) (by kernel_rfl) (by kernel_rfl) ?_
                  obtain rfl : ([], 0, 6) = r := (hfr159 _ (hfin200 _ (Option.some.inj hb_200).symm).symm)
                  exact ⟨_, rfl, none, 0, m, rfl, (St.takeN 1 H)⟩
                · rw [hb210]
                  have p210 := of_decide_eq_false hb210
                  refine seg 13 [.op [1, 1, 1, 1, 1, 1, 0, 1, 0, 0, 1, 0, 0, 1, 1, 1, 1, 1, 0] 9, .co [1, 1, 1, 1, 1, 1, 0, 1, 0, 0, 1, 0, 0, 1, 1, 1, 1, 1, 1], .bl 1, .co [1, 1, 1, 1, 1, 1, 0, 1, 0, 0, 1, 1], .le 1, .bl 0, .le 0, .co [1, 1, 1, 1, 1, 1, 1]] [(0, .slice A0_0 b.length c0_0), (1, .int .i64 (IntKind.i64.wrap ((IntKind.i64.wrap (at_1 + 1)) + (y_.length : Int)))), (7, .int .i64 (IntKind.i64.wrap (load.toNat : Int))), (9, .int .i64 i), (11, .int .i64 (IntKind.i64.wrap (load1.toNat : Int))), (83, .slice A_1_201 l_.length c_2_201), (84, .string ⟨y_.toArray⟩), (85, .slice A0_0 b.length c0_0), (87, .int .i64 (IntKind.i64.wrap ((IntKind.i64.wrap ((IntKind.i64.wrap (at_1 + 1)) + (y_.length : Int))) + 2))), (91, .int .i64 (IntKind.i64.wrap ((IntKind.i64.wrap ((IntKind.i64.wrap ((IntKind.i64.wrap (at_1 + 1)) + (y_.length : Int))) + 2)) + (IntKind.i64.wrap (load1.toNat : Int)))))] (by kernel_rfl) ?_
                  replace H : St w noF m m [rowI rApiAttr 43 A_1_201 c_2_201 l_] w209 := H
                  obtain ⟨y_1, h_y_1, hb_200⟩ := bindE hb_200
                  refine st (sliS (r := rU8) (some 92) 29 5 A0_0 c0_0 b y_1 (some (.int .i64 (IntKind.i64.wrap ((IntKind.i64.wrap ((IntKind.i64.wrap (at_1 + 1)) + (y_.length : Int))) + 2)))) (some (.int .i64 (IntKind.i64.wrap ((IntKind.i64.wrap ((IntKind.i64.wrap ((IntKind.i64.wrap (at_1 + 1)) + (y_.length : Int))) + 2)) + (IntKind.i64.wrap (load1.toNat : Int)))))) (IntKind.i64.wrap ((IntKind.i64.wrap ((IntKind.i64.wrap (at_1 + 1)) + (y_.length : Int))) + 2)) (IntKind.i64.wrap ((IntKind.i64.wrap ((IntKind.i64.wrap ((IntKind.i64.wrap (at_1 + 1)) + (y_.length : Int))) + 2)) + (IntKind.i64.wrap (load1.toNat : Int)))) s0_0 (by kernel_rfl) (by kernel_rfl) (.inr ⟨_, rfl⟩) (.inr ⟨_, rfl⟩) h_y_1 ?_)
                  intro A211 c211 hs211
                  refine seg 1 [.op [1, 1, 1, 1, 1, 1, 0, 1, 0, 0, 1, 0, 0, 1, 1, 1, 1, 1, 0] 11, .co [1, 1, 1, 1, 1, 1, 0, 1, 0, 0, 1, 0, 0, 1, 1, 1, 1, 1, 1], .bl 1, .co [1, 1, 1, 1, 1, 1, 0, 1, 0, 0, 1, 1], .le 1, .bl 0, .le 0, .co [1, 1, 1, 1, 1, 1, 1]] [(0, .slice A0_0 b.length c0_0), (1, .int .i64 (IntKind.i64.wrap ((IntKind.i64.wrap (at_1 + 1)) + (y_.length : Int)))), (7, .int .i64 (IntKind.i64.wrap (load.toNat : Int))), (9, .int .i64 i), (11, .int .i64 (IntKind.i64.wrap (load1.toNat : Int))), (83, .slice A_1_201 l_.length c_2_201), (93, .agg #[.string ⟨y_.toArray⟩, .slice A211 y_1.length c211])] (by kernel_rfl) ?_
                  refine st (newS (some 94) (fun g => .slice (some ⟨g, 0, none⟩) 1 1) [.string ⟨y_.toArray⟩, .slice A211 y_1.length c211] 43 H (by kernel_rfl) ?_)
                  intro g212 w212 H
                  obtain ⟨b1, h_b1, hb_200⟩ := bindE hb_200
                  refine st (appS (r := rApiAttr) (some 95) 41 43 40 (.agg #[.string ⟨([] : List UInt8).toArray⟩, .slice none 0 0]) 41 1 A_1_201 (some ⟨g212, 0, none⟩) c_2_201 1 1 l_ [({ Name := y_, Value := y_1 } : TApiAttr)] b1 _ H rfl ⟨Try.underlying41, by kernel_rfl⟩ rfl (by decide) (by kernel_rfl) (Cs.of_blk (H.blk 0 rfl)) (Rows.cons (cs := [.string ⟨y_.toArray⟩, .slice A211 y_1.length c211]) ⟨A211, c211, rfl, hl208, hs211⟩ Rows.nil) rfl h_b1 (by decide) (by decide) ?_)
                  intro A213 c213 w213 H
                  replace H := H.drop 0 rfl
                  refine seg 15 [.le 1, .bl 0, .le 0, .co [1, 1, 1, 1, 1, 1, 1]] [(0, .slice A0_0 b.length c0_0), (1, .int .i64 (IntKind.i64.wrap ((IntKind.i64.wrap ((IntKind.i64.wrap ((IntKind.i64.wrap (at_1 + 1)) + (y_.length : Int))) + 2)) + (IntKind.i64.wrap (load1.toNat : Int))))), (7, .int .i64 (IntKind.i64.wrap (load.toNat : Int))), (8, .slice A213 b1.length c213), (9, .int .i64 (IntKind.i64.wrap (i + 1)))] (by kernel_rfl) ?_
                  refine leR (nk200, (IntKind.i64.wrap ((IntKind.i64.wrap ((IntKind.i64.wrap ((IntKind.i64.wrap (at_1 + 1)) + (y_.length : Int))) + 2)) + (IntKind.i64.wrap (load1.toNat : Int)))), b1, (IntKind.i64.wrap (i + 1)), A213, c213) (Nat.lt_succ_self _) ⟨hnx200 _ (Option.some.inj hb_200).symm, H⟩ (by kernel_rfl)
          · rw [hb202]
            have p202 := of_decide_eq_false hb202
            refine seg 2 [.le 0, .co [1, 1, 1, 1, 1, 1, 1]] [(1, .int .i64 at_1), (8, .slice A_1_201 l_.length c_2_201)] (by kernel_rfl) ?_
            refine leR_up (k' := []) (by rfl) ?_
            refine leJ (at_1, l_, A_1_201, c_2_201) ⟨(hfin200 _ (Option.some.inj hb_200).symm).symm, H⟩ (by kernel_rfl)
        rintro ⟨at_1, l_, A_1_160, c_2_160⟩ wj159 ⟨hy159, H⟩
        try dsimp only at hy159
        try dsimp only at H
        have hf := hfl159 _ hy159
        try dsimp only at hf
        refine seg 4 [.op [1, 1, 1, 1, 1, 1, 1, 0, 0] 1, .co [1, 1, 1, 1, 1, 1, 1, 0, 1], .co [1, 1, 1, 1, 1, 1, 1, 1]] [(1, .int .i64 at_1), (8, .slice A_1_160 l_.length c_2_160), (100, .slice A_1_160 l_.length c_2_160)] (by kernel_rfl) ?_
        have H0_214 := H
        obtain ⟨mf215, hsub215, hsf215, H⟩ := H.fixR 0 rfl
        obtain ⟨rightA, h_rightA, hf⟩ := bindE hf
        refine st (callR (some 101) 20 #[.slice A_1_160 l_.length c_2_160] Try.call20 (ref17_RightAttrs_c H.has l_ A_1_160 c_2_160 hsf215 h_rightA) (by kernel_rfl) ?_)
        rintro _ w216 ⟨rfl, hx216⟩
        replace H := H0_214.ex hx216
        refine seg 2 [.co [1, 1, 1, 1, 1, 1, 1, 0, 1], .co [1, 1, 1, 1, 1, 1, 1, 1]] [(1, .int .i64 at_1), (8, .slice A_1_160 l_.length c_2_160), (102, .bool (!rightA))] (by kernel_rfl) ?_
        rcases condT hf with ⟨hb218, hf⟩ | ⟨hb218, hf⟩
        · rw [hb218]
          refine seg 10 [.co [1, 1, 1, 1, 1, 1, 1, 1, 1]] [(4, .slice A_1_160 l_.length c_2_160), (5, .int .i64 at_1), (6, .int .i64 0)] (by kernel_rfl) ?_
          refine retR [4, 5, 6] [.slice A_1_160 l_.length c_2_160, .int .i64 at_1, .int .i64 0] (by kernel_rfl) (by kernel_rfl) (by kernel_rfl) ?_
          obtain rfl : (l_, at_1, 0) = r := (Option.some.inj hf)
          exact ⟨_, rfl, A_1_160, c_2_160, m, rfl, H⟩
        · rw [hb218]
          refine seg 7 [.co [1, 1, 1, 1, 1, 1, 1, 0, 1, 0, 1], .co [1, 1, 1, 1, 1, 1, 1, 1]] [(4, .slice none 0 0), (5, .int .i64 0), (6, .int .i64 6)] (by kernel_rfl) ?_
          have H := H.nilR rApiAttr 43
          refine retR [4, 5, 6] [.slice none 0 0, .int .i64 0, .int .i64 6] (by kernel_rfl) (by kernel_rfl) (by kernel_rfl) ?_
          obtain rfl : ([], 0, 6) = r := (Option.some.inj hf)
          exact ⟨_, rfl, none, 0, m, rfl, (St.takeN 1 H)⟩
theorem law17_TableSets_c {m : Mem} {w : World} (hm : Has m w) (b : (List UInt8)) (A0_0 : Option Addr) (c0_0 : Nat) (s0_0 : SlI rU8 m A0_0 c0_0 b) (at_ : Int) {r : Bool} (hf : law17_TableSets b at_ = some r) :
    Calls Try.prog 6 #[.slice A0_0 b.length c0_0, .int .i64 at_] w fun e w' => ∃ v, e = .returned v ∧ v = .bool r ∧ Ex w w' := by
  unfold law17_TableSets at hf
  have H := St.start0 hm
  refine callsR Try.func6 (by kernel_rfl) (by kernel_rfl) ?_
  refine seg 11 [.co [1, 0, 1], .co [1, 1]] [(0, .slice A0_0 b.length c0_0), (1, .int .i64 at_), (13, .bool (decide ((b.length : Int) > 6000)))] (by kernel_rfl) ?_
  rcases condT hf with ⟨hb3, hf⟩ | ⟨hb3, hf⟩
  · rw [hb3]
    have p3 := of_decide_eq_true hb3
    refine seg 3 [.op [1, 0, 1, 0, 0] 0, .co [1, 0, 1, 0, 1], .co [1, 1]] [] (by kernel_rfl) ?_
    obtain ⟨live, h_live, hf⟩ := bindE hf
    refine st (callR (some 14) 8 #[] Try.call8 (law17_live_c H.has  h_live) (by kernel_rfl) ?_)
    rintro _ w4 ⟨rfl, hx4⟩
    replace H := H.ex hx4
    refine seg 2 [.co [1, 0, 1, 0, 1], .co [1, 1]] [(4, .bool live)] (by kernel_rfl) ?_
    refine retR [4] [.bool live] (by kernel_rfl) (by kernel_rfl) (by kernel_rfl) ?_
    have hret := (Option.some.inj hf)
    subst hret
    exact ⟨_, rfl, rfl, H.scalar⟩
  · rw [hb3]
    have p3 := of_decide_eq_false hb3
    refine seg 6 [.op [1, 1, 0] 2, .co [1, 1, 1]] [(0, .slice A0_0 b.length c0_0), (1, .int .i64 at_), (16, .slice A0_0 b.length c0_0), (17, .int .i64 at_)] (by kernel_rfl) ?_
    obtain ⟨decode, h_decode, hf⟩ := bindE hf
    refine st (callR (some 18) 22 #[.slice A0_0 b.length c0_0, .int .i64 at_] Try.call22 (table_DecodeAttrs_c H.has b A0_0 c0_0 s0_0 at_ h_decode) (by kernel_rfl) ?_)
    rintro _ w5 ⟨A5_0, c5_0, mk5, rfl, hS5⟩
    have hsub5 := hS5.sub
    replace H := H.call0 hS5
    refine seg 12 [.op [1, 1, 1, 0] 2, .co [1, 1, 1, 1]] [(5, .slice A5_0 decode.1.length c5_0), (6, .int .i64 decode.2.1), (7, .int .i64 decode.2.2), (23, .slice A0_0 b.length c0_0), (24, .int .i64 at_)] (by kernel_rfl) ?_
    obtain ⟨decode1, h_decode1, hf⟩ := bindE hf
    refine st (callR (some 25) 24 #[.slice A0_0 b.length c0_0, .int .i64 at_] Try.call24 (ref17_DecodeAttrs_c H.has b A0_0 c0_0 (s0_0.mono hsub5) at_ h_decode1) (by kernel_rfl) ?_)
    rintro _ w6 ⟨A6_0, c6_0, mk6, rfl, hS6⟩
    have hsub6 := hS6.sub
    replace H := H.call0 hS6
    refine seg 12 [.op [1, 1, 1, 1, 0] 2, .co [1, 1, 1, 1, 1]] [(6, .int .i64 decode.2.1), (7, .int .i64 decode.2.2), (9, .int .i64 decode1.2.1), (10, .int .i64 decode1.2.2), (29, .slice A5_0 decode.1.length c5_0), (30, .slice A6_0 decode1.1.length c6_0)] (by kernel_rfl) ?_
    have H0_18 := H
    obtain ⟨mf19, hsub19, hsf19, H⟩ := H.fixR 1 rfl
    obtain ⟨mf20, hsub20, hsf20, H⟩ := H.fixR 0 rfl
    obtain ⟨sameAt, h_sameAt, hf⟩ := bindE hf
    refine st (callR (some 31) 23 #[.slice A5_0 decode.1.length c5_0, .slice A6_0 decode1.1.length c6_0] Try.call23 (ref11_SameAttrs_c H.has decode.1 A5_0 c5_0 (hsf19.mono hsub20) decode1.1 A6_0 c6_0 hsf20 h_sameAt) (by kernel_rfl) ?_)
    rintro _ w21 ⟨rfl, hx21⟩
    replace H := H0_18.ex hx21
    refine seg 1 [.op [1, 1, 1, 1, 0] 4, .co [1, 1, 1, 1, 1]] [(6, .int .i64 decode.2.1), (7, .int .i64 decode.2.2), (9, .int .i64 decode1.2.1), (10, .int .i64 decode1.2.2), (32, .bool sameAt)] (by kernel_rfl) ?_
    rcases condT hf with ⟨hb22, hf⟩ | ⟨hb22, hf⟩
    · rw [hb22]
      refine seg 5 [.op [1, 1, 1, 1, 0] 9, .co [1, 1, 1, 1, 1]] [(7, .int .i64 decode.2.2), (10, .int .i64 decode1.2.2), (37, .bool (decode.2.1 == decode1.2.1))] (by kernel_rfl) ?_
      rcases condT hf with ⟨hb23, hf⟩ | ⟨hb23, hf⟩
      · rw [hb23]
        refine seg 1 [.op [1, 1, 1, 1, 0] 10, .co [1, 1, 1, 1, 1]] [(10, .int .i64 decode1.2.2), (37, .bool true), (38, .int .i64 decode.2.2)] (by kernel_rfl) ?_
        replace H : St w noF m mk6 [] w21 := ((H.drop 1 rfl).drop 0 rfl)
        refine st (callR (some 39) 15 #[.int .i64 decode.2.2] Try.call15 (law17_num_c H.has decode.2.2) (by kernel_rfl) ?_)
        rintro _ w24 ⟨rfl, hx24⟩
        replace H := H.ex hx24
        refine seg 4 [.op [1, 1, 1, 1, 0] 15, .co [1, 1, 1, 1, 1]] [(43, .bool ((law17_num decode.2.2) == decode1.2.2))] (by kernel_rfl) ?_
        rcases condT hf with ⟨hb25, hf⟩ | ⟨hb25, hf⟩
        · rw [hb25]
          obtain ⟨live1, h_live1, hf⟩ := bindE hf
          refine st (callR (some 44) 8 #[] Try.call8 (law17_live_c H.has  h_live1) (by kernel_rfl) ?_)
          rintro _ w26 ⟨rfl, hx26⟩
          replace H := H.ex hx26
          refine seg 3 [.co [1, 1, 1, 1, 1]] [(4, .bool live1)] (by kernel_rfl) ?_
          refine retR [4] [.bool live1] (by kernel_rfl) (by kernel_rfl) (by kernel_rfl) ?_
          have hret := (Option.some.inj hf)
          subst hret
          exact ⟨_, rfl, rfl, H.scalar⟩
        · rw [hb25]
          refine seg 4 [.co [1, 1, 1, 1, 1]] [(4, .bool false)] (by kernel_rfl) ?_
          refine retR [4] [.bool false] (by kernel_rfl) (by kernel_rfl) (by kernel_rfl) ?_
          have hret := (Option.some.inj hf)
          subst hret
          exact ⟨_, rfl, rfl, H.scalar⟩
      · rw [hb23]
        refine seg 10 [.co [1, 1, 1, 1, 1]] [(4, .bool false)] (by kernel_rfl) ?_
        refine retR [4] [.bool false] (by kernel_rfl) (by kernel_rfl) (by kernel_rfl) ?_
        have hret := (Option.some.inj hf)
        subst hret
        exact ⟨_, rfl, rfl, H.scalar⟩
    · rw [hb22]
      refine seg 15 [.co [1, 1, 1, 1, 1]] [(4, .bool false)] (by kernel_rfl) ?_
      refine retR [4] [.bool false] (by kernel_rfl) (by kernel_rfl) (by kernel_rfl) ?_
      have hret := (Option.some.inj hf)
      subst hret
      exact ⟨_, rfl, rfl, H.scalar⟩
theorem table_EncodeFrags_1_c {m : Mem} {w : World} (hm : Has m w) (f_ : TApiFrag) :
    Calls Try.prog 51 #[.agg #[.int .i64 f_.At, .int .i64 f_.Word, .int .i64 f_.Plain]] w fun e w' => ∃ v, e = .returned v ∧ v = .bool (table_EncodeFrags_1 f_) ∧ Ex w w' := by
  generalize hf : table_EncodeFrags_1 f_ = r
  unfold table_EncodeFrags_1 at hf
  have H := St.start0 hm
  refine callsR Try.func51 (by kernel_rfl) (by kernel_rfl) ?_
  refine seg 2 [.op [0] 0, .co [1]] [(0, .agg #[.int .i64 f_.At, .int .i64 f_.Word, .int .i64 f_.Plain])] (by kernel_rfl) ?_
  refine st (newS (some 1) (fun g => .pointer (some ⟨g, 0, none⟩)) [.int .i64 f_.At, .int .i64 f_.Word, .int .i64 f_.Plain] 88 H (by kernel_rfl) ?_)
  intro g1 w1 H
  refine seg 5 [.op [1, 0] 1, .co [1, 1]] [(1, .pointer (some (⟨g1, 0, none⟩))), (3, .pointer (some (⟨g1, 0, none⟩)))] (by kernel_rfl) ?_
  replace H : St w noF m m [blkI g1 [.int .i64 f_.At, .int .i64 f_.Word, .int .i64 f_.Plain] 88] w1 := H
  refine st (ldR (some 4) 3 (⟨g1, 0, none⟩) (.int .i64 f_.At) (by kernel_rfl) (by kernel_rfl) (H.cellB 0 rfl rfl) ?_)
  refine st (callR (some 5) 52 #[.int .i64 f_.At, .int .i64 0, .int .i64 8388608] Try.call52 (table_between_c H.has f_.At 0 8388608) (by kernel_rfl) ?_)
  rintro _ w7 ⟨rfl, hx7⟩
  replace H := H.ex hx7
  refine seg 2 [.op [1, 0] 5, .co [1, 1]] [(1, .pointer (some (⟨g1, 0, none⟩))), (7, .bool (!(table_between f_.At 0 8388608)))] (by kernel_rfl) ?_
  rcases condT hf with ⟨hb9, hf⟩ | ⟨hb9, hf⟩
  · rw [hb9]
    refine seg 1 [.op [1, 0] 6, .co [1, 1]] [(1, .pointer (some (⟨g1, 0, none⟩))), (7, .bool false), (8, .pointer (some (⟨g1, 1, none⟩)))] (by kernel_rfl) ?_
    refine st (ldR (some 9) 3 (⟨g1, 1, none⟩) (.int .i64 f_.Word) (by kernel_rfl) (by kernel_rfl) (H.cellB 0 rfl rfl) ?_)
    refine st (callR (some 10) 52 #[.int .i64 f_.Word, .int .i64 1, .int .i64 4294967295] Try.call52 (table_between_c H.has f_.Word 1 4294967295) (by kernel_rfl) ?_)
    rintro _ w10 ⟨rfl, hx10⟩
    replace H := H.ex hx10
    refine seg 3 [.op [1, 0] 11, .co [1, 1]] [(1, .pointer (some (⟨g1, 0, none⟩))), (13, .bool (!(table_between f_.Word 1 4294967295)))] (by kernel_rfl) ?_
    rcases condT hf with ⟨hb11, hf⟩ | ⟨hb11, hf⟩
    · rw [hb11]
      refine seg 1 [.op [1, 0] 12, .co [1, 1]] [(13, .bool false), (14, .pointer (some (⟨g1, 2, none⟩)))] (by kernel_rfl) ?_
      refine st (ldR (some 15) 3 (⟨g1, 2, none⟩) (.int .i64 f_.Plain) (by kernel_rfl) (by kernel_rfl) (H.cellB 0 rfl rfl) ?_)
      refine st (callR (some 16) 52 #[.int .i64 f_.Plain, .int .i64 1, .int .i64 1048576] Try.call52 (table_between_c H.has f_.Plain 1 1048576) (by kernel_rfl) ?_)
      rintro _ w12 ⟨rfl, hx12⟩
      replace H := H.ex hx12
      refine seg 4 [.co [1, 1]] [(2, .bool (!(table_between f_.Plain 1 1048576)))] (by kernel_rfl) ?_
      refine retR [2] [.bool (!(table_between f_.Plain 1 1048576))] (by kernel_rfl) (by kernel_rfl) (by kernel_rfl) ?_
      obtain rfl : (!(table_between f_.Plain 1 1048576)) = r := hf
      exact ⟨_, rfl, rfl, H.scalar⟩
    · rw [hb11]
      refine seg 7 [.co [1, 1]] [(2, .bool true)] (by kernel_rfl) ?_
      refine retR [2] [.bool true] (by kernel_rfl) (by kernel_rfl) (by kernel_rfl) ?_
      have hret := hf
      subst hret
      exact ⟨_, rfl, rfl, H.scalar⟩
  · rw [hb9]
    refine seg 13 [.co [1, 1]] [(2, .bool true)] (by kernel_rfl) ?_
    refine retR [2] [.bool true] (by kernel_rfl) (by kernel_rfl) (by kernel_rfl) ?_
    have hret := hf
    subst hret
    exact ⟨_, rfl, rfl, H.scalar⟩
theorem slices_IndexFunc_c {m : Mem} {w : World} (hm : Has m w) (s_ : (List TApiFrag)) (A0_0 : Option Addr) (c0_0 : Nat) (s0_0 : SlI rApiFrag m A0_0 c0_0 s_) {r : Int} (hf : slices_IndexFunc s_ = some r) :
    Calls Try.prog 72 #[.slice A0_0 s_.length c0_0, .func (.func 51) #[] #[]] w fun e w' => ∃ v, e = .returned v ∧ v = .int .i64 r ∧ Ex w w' := by
  unfold slices_IndexFunc at hf
  have H := St.start0 hm
  refine callsR Try.func72 (by kernel_rfl) (by kernel_rfl) ?_
  refine seg 11 [.co [1, 0, 1], .co [1, 1]] [(0, .slice A0_0 s_.length c0_0), (1, .func (.func 51) #[] #[]), (7, .int .i64 (s_.length : Int)), (8, .int .i64 0)] (by kernel_rfl) ?_
  obtain ⟨y51, hp51, hfl51, hfr51⟩ := bndE hf
  refine joinR 0 (fun (x : Unit) => []) (fun (x : Unit) (wj51 : World) => y51 = .inl () ∧ St w noF m m [] wj51) (by kernel_rfl) ?_ ?_
  · refine seg 1 [.co [1, 0, 1, 0], .bl 0, .le 0, .co [1, 1]] [(0, .slice A0_0 s_.length c0_0), (1, .func (.func 51) #[] #[]), (7, .int .i64 (s_.length : Int)), (8, .int .i64 0)] (by kernel_rfl) ?_
    obtain ⟨nn66, hR66⟩ := loopO_iff.1 hp51
    refine loopR 1 (fun (x : Nat × Nat) => [(0, .slice A0_0 s_.length c0_0), (1, .func (.func 51) #[] #[]), (7, .int .i64 (s_.length : Int)), (8, .int .i64 (x.2 : Int))]) (fun (x : Nat × Nat) (wl66 : World) => iter (fun s => slices_IndexFunc_l1 s_ s) x.1 x.2 = some y51 ∧ St w noF m m [] wl66) (fun (x : Nat × Nat) => x.1) (nn66, 0) (by kernel_rfl) (by kernel_rfl) (by kernel_rfl) ?_ ?_
    · exact ⟨hR66, H⟩
    rintro ⟨n66, t⟩ wl66 ⟨hR66, H⟩
    try dsimp only at hR66
    try dsimp only at H
    obtain ⟨nk66, q66, rfl, hb_66, hnx66, hfin66⟩ := iterE hR66
    replace hb_66 : slices_IndexFunc_l1 s_ t = some q66 := hb_66
    unfold slices_IndexFunc_l1 at hb_66
    refine seg 5 [.co [1, 0, 1, 0, 0, 1, 0], .co [1, 0, 1, 0, 0, 1, 1], .le 1, .bl 0, .le 0, .co [1, 1]] [(0, .slice A0_0 s_.length c0_0), (1, .func (.func 51) #[] #[]), (7, .int .i64 (s_.length : Int)), (8, .int .i64 (t : Int)), (9, .bool (decide ((t : Int) < (s_.length : Int))))] (by kernel_rfl) ?_
    rcases condT hb_66 with ⟨hb68, hb_66⟩ | ⟨hb68, hb_66⟩
    · rw [hb68]
      have p68 := of_decide_eq_true hb68
      refine seg 14 [.op [1, 0, 1, 0, 0, 1, 1, 0, 0, 1, 0] 3, .co [1, 0, 1, 0, 0, 1, 1, 0, 0, 1, 1], .bl 1, .co [1, 0, 1, 0, 0, 1, 1, 1], .le 1, .bl 0, .le 0, .co [1, 1]] [(0, .slice A0_0 s_.length c0_0), (1, .func (.func 51) #[] #[]), (5, .int .i64 (t : Int)), (7, .int .i64 (s_.length : Int)), (8, .int .i64 (t : Int)), (11, .func (.func 51) #[] #[]), (12, .slice A0_0 s_.length c0_0), (13, .int .i64 (t : Int))] (by kernel_rfl) ?_
      obtain ⟨x_, h_x_, hb_66⟩ := bindE hb_66
      obtain ⟨ad70, _, ea70, rfl, hc70⟩ := s0_0.at_ h_x_ (by decide)
      refine st (idxS (some 14) 54 88 3 A0_0 ad70 s_.length c0_0 .i64 (t : Int) ea70 (by kernel_rfl) (by kernel_rfl) (by omega) (by have := (List.getElem?_eq_some_iff.1 h_x_).1; omega) ?_)
      refine st (ldAggR (some 15) 88 (ad70.add (t * 3)) [.int .i64 x_.At, .int .i64 x_.Word, .int .i64 x_.Plain] (by kernel_rfl) (by kernel_rfl) (fun j v hj => H.cellI (hc70 j v hj)) ?_)
      refine st (callR (some 16) 51 #[.agg #[.int .i64 x_.At, .int .i64 x_.Word, .int .i64 x_.Plain]] Try.call51 (table_EncodeFrags_1_c H.has x_) (by kernel_rfl) ?_)
      rintro _ w71 ⟨rfl, hx71⟩
      replace H := H.ex hx71
      refine seg 1 [.co [1, 0, 1, 0, 0, 1, 1, 0, 0, 1, 1], .bl 1, .co [1, 0, 1, 0, 0, 1, 1, 1], .le 1, .bl 0, .le 0, .co [1, 1]] [(0, .slice A0_0 s_.length c0_0), (1, .func (.func 51) #[] #[]), (5, .int .i64 (t : Int)), (7, .int .i64 (s_.length : Int)), (8, .int .i64 (t : Int)), (16, .bool (table_EncodeFrags_1 x_))] (by kernel_rfl) ?_
      rcases condT hb_66 with ⟨hb72, hb_66⟩ | ⟨hb72, hb_66⟩
      · rw [hb72]
        refine seg 6 [.co [1, 0, 1, 0, 0, 1, 1, 0, 0, 1, 1, 0, 1], .bl 1, .co [1, 0, 1, 0, 0, 1, 1, 1], .le 1, .bl 0, .le 0, .co [1, 1]] [(4, .int .i64 (t : Int))] (by kernel_rfl) ?_
        refine retR [4] [.int .i64 (t : Int)] (by kernel_rfl) (by kernel_rfl) (by kernel_rfl) ?_
        obtain rfl : (t : Int) = r := (hfr51 _ (hfin66 _ (Option.some.inj hb_66).symm).symm)
        exact ⟨_, rfl, rfl, H.scalar⟩
      · rw [hb72]
        refine seg 7 [.le 1, .bl 0, .le 0, .co [1, 1]] [(0, .slice A0_0 s_.length c0_0), (1, .func (.func 51) #[] #[]), (7, .int .i64 (s_.length : Int)), (8, .int .i64 (IntKind.i64.wrap ((t : Int) + 1)))] (by kernel_rfl) ?_
        have := s0_0.bound
        rw [show IntKind.i64.wrap ((t : Int) + 1) = ((t : Int) + 1) from w64 (by omega)]
        refine leR (nk66, (t + 1)) (Nat.lt_succ_self _) ⟨hnx66 _ (Option.some.inj hb_66).symm, H⟩ (by kernel_rfl)
    · rw [hb68]
      have p68 := of_decide_eq_false hb68
      refine seg 2 [.le 0, .co [1, 1]] [] (by kernel_rfl) ?_
      refine leR_up (k' := []) (by rfl) ?_
      refine leJ () ⟨(hfin66 _ (Option.some.inj hb_66).symm).symm, H⟩ (by kernel_rfl)
  rintro _ wj51 ⟨hy51, H⟩
  have hf := hfl51 _ hy51
  try dsimp only at hf
  refine seg 4 [.co [1, 1, 1]] [(4, .int .i64 (-1))] (by kernel_rfl) ?_
  refine retR [4] [.int .i64 (-1)] (by kernel_rfl) (by kernel_rfl) (by kernel_rfl) ?_
  obtain rfl : (-1) = r := (Option.some.inj hf)
  exact ⟨_, rfl, rfl, H.scalar⟩
theorem slices_ContainsFunc_c {m : Mem} {w : World} (hm : Has m w) (s_ : (List TApiFrag)) (A0_0 : Option Addr) (c0_0 : Nat) (s0_0 : SlI rApiFrag m A0_0 c0_0 s_) {r : Bool} (hf : slices_ContainsFunc s_ = some r) :
    Calls Try.prog 53 #[.slice A0_0 s_.length c0_0, .func (.func 51) #[] #[]] w fun e w' => ∃ v, e = .returned v ∧ v = .bool r ∧ Ex w w' := by
  unfold slices_ContainsFunc at hf
  have H := St.start0 hm
  refine callsR Try.func53 (by kernel_rfl) (by kernel_rfl) ?_
  refine seg 8 [.op [1, 0] 2, .co [1, 1]] [(5, .slice A0_0 s_.length c0_0), (6, .func (.func 51) #[] #[])] (by kernel_rfl) ?_
  obtain ⟨frag, h_frag, hf⟩ := bindE hf
  refine st (callR (some 7) 72 #[.slice A0_0 s_.length c0_0, .func (.func 51) #[] #[]] Try.call72 (slices_IndexFunc_c H.has s_ A0_0 c0_0 s0_0 h_frag) (by kernel_rfl) ?_)
  rintro _ w1 ⟨rfl, hx1⟩
  replace H := H.ex hx1
  refine seg 3 [.co [1, 1]] [(4, .bool (decide (frag ≥ 0)))] (by kernel_rfl) ?_
  refine retR [4] [.bool (decide (frag ≥ 0))] (by kernel_rfl) (by kernel_rfl) (by kernel_rfl) ?_
  obtain rfl : (decide (frag ≥ 0)) = r := (Option.some.inj hf)
  exact ⟨_, rfl, rfl, H.scalar⟩
theorem table_EncodeFrags_2_c {m : Mem} {w : World} (hm : Has m w) (g0 : Nat) (w_ : TFieldWriter) (A0_0 : Option Addr) (c0_0 : Nat) (f_ : TApiFrag) {F : Nat → Prop} (hsep : Sep m w [blkI g0 [.slice A0_0 w_.f_b.length c0_0, .int .i64 w_.f_most, .int .i64 w_.f_e] 108, rowI rU8 5 A0_0 c0_0 w_.f_b] F) (hF : ∀ k, F k → m k = none) {r : TFieldWriter} (hf : table_EncodeFrags_2 w_ f_ = some r) :
    Calls Try.prog 55 #[.pointer (some (⟨g0, 0, none⟩)), .agg #[.int .i64 f_.At, .int .i64 f_.Word, .int .i64 f_.Plain]] w fun e w' => ∃ v, e = .returned v ∧ ∃ Az_o0_0 : Option Addr, ∃ cz_o0_0 : Nat, ∃ m' : Mem, v = .tuple #[] ∧ St w F m m' [blkI g0 [.slice Az_o0_0 r.f_b.length cz_o0_0, .int .i64 r.f_most, .int .i64 r.f_e] 108, rowI rU8 5 Az_o0_0 cz_o0_0 r.f_b] w' := by
  unfold table_EncodeFrags_2 at hf
  have H := St.start hm hsep hF
  refine callsR Try.func55 (by kernel_rfl) (by kernel_rfl) ?_
  refine seg 2 [.op [0] 0, .co [1]] [(0, .pointer (some (⟨g0, 0, none⟩))), (1, .agg #[.int .i64 f_.At, .int .i64 f_.Word, .int .i64 f_.Plain])] (by kernel_rfl) ?_
  refine st (newS (some 3) (fun g => .pointer (some ⟨g, 0, none⟩)) [.int .i64 f_.At, .int .i64 f_.Word, .int .i64 f_.Plain] 88 H (by kernel_rfl) ?_)
  intro g1 w1 H
  refine seg 5 [.op [1, 0] 2, .co [1, 1]] [(0, .pointer (some (⟨g0, 0, none⟩))), (3, .pointer (some (⟨g1, 0, none⟩))), (4, .pointer (some (⟨g0, 0, none⟩))), (5, .pointer (some (⟨g1, 0, none⟩)))] (by kernel_rfl) ?_
  refine st (ldR (some 6) 3 (⟨g1, 0, none⟩) (.int .i64 f_.At) (by kernel_rfl) (by kernel_rfl) (H.cellB 0 rfl rfl) ?_)
  refine seg 1 [.op [1, 0] 4, .co [1, 1]] [(0, .pointer (some (⟨g0, 0, none⟩))), (3, .pointer (some (⟨g1, 0, none⟩))), (4, .pointer (some (⟨g0, 0, none⟩))), (7, .int .u64 (IntKind.u64.wrap f_.At))] (by kernel_rfl) ?_
  rw [q64_wrap f_.At]
  obtain ⟨num, h_num, hf⟩ := bindE hf
  obtain ⟨F2, hse2, hFn2, hcl2⟩ := St.call [blkI g0 [.slice A0_0 w_.f_b.length c0_0, .int .i64 w_.f_most, .int .i64 w_.f_e] 108, rowI rU8 5 A0_0 c0_0 w_.f_b] ((H.pull 2 rfl).pull 2 rfl)
  refine st (callR (some 8) 35 #[.pointer (some (⟨g0, 0, none⟩)), .int .u64 ((UInt64.ofInt f_.At).toNat : Int), .int .i64 4] Try.call35 (field_Writer_Num_c H.has g0 w_ A0_0 c0_0 (UInt64.ofInt f_.At) 4 hse2 hFn2 h_num) (by kernel_rfl) ?_)
  rintro _ w2 ⟨A2_o0_0, c2_o0_0, mk2, rfl, hS2⟩
  have hsub2 := hS2.sub
  replace H := hcl2 _ _ _ hS2
  refine seg 5 [.op [1, 1, 0] 2, .co [1, 1, 1]] [(0, .pointer (some (⟨g0, 0, none⟩))), (3, .pointer (some (⟨g1, 0, none⟩))), (9, .pointer (some (⟨g0, 0, none⟩))), (10, .pointer (some (⟨g1, 1, none⟩)))] (by kernel_rfl) ?_
  refine st (ldR (some 11) 3 (⟨g1, 1, none⟩) (.int .i64 f_.Word) (by kernel_rfl) (by kernel_rfl) (H.cellB 2 rfl rfl) ?_)
  refine seg 1 [.op [1, 1, 0] 4, .co [1, 1, 1]] [(0, .pointer (some (⟨g0, 0, none⟩))), (3, .pointer (some (⟨g1, 0, none⟩))), (9, .pointer (some (⟨g0, 0, none⟩))), (12, .int .u64 (IntKind.u64.wrap f_.Word))] (by kernel_rfl) ?_
  rw [q64_wrap f_.Word]
  obtain ⟨num1, h_num1, hf⟩ := bindE hf
  obtain ⟨F3, hse3, hFn3, hcl3⟩ := St.call [blkI g0 [.slice A2_o0_0 num.f_b.length c2_o0_0, .int .i64 num.f_most, .int .i64 num.f_e] 108, rowI rU8 5 A2_o0_0 c2_o0_0 num.f_b] ((H.pull 1 rfl).pull 1 rfl)
  refine st (callR (some 13) 35 #[.pointer (some (⟨g0, 0, none⟩)), .int .u64 ((UInt64.ofInt f_.Word).toNat : Int), .int .i64 4] Try.call35 (field_Writer_Num_c H.has g0 num A2_o0_0 c2_o0_0 (UInt64.ofInt f_.Word) 4 hse3 hFn3 h_num1) (by kernel_rfl) ?_)
  rintro _ w3 ⟨A3_o0_0, c3_o0_0, mk3, rfl, hS3⟩
  have hsub3 := hS3.sub
  replace H := hcl3 _ _ _ hS3
  refine seg 4 [.op [1, 1, 1] 2] [(14, .pointer (some (⟨g0, 0, none⟩))), (15, .pointer (some (⟨g1, 2, none⟩)))] (by kernel_rfl) ?_
  refine st (ldR (some 16) 3 (⟨g1, 2, none⟩) (.int .i64 f_.Plain) (by kernel_rfl) (by kernel_rfl) (H.cellB 2 rfl rfl) ?_)
  refine seg 1 [.op [1, 1, 1] 4] [(14, .pointer (some (⟨g0, 0, none⟩))), (17, .int .u64 (IntKind.u64.wrap f_.Plain))] (by kernel_rfl) ?_
  rw [q64_wrap f_.Plain]
  obtain ⟨num2, h_num2, hf⟩ := bindE hf
  obtain ⟨F4, hse4, hFn4, hcl4⟩ := St.call [blkI g0 [.slice A3_o0_0 num1.f_b.length c3_o0_0, .int .i64 num1.f_most, .int .i64 num1.f_e] 108, rowI rU8 5 A3_o0_0 c3_o0_0 num1.f_b] ((H.pull 1 rfl).pull 1 rfl)
  refine st (callR (some 18) 35 #[.pointer (some (⟨g0, 0, none⟩)), .int .u64 ((UInt64.ofInt f_.Plain).toNat : Int), .int .i64 4] Try.call35 (field_Writer_Num_c H.has g0 num1 A3_o0_0 c3_o0_0 (UInt64.ofInt f_.Plain) 4 hse4 hFn4 h_num2) (by kernel_rfl) ?_)
  rintro _ w4 ⟨A4_o0_0, c4_o0_0, mk4, rfl, hS4⟩
  have hsub4 := hS4.sub
  replace H := hcl4 _ _ _ hS4
  refine seg 1 [] [] (by kernel_rfl) ?_
  refine endR [] [] (by kernel_rfl) (by kernel_rfl) ?_
  have hret := (Option.some.inj hf)
  subst hret
  exact ⟨_, rfl, A4_o0_0, c4_o0_0, mk4, rfl, (St.takeN 2 ((H.pull 1 rfl).pull 1 rfl))⟩
theorem table_write2_c {m : Mem} {w : World} (hm : Has m w) (l_ : (List TApiFrag)) (A0_0 : Option Addr) (c0_0 : Nat) (s0_0 : SlI rApiFrag m A0_0 c0_0 l_) {r : (List UInt8)} (hf : table_write2 l_ = some r) :
    Calls Try.prog 54 #[.slice A0_0 l_.length c0_0, .func (.func 55) #[] #[]] w fun e w' => ∃ v, e = .returned v ∧ ∃ Az_0 : Option Addr, ∃ cz_0 : Nat, ∃ m' : Mem, v = .slice Az_0 r.length cz_0 ∧ St w noF m m' [rowI rU8 5 Az_0 cz_0 r] w' := by
  unfold table_write2 at hf
  have H := St.start0 hm
  refine callsR Try.func54 (by kernel_rfl) (by kernel_rfl) ?_
  refine seg 6 [.op [1, 0] 0, .co [1, 1]] [(0, .slice A0_0 l_.length c0_0), (1, .func (.func 55) #[] #[])] (by kernel_rfl) ?_
  refine st (callR (some 10) 61 #[.int .i64 16777216] Try.call61 (field_NewWriter_c H.has 16777216) (by kernel_rfl) ?_)
  rintro _ w1 ⟨g1_0, A1_0_0, c1_0_0, mk1, rfl, hS1⟩
  have hsub1 := hS1.sub
  replace H := H.call0 hS1
  refine seg 9 [.co [1, 1, 0, 1], .co [1, 1, 1]] [(1, .func (.func 55) #[] #[]), (5, .pointer (some (⟨g1_0, 0, none⟩))), (11, .slice A0_0 l_.length c0_0), (12, .int .i64 (l_.length : Int)), (13, .int .i64 0)] (by kernel_rfl) ?_
  obtain ⟨y58, hp58, hf⟩ := bindE hf
  refine joinR 0 (fun (x : (List UInt8) × Int × Int × Option Addr × Nat × Mem) => [(5, .pointer (some (⟨g1_0, 0, none⟩)))]) (fun (x : (List UInt8) × Int × Int × Option Addr × Nat × Mem) (wj58 : World) => y58 = (x.1, x.2.1, x.2.2.1) ∧ St w noF m x.2.2.2.2.2 [blkI g1_0 [.slice (x.2.2.2.1) x.1.length (x.2.2.2.2.1), .int .i64 x.2.1, .int .i64 x.2.2.1] 108, rowI rU8 5 (x.2.2.2.1) (x.2.2.2.2.1) x.1] wj58 ∧ Sub mk1 x.2.2.2.2.2) (by kernel_rfl) ?_ ?_
  · refine seg 1 [.co [1, 1, 0, 1, 0], .bl 0, .le 0, .co [1, 1, 1]] [(1, .func (.func 55) #[] #[]), (5, .pointer (some (⟨g1_0, 0, none⟩))), (11, .slice A0_0 l_.length c0_0), (12, .int .i64 (l_.length : Int)), (13, .int .i64 0)] (by kernel_rfl) ?_
    obtain ⟨nn75, hR75⟩ := loopO_iff.1 hp58
    refine loopR 1 (fun (x : Nat × (List UInt8) × Int × Int × Nat × Option Addr × Nat × Mem) => [(1, .func (.func 55) #[] #[]), (5, .pointer (some (⟨g1_0, 0, none⟩))), (11, .slice A0_0 l_.length c0_0), (12, .int .i64 (l_.length : Int)), (13, .int .i64 (x.2.2.2.2.1 : Int))]) (fun (x : Nat × (List UInt8) × Int × Int × Nat × Option Addr × Nat × Mem) (wl75 : World) => iter (fun s => table_write2_l1 l_ s.1 s.2.1 s.2.2.1 s.2.2.2) x.1 (x.2.1, x.2.2.1, x.2.2.2.1, x.2.2.2.2.1) = some y58 ∧ St w noF m x.2.2.2.2.2.2.2 [blkI g1_0 [.slice (x.2.2.2.2.2.1) x.2.1.length (x.2.2.2.2.2.2.1), .int .i64 x.2.2.1, .int .i64 x.2.2.2.1] 108, rowI rU8 5 (x.2.2.2.2.2.1) (x.2.2.2.2.2.2.1) x.2.1] wl75 ∧ Sub mk1 x.2.2.2.2.2.2.2) (fun (x : Nat × (List UInt8) × Int × Int × Nat × Option Addr × Nat × Mem) => x.1) (nn75, (field_NewWriter 16777216).f_b, (field_NewWriter 16777216).f_most, (field_NewWriter 16777216).f_e, 0, A1_0_0, c1_0_0, mk1) (by kernel_rfl) (by kernel_rfl) (by kernel_rfl) ?_ ?_
    · exact ⟨hR75, H, (Sub.refl _)⟩
    rintro ⟨n75, b, most, e_, t, A_1_76, c_2_76, mm76⟩ wl75 ⟨hR75, H, hsub76⟩
    try dsimp only at hR75
    try dsimp only at H
    try dsimp only at hsub76
    obtain ⟨nk75, q75, rfl, hb_75, hnx75, hfin75⟩ := iterE hR75
    replace hb_75 : table_write2_l1 l_ b most e_ t = some q75 := hb_75
    unfold table_write2_l1 at hb_75
    refine seg 5 [.co [1, 1, 0, 1, 0, 0, 1, 0], .co [1, 1, 0, 1, 0, 0, 1, 1], .le 1, .bl 0, .le 0, .co [1, 1, 1]] [(1, .func (.func 55) #[] #[]), (5, .pointer (some (⟨g1_0, 0, none⟩))), (11, .slice A0_0 l_.length c0_0), (12, .int .i64 (l_.length : Int)), (13, .int .i64 (t : Int)), (14, .bool (decide ((t : Int) < (l_.length : Int))))] (by kernel_rfl) ?_
    rcases condT hb_75 with ⟨hb77, hb_75⟩ | ⟨hb77, hb_75⟩
    · rw [hb77]
      have p77 := of_decide_eq_true hb77
      refine seg 6 [.op [1, 1, 0, 1, 0, 0, 1, 1, 0, 0, 0] 0, .co [1, 1, 0, 1, 0, 0, 1, 1, 0, 0, 1], .bl 1, .co [1, 1, 0, 1, 0, 0, 1, 1, 1], .le 1, .bl 0, .le 0, .co [1, 1, 1]] [(1, .func (.func 55) #[] #[]), (5, .pointer (some (⟨g1_0, 0, none⟩))), (11, .slice A0_0 l_.length c0_0), (12, .int .i64 (l_.length : Int)), (13, .int .i64 (t : Int))] (by kernel_rfl) ?_
      obtain ⟨x_, h_x_, hb_75⟩ := bindE hb_75
      obtain ⟨ad79, _, ea79, rfl, hc79⟩ := (s0_0.mono (hsub1.trans hsub76)).at_ h_x_ (by decide)
      refine st (idxS (some 15) 54 88 3 A0_0 ad79 l_.length c0_0 .i64 (t : Int) ea79 (by kernel_rfl) (by kernel_rfl) (by omega) (by have := (List.getElem?_eq_some_iff.1 h_x_).1; omega) ?_)
      refine st (ldAggR (some 16) 88 (ad79.add (t * 3)) [.int .i64 x_.At, .int .i64 x_.Word, .int .i64 x_.Plain] (by kernel_rfl) (by kernel_rfl) (fun j v hj => H.cellI (hc79 j v hj)) ?_)
      refine st (newS (some 7) (fun g => .pointer (some ⟨g, 0, none⟩)) [.int .i64 0, .int .i64 0, .int .i64 0] 88 H (by kernel_rfl) ?_)
      intro g80 w80 H
      replace H : St w noF m mm76 [blkI g80 [.int .i64 0, .int .i64 0, .int .i64 0] 88, blkI g1_0 [.slice A_1_76 b.length c_2_76, .int .i64 most, .int .i64 e_] 108, rowI rU8 5 A_1_76 c_2_76 b] w80 := H
      refine st (stAggS none 88 0 g80 0 [.int .i64 x_.At, .int .i64 x_.Word, .int .i64 x_.Plain] [.int .i64 0, .int .i64 0, .int .i64 0] [.int .i64 x_.At, .int .i64 x_.Word, .int .i64 x_.Plain] 88 H rfl (by kernel_rfl) (by kernel_rfl) (by rfl) (of_decide_eq_true rfl) rfl ?_)
      intro w81 H
      refine seg 4 [.op [1, 1, 0, 1, 0, 0, 1, 1, 0, 0, 1] 2, .bl 1, .co [1, 1, 0, 1, 0, 0, 1, 1, 1], .le 1, .bl 0, .le 0, .co [1, 1, 1]] [(1, .func (.func 55) #[] #[]), (5, .pointer (some (⟨g1_0, 0, none⟩))), (7, .pointer (some (⟨g80, 0, none⟩))), (11, .slice A0_0 l_.length c0_0), (12, .int .i64 (l_.length : Int)), (13, .int .i64 (t : Int)), (17, .func (.func 55) #[] #[]), (18, .pointer (some (⟨g1_0, 0, none⟩)))] (by kernel_rfl) ?_
      refine st (ldAggR (some 19) 88 (⟨g80, 0, none⟩) [.int .i64 x_.At, .int .i64 x_.Word, .int .i64 x_.Plain] (by kernel_rfl) (by kernel_rfl) (H.cellsB 0 rfl (by rfl)) ?_)
      obtain ⟨encode, h_encode, hb_75⟩ := bindE hb_75
      obtain ⟨F82, hse82, hFn82, hcl82⟩ := St.call [blkI g1_0 [.slice A_1_76 b.length c_2_76, .int .i64 most, .int .i64 e_] 108, rowI rU8 5 A_1_76 c_2_76 b] ((H.pull 2 rfl).pull 2 rfl)
      refine st (callR (some 20) 55 #[.pointer (some (⟨g1_0, 0, none⟩)), .agg #[.int .i64 x_.At, .int .i64 x_.Word, .int .i64 x_.Plain]] Try.call55 (table_EncodeFrags_2_c H.has g1_0 ({ f_b := b, f_most := most, f_e := e_ } : TFieldWriter) A_1_76 c_2_76 x_ hse82 hFn82 h_encode) (by kernel_rfl) ?_)
      rintro _ w82 ⟨A82_o0_0, c82_o0_0, mk82, rfl, hS82⟩
      have hsub82 := hS82.sub
      replace H := hcl82 _ _ _ hS82
      refine seg 6 [.le 1, .bl 0, .le 0, .co [1, 1, 1]] [(1, .func (.func 55) #[] #[]), (5, .pointer (some (⟨g1_0, 0, none⟩))), (11, .slice A0_0 l_.length c0_0), (12, .int .i64 (l_.length : Int)), (13, .int .i64 (IntKind.i64.wrap ((t : Int) + 1)))] (by kernel_rfl) ?_
      have := s0_0.bound
      rw [show IntKind.i64.wrap ((t : Int) + 1) = ((t : Int) + 1) from w64 (by omega)]
      refine leR (nk75, encode.f_b, encode.f_most, encode.f_e, (t + 1), A82_o0_0, c82_o0_0, mk82) (Nat.lt_succ_self _) ⟨hnx75 _ (Option.some.inj hb_75).symm, (St.takeN 2 ((H.pull 1 rfl).pull 1 rfl)), (hsub76.trans hsub82)⟩ (by kernel_rfl)
    · rw [hb77]
      have p77 := of_decide_eq_false hb77
      refine seg 2 [.le 0, .co [1, 1, 1]] [(5, .pointer (some (⟨g1_0, 0, none⟩)))] (by kernel_rfl) ?_
      refine leR_up (k' := []) (by rfl) ?_
      refine leJ (b, most, e_, A_1_76, c_2_76, mm76) ⟨(hfin75 _ (Option.some.inj hb_75).symm).symm, H, hsub76⟩ (by kernel_rfl)
  rintro ⟨b, most, e_, A_1_59, c_2_59, mm59⟩ wj58 ⟨hy58, H, hsub59⟩
  try dsimp only at hy58
  try dsimp only at H
  try dsimp only at hsub59
  rw [hy58] at hf
  try dsimp only at hf
  refine seg 3 [.op [1, 1, 1, 0] 1, .co [1, 1, 1, 1]] [(23, .pointer (some (⟨g1_0, 0, none⟩)))] (by kernel_rfl) ?_
  obtain ⟨done, h_done, hf⟩ := bindE hf
  obtain ⟨F83, hse83, hFn83, hcl83⟩ := St.call [blkI g1_0 [.slice A_1_59 b.length c_2_59, .int .i64 most, .int .i64 e_] 108, rowI rU8 5 A_1_59 c_2_59 b] ((H.pull 1 rfl).pull 1 rfl)
  refine st (callR (some 24) 62 #[.pointer (some (⟨g1_0, 0, none⟩))] Try.call62 (field_Writer_Done_c H.has g1_0 ({ f_b := b, f_most := most, f_e := e_ } : TFieldWriter) A_1_59 c_2_59 hse83 hFn83 h_done) (by kernel_rfl) ?_)
  rintro _ w83 ⟨A83_0, c83_0, mk83, rfl, hS83⟩
  have hsub83 := hS83.sub
  replace H := hcl83 _ _ _ hS83
  refine seg 11 [.co [1, 1, 1, 1, 1]] [(4, .slice A83_0 done.1.length c83_0)] (by kernel_rfl) ?_
  refine retR [4] [.slice A83_0 done.1.length c83_0] (by kernel_rfl) (by kernel_rfl) (by kernel_rfl) ?_
  obtain rfl : done.1 = r := (Option.some.inj hf)
  exact ⟨_, rfl, A83_0, c83_0, mk83, rfl, (St.takeN 1 H)⟩
theorem table_EncodeFrags_c {m : Mem} {w : World} (hm : Has m w) (l_ : (List TApiFrag)) (A0_0 : Option Addr) (c0_0 : Nat) (s0_0 : SlI rApiFrag m A0_0 c0_0 l_) {r : ((List UInt8) × Int)} (hf : table_EncodeFrags l_ = some r) :
    Calls Try.prog 25 #[.slice A0_0 l_.length c0_0] w fun e w' => ∃ v, e = .returned v ∧ ∃ Az_0 : Option Addr, ∃ cz_0 : Nat, ∃ m' : Mem, v = .tuple #[.slice Az_0 r.1.length cz_0, .int .i64 r.2] ∧ St w noF m m' [rowI rU8 5 Az_0 cz_0 r.1] w' := by
  unfold table_EncodeFrags at hf
  have H := St.start0 hm
  refine callsR Try.func25 (by kernel_rfl) (by kernel_rfl) ?_
  refine seg 16 [.op [1, 1, 0, 0] 4, .co [1, 1, 0, 1], .co [1, 1, 1]] [(0, .slice A0_0 l_.length c0_0), (4, .func (.func 51) #[] #[]), (8, .bool (decide ((l_.length : Int) > 65536)))] (by kernel_rfl) ?_
  rcases condT hf with ⟨hb3, hf⟩ | ⟨hb3, hf⟩
  · rw [hb3]
    have p3 := of_decide_eq_true hb3
    refine seg 11 [.co [1, 1, 0, 1, 0, 1], .co [1, 1, 1]] [(2, .slice none 0 0), (3, .int .i64 1)] (by kernel_rfl) ?_
    have H := H.nilR rU8 5
    refine retR [2, 3] [.slice none 0 0, .int .i64 1] (by kernel_rfl) (by kernel_rfl) (by kernel_rfl) ?_
    obtain rfl : ([], 1) = r := (Option.some.inj hf)
    exact ⟨_, rfl, none, 0, m, rfl, H⟩
  · rw [hb3]
    have p3 := of_decide_eq_false hb3
    refine seg 2 [.op [1, 1, 0, 0] 6, .co [1, 1, 0, 1], .co [1, 1, 1]] [(0, .slice A0_0 l_.length c0_0), (8, .bool false), (9, .slice A0_0 l_.length c0_0), (10, .func (.func 51) #[] #[])] (by kernel_rfl) ?_
    obtain ⟨frag, h_frag, hf⟩ := bindE hf
    refine st (callR (some 11) 53 #[.slice A0_0 l_.length c0_0, .func (.func 51) #[] #[]] Try.call53 (slices_ContainsFunc_c H.has l_ A0_0 c0_0 s0_0 h_frag) (by kernel_rfl) ?_)
    rintro _ w4 ⟨rfl, hx4⟩
    replace H := H.ex hx4
    refine seg 2 [.co [1, 1, 0, 1], .co [1, 1, 1]] [(0, .slice A0_0 l_.length c0_0), (12, .bool frag)] (by kernel_rfl) ?_
    rcases condT hf with ⟨hb6, hf⟩ | ⟨hb6, hf⟩
    · rw [hb6]
      refine seg 6 [.co [1, 1, 0, 1, 0, 1], .co [1, 1, 1]] [(2, .slice none 0 0), (3, .int .i64 1)] (by kernel_rfl) ?_
      have H := H.nilR rU8 5
      refine retR [2, 3] [.slice none 0 0, .int .i64 1] (by kernel_rfl) (by kernel_rfl) (by kernel_rfl) ?_
      obtain rfl : ([], 1) = r := (Option.some.inj hf)
      exact ⟨_, rfl, none, 0, m, rfl, H⟩
    · rw [hb6]
      refine seg 5 [.op [1, 1, 1, 0] 1, .co [1, 1, 1, 1]] [(13, .slice A0_0 l_.length c0_0)] (by kernel_rfl) ?_
      obtain ⟨frag1, h_frag1, hf⟩ := bindE hf
      refine st (callR (some 14) 54 #[.slice A0_0 l_.length c0_0, .func (.func 55) #[] #[]] Try.call54 (table_write2_c H.has l_ A0_0 c0_0 s0_0 h_frag1) (by kernel_rfl) ?_)
      rintro _ w7 ⟨A7_0, c7_0, mk7, rfl, hS7⟩
      have hsub7 := hS7.sub
      replace H := H.call0 hS7
      refine seg 3 [.co [1, 1, 1, 1]] [(2, .slice A7_0 frag1.length c7_0), (3, .int .i64 0)] (by kernel_rfl) ?_
      refine retR [2, 3] [.slice A7_0 frag1.length c7_0, .int .i64 0] (by kernel_rfl) (by kernel_rfl) (by kernel_rfl) ?_
      obtain rfl : (frag1, 0) = r := (Option.some.inj hf)
      exact ⟨_, rfl, A7_0, c7_0, mk7, rfl, H⟩
theorem ref17_RightFrags_c {m : Mem} {w : World} (hm : Has m w) (l_ : (List TApiFrag)) (A0_0 : Option Addr) (c0_0 : Nat) (s0_0 : SlI rApiFrag m A0_0 c0_0 l_) {r : Bool} (hf : ref17_RightFrags l_ = some r) :
    Calls Try.prog 26 #[.slice A0_0 l_.length c0_0] w fun e w' => ∃ v, e = .returned v ∧ v = .bool r ∧ Ex w w' := by
  unfold ref17_RightFrags at hf
  have H := St.start0 hm
  refine callsR Try.func26 (by kernel_rfl) (by kernel_rfl) ?_
  refine seg 9 [.co [1, 0, 1], .co [1, 1]] [(0, .slice A0_0 l_.length c0_0), (3, .int .i64 0)] (by kernel_rfl) ?_
  obtain ⟨y105, hp105, hfl105, hfr105⟩ := bndE hf
  refine joinR 0 (fun (x : Unit) => [(0, .slice A0_0 l_.length c0_0)]) (fun (x : Unit) (wj105 : World) => y105 = .inl () ∧ St w noF m m [] wj105) (by kernel_rfl) ?_ ?_
  · refine seg 1 [.co [1, 0, 1, 0], .bl 0, .le 0, .co [1, 1]] [(0, .slice A0_0 l_.length c0_0), (3, .int .i64 0)] (by kernel_rfl) ?_
    obtain ⟨nn131, hR131⟩ := loopO_iff.1 hp105
    refine loopR 1 (fun (x : Nat × Nat) => [(0, .slice A0_0 l_.length c0_0), (3, .int .i64 (x.2 : Int))]) (fun (x : Nat × Nat) (wl131 : World) => iter (fun s => ref17_RightFrags_l1 l_ s) x.1 x.2 = some y105 ∧ St w noF m m [] wl131) (fun (x : Nat × Nat) => x.1) (nn131, 0) (by kernel_rfl) (by kernel_rfl) (by kernel_rfl) ?_ ?_
    · exact ⟨hR131, H⟩
    rintro ⟨n131, i⟩ wl131 ⟨hR131, H⟩
    try dsimp only at hR131
    try dsimp only at H
    obtain ⟨nk131, q131, rfl, hb_131, hnx131, hfin131⟩ := iterE hR131
    replace hb_131 : ref17_RightFrags_l1 l_ i = some q131 := hb_131
    unfold ref17_RightFrags_l1 at hb_131
    refine seg 8 [.co [1, 0, 1, 0, 0, 0, 1], .co [1, 0, 1, 0, 0, 1], .le 1, .bl 0, .le 0, .co [1, 1]] [(0, .slice A0_0 l_.length c0_0), (3, .int .i64 (i : Int)), (8, .bool (decide ((i : Int) < (l_.length : Int))))] (by kernel_rfl) ?_
    rcases condT hb_131 with ⟨hb133, hb_131⟩ | ⟨hb133, hb_131⟩
    · rw [hb133]
      have p133 := of_decide_eq_true hb133
      refine seg 8 [.op [1, 0, 1, 0, 0, 1, 0, 0, 0] 2, .co [1, 0, 1, 0, 0, 1, 0, 0, 1], .bl 1, .co [1, 0, 1, 0, 0, 1, 1], .le 1, .bl 0, .le 0, .co [1, 1]] [(0, .slice A0_0 l_.length c0_0), (3, .int .i64 (i : Int)), (11, .slice A0_0 l_.length c0_0), (12, .int .i64 (i : Int))] (by kernel_rfl) ?_
      obtain ⟨x_, h_x_, hb_131⟩ := bindE hb_131
      obtain ⟨ad135, _, ea135, rfl, hc135⟩ := s0_0.at_ h_x_ (by decide)
      refine st (idxS (some 13) 54 88 3 A0_0 ad135 l_.length c0_0 .i64 (i : Int) ea135 (by kernel_rfl) (by kernel_rfl) (by omega) (by have := (List.getElem?_eq_some_iff.1 h_x_).1; omega) ?_)
      refine st (ldAggR (some 14) 88 (ad135.add (i * 3)) [.int .i64 x_.At, .int .i64 x_.Word, .int .i64 x_.Plain] (by kernel_rfl) (by kernel_rfl) (fun j v hj => H.cellI (hc135 j v hj)) ?_)
      refine st (newS (some 4) (fun g => .pointer (some ⟨g, 0, none⟩)) [.int .i64 0, .int .i64 0, .int .i64 0] 88 H (by kernel_rfl) ?_)
      intro g136 w136 H
      refine st (stAggS none 88 0 g136 0 [.int .i64 x_.At, .int .i64 x_.Word, .int .i64 x_.Plain] [.int .i64 0, .int .i64 0, .int .i64 0] [.int .i64 x_.At, .int .i64 x_.Word, .int .i64 x_.Plain] 88 H rfl (by kernel_rfl) (by kernel_rfl) (by rfl) (of_decide_eq_true rfl) rfl ?_)
      intro w137 H
      refine seg 4 [.op [1, 0, 1, 0, 0, 1, 0, 0, 1, 0] 1, .co [1, 0, 1, 0, 0, 1, 0, 0, 1, 1], .bl 1, .co [1, 0, 1, 0, 0, 1, 1], .le 1, .bl 0, .le 0, .co [1, 1]] [(0, .slice A0_0 l_.length c0_0), (3, .int .i64 (i : Int)), (4, .pointer (some (⟨g136, 0, none⟩))), (15, .pointer (some (⟨g136, 0, none⟩)))] (by kernel_rfl) ?_
      refine st (ldR (some 16) 3 (⟨g136, 0, none⟩) (.int .i64 x_.At) (by kernel_rfl) (by kernel_rfl) (H.cellB 0 rfl rfl) ?_)
      refine seg 2 [.op [1, 0, 1, 0, 0, 1, 0, 0, 1, 0] 4, .co [1, 0, 1, 0, 0, 1, 0, 0, 1, 1], .bl 1, .co [1, 0, 1, 0, 0, 1, 1], .le 1, .bl 0, .le 0, .co [1, 1]] [(0, .slice A0_0 l_.length c0_0), (3, .int .i64 (i : Int)), (4, .pointer (some (⟨g136, 0, none⟩))), (18, .bool (decide (x_.At < 0)))] (by kernel_rfl) ?_
      rcases condT hb_131 with ⟨hb138, hb_131⟩ | ⟨hb138, hb_131⟩
      · rw [hb138]
        have p138 := of_decide_eq_true hb138
        refine seg 30 [.co [1, 0, 1, 0, 0, 1, 0, 0, 1, 1, 0, 1], .bl 1, .co [1, 0, 1, 0, 0, 1, 1], .le 1, .bl 0, .le 0, .co [1, 1]] [(2, .bool false)] (by kernel_rfl) ?_
        refine retR [2] [.bool false] (by kernel_rfl) (by kernel_rfl) (by kernel_rfl) ?_
        have hret := (hfr105 _ (hfin131 _ (Option.some.inj hb_131).symm).symm)
        subst hret
        exact ⟨_, rfl, rfl, H.scalar⟩
      · rw [hb138]
        have p138 := of_decide_eq_false hb138
        refine seg 1 [.op [1, 0, 1, 0, 0, 1, 0, 0, 1, 0] 5, .co [1, 0, 1, 0, 0, 1, 0, 0, 1, 1], .bl 1, .co [1, 0, 1, 0, 0, 1, 1], .le 1, .bl 0, .le 0, .co [1, 1]] [(0, .slice A0_0 l_.length c0_0), (3, .int .i64 (i : Int)), (4, .pointer (some (⟨g136, 0, none⟩))), (18, .bool false), (19, .pointer (some (⟨g136, 0, none⟩)))] (by kernel_rfl) ?_
        refine st (ldR (some 20) 3 (⟨g136, 0, none⟩) (.int .i64 x_.At) (by kernel_rfl) (by kernel_rfl) (H.cellB 0 rfl rfl) ?_)
        refine seg 3 [.op [1, 0, 1, 0, 0, 1, 0, 0, 1, 0] 9, .co [1, 0, 1, 0, 0, 1, 0, 0, 1, 1], .bl 1, .co [1, 0, 1, 0, 0, 1, 1], .le 1, .bl 0, .le 0, .co [1, 1]] [(0, .slice A0_0 l_.length c0_0), (3, .int .i64 (i : Int)), (4, .pointer (some (⟨g136, 0, none⟩))), (23, .bool (decide (x_.At > 8388608)))] (by kernel_rfl) ?_
        rcases condT hb_131 with ⟨hb139, hb_131⟩ | ⟨hb139, hb_131⟩
        · rw [hb139]
          have p139 := of_decide_eq_true hb139
          refine seg 25 [.co [1, 0, 1, 0, 0, 1, 0, 0, 1, 1, 0, 1], .bl 1, .co [1, 0, 1, 0, 0, 1, 1], .le 1, .bl 0, .le 0, .co [1, 1]] [(2, .bool false)] (by kernel_rfl) ?_
          refine retR [2] [.bool false] (by kernel_rfl) (by kernel_rfl) (by kernel_rfl) ?_
          have hret := (hfr105 _ (hfin131 _ (Option.some.inj hb_131).symm).symm)
          subst hret
          exact ⟨_, rfl, rfl, H.scalar⟩
        · rw [hb139]
          have p139 := of_decide_eq_false hb139
          refine seg 1 [.op [1, 0, 1, 0, 0, 1, 0, 0, 1, 0] 10, .co [1, 0, 1, 0, 0, 1, 0, 0, 1, 1], .bl 1, .co [1, 0, 1, 0, 0, 1, 1], .le 1, .bl 0, .le 0, .co [1, 1]] [(0, .slice A0_0 l_.length c0_0), (3, .int .i64 (i : Int)), (4, .pointer (some (⟨g136, 0, none⟩))), (23, .bool false), (24, .pointer (some (⟨g136, 1, none⟩)))] (by kernel_rfl) ?_
          refine st (ldR (some 25) 3 (⟨g136, 1, none⟩) (.int .i64 x_.Word) (by kernel_rfl) (by kernel_rfl) (H.cellB 0 rfl rfl) ?_)
          refine seg 3 [.op [1, 0, 1, 0, 0, 1, 0, 0, 1, 0] 14, .co [1, 0, 1, 0, 0, 1, 0, 0, 1, 1], .bl 1, .co [1, 0, 1, 0, 0, 1, 1], .le 1, .bl 0, .le 0, .co [1, 1]] [(0, .slice A0_0 l_.length c0_0), (3, .int .i64 (i : Int)), (4, .pointer (some (⟨g136, 0, none⟩))), (28, .bool (decide (x_.Word < 1)))] (by kernel_rfl) ?_
          rcases condT hb_131 with ⟨hb140, hb_131⟩ | ⟨hb140, hb_131⟩
          · rw [hb140]
            have p140 := of_decide_eq_true hb140
            refine seg 20 [.co [1, 0, 1, 0, 0, 1, 0, 0, 1, 1, 0, 1], .bl 1, .co [1, 0, 1, 0, 0, 1, 1], .le 1, .bl 0, .le 0, .co [1, 1]] [(2, .bool false)] (by kernel_rfl) ?_
            refine retR [2] [.bool false] (by kernel_rfl) (by kernel_rfl) (by kernel_rfl) ?_
            have hret := (hfr105 _ (hfin131 _ (Option.some.inj hb_131).symm).symm)
            subst hret
            exact ⟨_, rfl, rfl, H.scalar⟩
          · rw [hb140]
            have p140 := of_decide_eq_false hb140
            refine seg 1 [.op [1, 0, 1, 0, 0, 1, 0, 0, 1, 0] 15, .co [1, 0, 1, 0, 0, 1, 0, 0, 1, 1], .bl 1, .co [1, 0, 1, 0, 0, 1, 1], .le 1, .bl 0, .le 0, .co [1, 1]] [(0, .slice A0_0 l_.length c0_0), (3, .int .i64 (i : Int)), (4, .pointer (some (⟨g136, 0, none⟩))), (28, .bool false), (29, .pointer (some (⟨g136, 1, none⟩)))] (by kernel_rfl) ?_
            refine st (ldR (some 30) 3 (⟨g136, 1, none⟩) (.int .i64 x_.Word) (by kernel_rfl) (by kernel_rfl) (H.cellB 0 rfl rfl) ?_)
            refine seg 3 [.op [1, 0, 1, 0, 0, 1, 0, 0, 1, 0] 19, .co [1, 0, 1, 0, 0, 1, 0, 0, 1, 1], .bl 1, .co [1, 0, 1, 0, 0, 1, 1], .le 1, .bl 0, .le 0, .co [1, 1]] [(0, .slice A0_0 l_.length c0_0), (3, .int .i64 (i : Int)), (4, .pointer (some (⟨g136, 0, none⟩))), (33, .bool (decide (x_.Word > 4294967295)))] (by kernel_rfl) ?_
            rcases condT hb_131 with ⟨hb141, hb_131⟩ | ⟨hb141, hb_131⟩
            · rw [hb141]
              have p141 := of_decide_eq_true hb141
              refine seg 15 [.co [1, 0, 1, 0, 0, 1, 0, 0, 1, 1, 0, 1], .bl 1, .co [1, 0, 1, 0, 0, 1, 1], .le 1, .bl 0, .le 0, .co [1, 1]] [(2, .bool false)] (by kernel_rfl) ?_
              refine retR [2] [.bool false] (by kernel_rfl) (by kernel_rfl) (by kernel_rfl) ?_
              have hret := (hfr105 _ (hfin131 _ (Option.some.inj hb_131).symm).symm)
              subst hret
              exact ⟨_, rfl, rfl, H.scalar⟩
            · rw [hb141]
              have p141 := of_decide_eq_false hb141
              refine seg 1 [.op [1, 0, 1, 0, 0, 1, 0, 0, 1, 0] 20, .co [1, 0, 1, 0, 0, 1, 0, 0, 1, 1], .bl 1, .co [1, 0, 1, 0, 0, 1, 1], .le 1, .bl 0, .le 0, .co [1, 1]] [(0, .slice A0_0 l_.length c0_0), (3, .int .i64 (i : Int)), (4, .pointer (some (⟨g136, 0, none⟩))), (33, .bool false), (34, .pointer (some (⟨g136, 2, none⟩)))] (by kernel_rfl) ?_
              refine st (ldR (some 35) 3 (⟨g136, 2, none⟩) (.int .i64 x_.Plain) (by kernel_rfl) (by kernel_rfl) (H.cellB 0 rfl rfl) ?_)
              refine seg 3 [.op [1, 0, 1, 0, 0, 1, 0, 0, 1, 0] 24, .co [1, 0, 1, 0, 0, 1, 0, 0, 1, 1], .bl 1, .co [1, 0, 1, 0, 0, 1, 1], .le 1, .bl 0, .le 0, .co [1, 1]] [(0, .slice A0_0 l_.length c0_0), (3, .int .i64 (i : Int)), (4, .pointer (some (⟨g136, 0, none⟩))), (38, .bool (decide (x_.Plain < 1)))] (by kernel_rfl) ?_
              rcases condT hb_131 with ⟨hb142, hb_131⟩ | ⟨hb142, hb_131⟩
              · rw [hb142]
                have p142 := of_decide_eq_true hb142
                refine seg 10 [.co [1, 0, 1, 0, 0, 1, 0, 0, 1, 1, 0, 1], .bl 1, .co [1, 0, 1, 0, 0, 1, 1], .le 1, .bl 0, .le 0, .co [1, 1]] [(2, .bool false)] (by kernel_rfl) ?_
                refine retR [2] [.bool false] (by kernel_rfl) (by kernel_rfl) (by kernel_rfl) ?_
                have hret := (hfr105 _ (hfin131 _ (Option.some.inj hb_131).symm).symm)
                subst hret
                exact ⟨_, rfl, rfl, H.scalar⟩
              · rw [hb142]
                have p142 := of_decide_eq_false hb142
                refine seg 1 [.op [1, 0, 1, 0, 0, 1, 0, 0, 1, 0] 25, .co [1, 0, 1, 0, 0, 1, 0, 0, 1, 1], .bl 1, .co [1, 0, 1, 0, 0, 1, 1], .le 1, .bl 0, .le 0, .co [1, 1]] [(0, .slice A0_0 l_.length c0_0), (3, .int .i64 (i : Int)), (38, .bool false), (39, .pointer (some (⟨g136, 2, none⟩)))] (by kernel_rfl) ?_
                refine st (ldR (some 40) 3 (⟨g136, 2, none⟩) (.int .i64 x_.Plain) (by kernel_rfl) (by kernel_rfl) (H.cellB 0 rfl rfl) ?_)
                refine seg 3 [.co [1, 0, 1, 0, 0, 1, 0, 0, 1, 1], .bl 1, .co [1, 0, 1, 0, 0, 1, 1], .le 1, .bl 0, .le 0, .co [1, 1]] [(0, .slice A0_0 l_.length c0_0), (3, .int .i64 (i : Int)), (42, .bool (decide (x_.Plain > 1048576)))] (by kernel_rfl) ?_
                rcases condT hb_131 with ⟨hb143, hb_131⟩ | ⟨hb143, hb_131⟩
                · rw [hb143]
                  have p143 := of_decide_eq_true hb143
                  refine seg 5 [.co [1, 0, 1, 0, 0, 1, 0, 0, 1, 1, 0, 1], .bl 1, .co [1, 0, 1, 0, 0, 1, 1], .le 1, .bl 0, .le 0, .co [1, 1]] [(2, .bool false)] (by kernel_rfl) ?_
                  refine retR [2] [.bool false] (by kernel_rfl) (by kernel_rfl) (by kernel_rfl) ?_
                  have hret := (hfr105 _ (hfin131 _ (Option.some.inj hb_131).symm).symm)
                  subst hret
                  exact ⟨_, rfl, rfl, H.scalar⟩
                · rw [hb143]
                  have p143 := of_decide_eq_false hb143
                  refine seg 8 [.le 1, .bl 0, .le 0, .co [1, 1]] [(0, .slice A0_0 l_.length c0_0), (3, .int .i64 (IntKind.i64.wrap ((i : Int) + 1)))] (by kernel_rfl) ?_
                  have := s0_0.bound
                  rw [show IntKind.i64.wrap ((i : Int) + 1) = ((i : Int) + 1) from w64 (by omega)]
                  refine leR (nk131, (i + 1)) (Nat.lt_succ_self _) ⟨hnx131 _ (Option.some.inj hb_131).symm, (St.takeN 0 H)⟩ (by kernel_rfl)
    · rw [hb133]
      have p133 := of_decide_eq_false hb133
      refine seg 2 [.le 0, .co [1, 1]] [(0, .slice A0_0 l_.length c0_0)] (by kernel_rfl) ?_
      refine leR_up (k' := []) (by rfl) ?_
      refine leJ () ⟨(hfin131 _ (Option.some.inj hb_131).symm).symm, H⟩ (by kernel_rfl)
  rintro _ wj105 ⟨hy105, H⟩
  have hf := hfl105 _ hy105
  try dsimp only at hf
  refine seg 7 [.co [1, 1, 1]] [(2, .bool (decide ((l_.length : Int) ≤ 65536)))] (by kernel_rfl) ?_
  refine retR [2] [.bool (decide ((l_.length : Int) ≤ 65536))] (by kernel_rfl) (by kernel_rfl) (by kernel_rfl) ?_
  obtain rfl : (decide ((l_.length : Int) ≤ 65536)) = r := (Option.some.inj hf)
  exact ⟨_, rfl, rfl, H.scalar⟩
theorem table_DecodeFrags_1_c {m : Mem} {w : World} (hm : Has m w) (g0 : Nat) (r_ : TFieldReader) (A0_0 : Option Addr) (c0_0 : Nat) (s0_0 : SlI rU8 m A0_0 c0_0 r_.f_b) {F : Nat → Prop} (hsep : Sep m w [blkI g0 [.slice A0_0 r_.f_b.length c0_0, .int .i64 r_.f_at, .int .i64 r_.f_e] 114] F) (hF : ∀ k, F k → m k = none) {r : (TApiFrag × TFieldReader)} (hf : table_DecodeFrags_1 r_ = some r) :
    Calls Try.prog 57 #[.pointer (some (⟨g0, 0, none⟩))] w fun e w' => ∃ v, e = .returned v ∧ ∃ Az_o0_0 : Option Addr, ∃ cz_o0_0 : Nat, ∃ m' : Mem, v = .agg #[.int .i64 r.1.At, .int .i64 r.1.Word, .int .i64 r.1.Plain] ∧ St w F m m' [blkI g0 [.slice Az_o0_0 r.2.f_b.length cz_o0_0, .int .i64 r.2.f_at, .int .i64 r.2.f_e] 114] w' ∧ SlI rU8 m' Az_o0_0 cz_o0_0 r.2.f_b := by
  unfold table_DecodeFrags_1 at hf
  have H := St.start hm hsep hF
  refine callsR Try.func57 (by kernel_rfl) (by kernel_rfl) ?_
  refine seg 2 [.op [0] 0, .co [1]] [(0, .pointer (some (⟨g0, 0, none⟩)))] (by kernel_rfl) ?_
  refine st (newS (some 2) (fun g => .pointer (some ⟨g, 0, none⟩)) [.int .i64 0, .int .i64 0, .int .i64 0] 88 H (by kernel_rfl) ?_)
  intro g1 w1 H
  refine seg 4 [.op [1, 0] 1, .co [1, 1]] [(0, .pointer (some (⟨g0, 0, none⟩))), (2, .pointer (some (⟨g1, 0, none⟩))), (4, .pointer (some (⟨g0, 0, none⟩)))] (by kernel_rfl) ?_
  obtain ⟨num, h_num, hf⟩ := bindE hf
  obtain ⟨F2, hse2, hFn2, hcl2⟩ := St.call [blkI g0 [.slice A0_0 r_.f_b.length c0_0, .int .i64 r_.f_at, .int .i64 r_.f_e] 114] (H.pull 1 rfl)
  refine st (callR (some 5) 38 #[.pointer (some (⟨g0, 0, none⟩)), .int .i64 4] Try.call38 (field_Reader_Num_c H.has g0 r_ A0_0 c0_0 s0_0 4 hse2 hFn2 h_num) (by kernel_rfl) ?_)
  rintro _ w2 ⟨A2_o0_0, c2_o0_0, mk2, rfl, hS2, hs2_0⟩
  have hsub2 := hS2.sub
  replace H := hcl2 _ _ _ hS2
  refine seg 2 [.op [1, 0] 4, .co [1, 1]] [(0, .pointer (some (⟨g0, 0, none⟩))), (2, .pointer (some (⟨g1, 0, none⟩))), (7, .agg #[.int .i64 (IntKind.i64.wrap (num.1.toNat : Int)), .int .i64 0, .int .i64 0])] (by kernel_rfl) ?_
  refine st (newS (some 3) (fun g => .pointer (some ⟨g, 0, none⟩)) [.int .i64 0, .int .i64 0, .int .i64 0] 88 H (by kernel_rfl) ?_)
  intro g3 w3 H
  refine st (stAggS none 88 0 g3 0 [.int .i64 (IntKind.i64.wrap (num.1.toNat : Int)), .int .i64 0, .int .i64 0] [.int .i64 0, .int .i64 0, .int .i64 0] [.int .i64 (IntKind.i64.wrap (num.1.toNat : Int)), .int .i64 0, .int .i64 0] 88 H rfl (by kernel_rfl) (by kernel_rfl) (by rfl) (of_decide_eq_true rfl) rfl ?_)
  intro w4 H
  refine seg 4 [.op [1, 1, 0] 1, .co [1, 1, 1]] [(0, .pointer (some (⟨g0, 0, none⟩))), (2, .pointer (some (⟨g1, 0, none⟩))), (3, .pointer (some (⟨g3, 0, none⟩))), (8, .pointer (some (⟨g0, 0, none⟩)))] (by kernel_rfl) ?_
  replace H : St w F m mk2 [blkI g3 [.int .i64 (IntKind.i64.wrap (num.1.toNat : Int)), .int .i64 0, .int .i64 0] 88, blkI g0 [.slice A2_o0_0 num.2.f_b.length c2_o0_0, .int .i64 num.2.f_at, .int .i64 num.2.f_e] 114, blkI g1 [.int .i64 0, .int .i64 0, .int .i64 0] 88] w4 := H
  obtain ⟨num1, h_num1, hf⟩ := bindE hf
  obtain ⟨F5, hse5, hFn5, hcl5⟩ := St.call [blkI g0 [.slice A2_o0_0 num.2.f_b.length c2_o0_0, .int .i64 num.2.f_at, .int .i64 num.2.f_e] 114] (H.pull 1 rfl)
  refine st (callR (some 9) 38 #[.pointer (some (⟨g0, 0, none⟩)), .int .i64 4] Try.call38 (field_Reader_Num_c H.has g0 num.2 A2_o0_0 c2_o0_0 hs2_0 4 hse5 hFn5 h_num1) (by kernel_rfl) ?_)
  rintro _ w5 ⟨A5_o0_0, c5_o0_0, mk5, rfl, hS5, hs5_0⟩
  have hsub5 := hS5.sub
  replace H := hcl5 _ _ _ hS5
  refine seg 2 [.op [1, 1, 0] 4, .co [1, 1, 1]] [(0, .pointer (some (⟨g0, 0, none⟩))), (2, .pointer (some (⟨g1, 0, none⟩))), (3, .pointer (some (⟨g3, 0, none⟩))), (10, .int .i64 (IntKind.i64.wrap (num1.1.toNat : Int))), (11, .pointer (some (⟨g3, 1, none⟩)))] (by kernel_rfl) ?_
  refine st (stS none 3 1 g3 1 (.int .i64 (IntKind.i64.wrap (num1.1.toNat : Int))) [.int .i64 (IntKind.i64.wrap (num.1.toNat : Int)), .int .i64 0, .int .i64 0] 88 H rfl (by kernel_rfl) (by kernel_rfl) rfl (of_decide_eq_true rfl) ?_)
  intro w6 H
  refine seg 4 [.op [1, 1, 1, 0] 1, .co [1, 1, 1, 1]] [(2, .pointer (some (⟨g1, 0, none⟩))), (3, .pointer (some (⟨g3, 0, none⟩))), (12, .pointer (some (⟨g0, 0, none⟩)))] (by kernel_rfl) ?_
  obtain ⟨num2, h_num2, hf⟩ := bindE hf
  obtain ⟨F7, hse7, hFn7, hcl7⟩ := St.call [blkI g0 [.slice A5_o0_0 num1.2.f_b.length c5_o0_0, .int .i64 num1.2.f_at, .int .i64 num1.2.f_e] 114] H
  refine st (callR (some 13) 38 #[.pointer (some (⟨g0, 0, none⟩)), .int .i64 4] Try.call38 (field_Reader_Num_c H.has g0 num1.2 A5_o0_0 c5_o0_0 hs5_0 4 hse7 hFn7 h_num2) (by kernel_rfl) ?_)
  rintro _ w7 ⟨A7_o0_0, c7_o0_0, mk7, rfl, hS7, hs7_0⟩
  have hsub7 := hS7.sub
  replace H := hcl7 _ _ _ hS7
  refine seg 2 [.op [1, 1, 1, 0] 4, .co [1, 1, 1, 1]] [(2, .pointer (some (⟨g1, 0, none⟩))), (3, .pointer (some (⟨g3, 0, none⟩))), (14, .int .i64 (IntKind.i64.wrap (num2.1.toNat : Int))), (15, .pointer (some (⟨g3, 2, none⟩)))] (by kernel_rfl) ?_
  refine st (stS none 3 1 g3 2 (.int .i64 (IntKind.i64.wrap (num2.1.toNat : Int))) [.int .i64 (IntKind.i64.wrap (num.1.toNat : Int)), .int .i64 (IntKind.i64.wrap (num1.1.toNat : Int)), .int .i64 0] 88 H rfl (by kernel_rfl) (by kernel_rfl) rfl (of_decide_eq_true rfl) ?_)
  intro w9 H
  refine seg 3 [.op [1, 1, 1, 1, 0] 0, .co [1, 1, 1, 1, 1]] [(2, .pointer (some (⟨g1, 0, none⟩))), (3, .pointer (some (⟨g3, 0, none⟩)))] (by kernel_rfl) ?_
  replace H : St w F m mk7 [blkI g0 [.slice A7_o0_0 num2.2.f_b.length c7_o0_0, .int .i64 num2.2.f_at, .int .i64 num2.2.f_e] 114, blkI g3 [.int .i64 (IntKind.i64.wrap (num.1.toNat : Int)), .int .i64 (IntKind.i64.wrap (num1.1.toNat : Int)), .int .i64 (IntKind.i64.wrap (num2.1.toNat : Int))] 88, blkI g1 [.int .i64 0, .int .i64 0, .int .i64 0] 88] w9 := H
  refine st (ldAggR (some 16) 88 (⟨g3, 0, none⟩) [.int .i64 (IntKind.i64.wrap (num.1.toNat : Int)), .int .i64 (IntKind.i64.wrap (num1.1.toNat : Int)), .int .i64 (IntKind.i64.wrap (num2.1.toNat : Int))] (by kernel_rfl) (by kernel_rfl) (H.cellsB 1 rfl (by rfl)) ?_)
  refine st (stAggS none 88 2 g1 0 [.int .i64 (IntKind.i64.wrap (num.1.toNat : Int)), .int .i64 (IntKind.i64.wrap (num1.1.toNat : Int)), .int .i64 (IntKind.i64.wrap (num2.1.toNat : Int))] [.int .i64 0, .int .i64 0, .int .i64 0] [.int .i64 (IntKind.i64.wrap (num.1.toNat : Int)), .int .i64 (IntKind.i64.wrap (num1.1.toNat : Int)), .int .i64 (IntKind.i64.wrap (num2.1.toNat : Int))] 88 H rfl (by kernel_rfl) (by kernel_rfl) (by rfl) (of_decide_eq_true rfl) rfl ?_)
  intro w10 H
  refine seg 1 [.co [1, 1, 1, 1, 1]] [(2, .pointer (some (⟨g1, 0, none⟩)))] (by kernel_rfl) ?_
  refine retC [.agg #[.int .i64 (IntKind.i64.wrap (num.1.toNat : Int)), .int .i64 (IntKind.i64.wrap (num1.1.toNat : Int)), .int .i64 (IntKind.i64.wrap (num2.1.toNat : Int))]] (by kernel_rfl) ⟨⟨_, rfl, ldv_agg 88 (⟨g1, 0, none⟩) [.int .i64 (IntKind.i64.wrap (num.1.toNat : Int)), .int .i64 (IntKind.i64.wrap (num1.1.toNat : Int)), .int .i64 (IntKind.i64.wrap (num2.1.toNat : Int))] (by kernel_rfl) (H.cellsB 2 rfl (by rfl))⟩, trivial⟩ ?_
  obtain rfl : (({ At := (IntKind.i64.wrap (num.1.toNat : Int)), Word := (IntKind.i64.wrap (num1.1.toNat : Int)), Plain := (IntKind.i64.wrap (num2.1.toNat : Int)) } : TApiFrag), num2.2) = r := (Option.some.inj hf)
  exact ⟨_, rfl, A7_o0_0, c7_o0_0, mk7, rfl, (St.takeN 1 H), hs7_0⟩
theorem table_read1_c {m : Mem} {w : World} (hm : Has m w) (b : (List UInt8)) (A0_0 : Option Addr) (c0_0 : Nat) (s0_0 : SlI rU8 m A0_0 c0_0 b) (size : Int) {r : ((List TApiFrag) × Bool)} (hf : table_read1 b size = some r) :
    Calls Try.prog 56 #[.slice A0_0 b.length c0_0, .int .i64 size, .func (.func 57) #[] #[]] w fun e w' => ∃ v, e = .returned v ∧ ∃ Az_0 : Option Addr, ∃ cz_0 : Nat, ∃ m' : Mem, v = .tuple #[.slice Az_0 r.1.length cz_0, .bool r.2] ∧ St w noF m m' [rowI rApiFrag 88 Az_0 cz_0 r.1] w' := by
  unfold table_read1 at hf
  have H := St.start0 hm
  refine callsR Try.func56 (by kernel_rfl) (by kernel_rfl) ?_
  refine seg 11 [.op [1, 0, 0] 3, .co [1, 0, 1], .co [1, 1]] [(0, .slice A0_0 b.length c0_0), (1, .int .i64 size), (2, .func (.func 57) #[] #[]), (11, .int .i64 (b.length : Int)), (12, .int .i64 size)] (by kernel_rfl) ?_
  obtain ⟨hc4, hf⟩ := chkE hf
  refine st (runR (by kernel_rfl : fetch _ _ _ _ _ = some ((some 13), vS (Op.intDiv .rem .i64 (b.length : Int) size))) (rem_run .i64 (b.length : Int) size (of_decide_eq_true hc4)) ?_)
  refine seg 2 [.op [1, 0, 0] 6, .co [1, 0, 1], .co [1, 1]] [(0, .slice A0_0 b.length c0_0), (1, .int .i64 size), (2, .func (.func 57) #[] #[]), (15, .bool ((Int.tmod (b.length : Int) size) != 0))] (by kernel_rfl) ?_
  rcases condT hf with ⟨hb5, hf⟩ | ⟨hb5, hf⟩
  · rw [hb5]
    refine seg 13 [.co [1, 0, 1, 0, 1], .co [1, 1]] [(6, .slice none 0 0), (7, .bool false)] (by kernel_rfl) ?_
    have H := H.nilR rApiFrag 88
    refine retR [6, 7] [.slice none 0 0, .bool false] (by kernel_rfl) (by kernel_rfl) (by kernel_rfl) ?_
    obtain rfl : ([], false) = r := (Option.some.inj hf)
    exact ⟨_, rfl, none, 0, m, rfl, H⟩
  · rw [hb5]
    refine seg 3 [.op [1, 0, 0] 9, .co [1, 0, 1], .co [1, 1]] [(0, .slice A0_0 b.length c0_0), (2, .func (.func 57) #[] #[]), (15, .bool false), (17, .int .i64 (b.length : Int)), (18, .int .i64 size)] (by kernel_rfl) ?_
    obtain ⟨hc6, hf⟩ := chkE hf
    refine st (runR (by kernel_rfl : fetch _ _ _ _ _ = some ((some 19), vS (Op.intDiv .quo .i64 (b.length : Int) size))) (quo_run .i64 (b.length : Int) size (of_decide_eq_true hc6)) ?_)
    refine seg 3 [.co [1, 0, 1], .co [1, 1]] [(0, .slice A0_0 b.length c0_0), (2, .func (.func 57) #[] #[]), (21, .bool (decide ((IntKind.i64.wrap (Int.tdiv (b.length : Int) size)) > 65536)))] (by kernel_rfl) ?_
    rcases condT hf with ⟨hb9, hf⟩ | ⟨hb9, hf⟩
    · rw [hb9]
      have p9 := of_decide_eq_true hb9
      refine seg 6 [.co [1, 0, 1, 0, 1], .co [1, 1]] [(6, .slice none 0 0), (7, .bool false)] (by kernel_rfl) ?_
      have H := H.nilR rApiFrag 88
      refine retR [6, 7] [.slice none 0 0, .bool false] (by kernel_rfl) (by kernel_rfl) (by kernel_rfl) ?_
      obtain rfl : ([], false) = r := (Option.some.inj hf)
      exact ⟨_, rfl, none, 0, m, rfl, H⟩
    · rw [hb9]
      have p9 := of_decide_eq_false hb9
      refine seg 5 [.op [1, 1, 0] 1, .co [1, 1, 1]] [(2, .func (.func 57) #[] #[]), (22, .slice A0_0 b.length c0_0)] (by kernel_rfl) ?_
      obtain ⟨newRea, h_newRea, hf⟩ := bindE hf
      refine st (callR (some 23) 47 #[.slice A0_0 b.length c0_0] Try.call47 (field_NewReader_c H.has b A0_0 c0_0 s0_0 h_newRea) (by kernel_rfl) ?_)
      rintro _ w10 ⟨g10_0, A10_0_0, c10_0_0, mk10, rfl, hS10, hs10_0⟩
      have hsub10 := hS10.sub
      replace H := H.call0 hS10
      refine seg 7 [.co [1, 1, 1, 1, 0], .co [1, 1, 1, 1, 1]] [(2, .func (.func 57) #[] #[]), (8, .pointer (some (⟨g10_0, 0, none⟩))), (9, .slice none 0 0)] (by kernel_rfl) ?_
      obtain ⟨y53, hp53, hf⟩ := bindE hf
      refine joinR 0 (fun (x : (List TApiFrag) × Option Addr × Nat × Mem) => [(9, .slice (x.2.1) x.1.length (x.2.2.1))]) (fun (x : (List TApiFrag) × Option Addr × Nat × Mem) (wj53 : World) => y53 = x.1 ∧ St w noF m x.2.2.2 [rowI rApiFrag 88 (x.2.1) (x.2.2.1) x.1] wj53 ∧ Sub mk10 x.2.2.2) (by kernel_rfl) ?_ ?_
      · refine seg 1 [.co [1, 1, 1, 1, 0, 0], .bl 0, .le 0, .co [1, 1, 1, 1, 1]] [(2, .func (.func 57) #[] #[]), (8, .pointer (some (⟨g10_0, 0, none⟩))), (9, .slice none 0 0)] (by kernel_rfl) ?_
        have H := H.nilR rApiFrag 88
        obtain ⟨nn68, hR68⟩ := loopO_iff.1 hp53
        refine loopR 1 (fun (x : Nat × (List UInt8) × Int × Int × (List TApiFrag) × Option Addr × Nat × Option Addr × Nat × Mem) => [(2, .func (.func 57) #[] #[]), (8, .pointer (some (⟨g10_0, 0, none⟩))), (9, .slice (x.2.2.2.2.2.2.2.1) x.2.2.2.2.1.length (x.2.2.2.2.2.2.2.2.1))]) (fun (x : Nat × (List UInt8) × Int × Int × (List TApiFrag) × Option Addr × Nat × Option Addr × Nat × Mem) (wl68 : World) => iter (fun s => table_read1_l1 s.1 s.2.1 s.2.2.1 s.2.2.2) x.1 (x.2.1, x.2.2.1, x.2.2.2.1, x.2.2.2.2.1) = some y53 ∧ St w noF m x.2.2.2.2.2.2.2.2.2 [blkI g10_0 [.slice (x.2.2.2.2.2.1) x.2.1.length (x.2.2.2.2.2.2.1), .int .i64 x.2.2.1, .int .i64 x.2.2.2.1] 114, rowI rApiFrag 88 (x.2.2.2.2.2.2.2.1) (x.2.2.2.2.2.2.2.2.1) x.2.2.2.2.1] wl68 ∧ Sub mk10 x.2.2.2.2.2.2.2.2.2 ∧ SlI rU8 x.2.2.2.2.2.2.2.2.2 x.2.2.2.2.2.1 x.2.2.2.2.2.2.1 x.2.1) (fun (x : Nat × (List UInt8) × Int × Int × (List TApiFrag) × Option Addr × Nat × Option Addr × Nat × Mem) => x.1) (nn68, newRea.f_b, newRea.f_at, newRea.f_e, [], A10_0_0, c10_0_0, none, 0, mk10) (by kernel_rfl) (by kernel_rfl) (by kernel_rfl) ?_ ?_
        · exact ⟨hR68, (H.pull 1 rfl), (Sub.refl _), hs10_0⟩
        rintro ⟨n68, b1, at_, e_, out, A_1_69, c_2_69, A_3_69, c_4_69, mm69⟩ wl68 ⟨hR68, H, hsub69, hs69_0⟩
        try dsimp only at hR68
        try dsimp only at H
        try dsimp only at hsub69
        try dsimp only at hs69_0
        obtain ⟨nk68, q68, rfl, hb_68, hnx68, hfin68⟩ := iterE hR68
        replace hb_68 : table_read1_l1 b1 at_ e_ out = some q68 := hb_68
        unfold table_read1_l1 at hb_68
        refine seg 4 [.op [1, 1, 1, 1, 0, 0, 0, 0, 0] 1, .co [1, 1, 1, 1, 0, 0, 0, 0, 1], .co [1, 1, 1, 1, 0, 0, 0, 1], .le 1, .bl 0, .le 0, .co [1, 1, 1, 1, 1]] [(2, .func (.func 57) #[] #[]), (8, .pointer (some (⟨g10_0, 0, none⟩))), (9, .slice A_3_69 out.length c_4_69), (24, .pointer (some (⟨g10_0, 0, none⟩)))] (by kernel_rfl) ?_
        replace H : St w noF m mm69 [blkI g10_0 [.slice A_1_69 b1.length c_2_69, .int .i64 at_, .int .i64 e_] 114, rowI rApiFrag 88 A_3_69 c_4_69 out] wl68 := H
        obtain ⟨left, h_left, hb_68⟩ := bindE hb_68
        obtain ⟨F70, hse70, hFn70, hcl70⟩ := St.call [blkI g10_0 [.slice A_1_69 b1.length c_2_69, .int .i64 at_, .int .i64 e_] 114] H
        refine st (callR (some 25) 67 #[.pointer (some (⟨g10_0, 0, none⟩))] Try.call67 (field_Reader_Left_c H.has g10_0 ({ f_b := b1, f_at := at_, f_e := e_ } : TFieldReader) A_1_69 c_2_69 hs69_0 hse70 hFn70 h_left) (by kernel_rfl) ?_)
        rintro _ w70 ⟨mk70, rfl, hS70⟩
        have hsub70 := hS70.sub
        replace H := hcl70 _ _ _ hS70
        refine seg 2 [.co [1, 1, 1, 1, 0, 0, 0, 0, 1], .co [1, 1, 1, 1, 0, 0, 0, 1], .le 1, .bl 0, .le 0, .co [1, 1, 1, 1, 1]] [(2, .func (.func 57) #[] #[]), (8, .pointer (some (⟨g10_0, 0, none⟩))), (9, .slice A_3_69 out.length c_4_69), (26, .bool (decide (left > 0)))] (by kernel_rfl) ?_
        rcases condT hb_68 with ⟨hb71, hb_68⟩ | ⟨hb71, hb_68⟩
        · rw [hb71]
          have p71 := of_decide_eq_true hb71
          refine seg 7 [.op [1, 1, 1, 1, 0, 0, 0, 1, 0] 3, .bl 1, .le 1, .bl 0, .le 0, .co [1, 1, 1, 1, 1]] [(2, .func (.func 57) #[] #[]), (8, .pointer (some (⟨g10_0, 0, none⟩))), (27, .slice A_3_69 out.length c_4_69), (28, .func (.func 57) #[] #[]), (29, .pointer (some (⟨g10_0, 0, none⟩)))] (by kernel_rfl) ?_
          obtain ⟨decode, h_decode, hb_68⟩ := bindE hb_68
          obtain ⟨F72, hse72, hFn72, hcl72⟩ := St.call [blkI g10_0 [.slice A_1_69 b1.length c_2_69, .int .i64 at_, .int .i64 e_] 114] H
          refine st (callR (some 30) 57 #[.pointer (some (⟨g10_0, 0, none⟩))] Try.call57 (table_DecodeFrags_1_c H.has g10_0 ({ f_b := b1, f_at := at_, f_e := e_ } : TFieldReader) A_1_69 c_2_69 (hs69_0.mono hsub70) hse72 hFn72 h_decode) (by kernel_rfl) ?_)
          rintro _ w72 ⟨A72_o0_0, c72_o0_0, mk72, rfl, hS72, hs72_0⟩
          have hsub72 := hS72.sub
          replace H := hcl72 _ _ _ hS72
          refine st (newS (some 31) (fun g => .slice (some ⟨g, 0, none⟩) 1 1) [.int .i64 decode.1.At, .int .i64 decode.1.Word, .int .i64 decode.1.Plain] 88 H (by kernel_rfl) ?_)
          intro g73 w73 H
          obtain ⟨b2, h_b2, hb_68⟩ := bindE hb_68
          refine st (appS (r := rApiFrag) (some 32) 54 88 24 (.agg #[.int .i64 0, .int .i64 0, .int .i64 0]) 54 2 A_3_69 (some ⟨g73, 0, none⟩) c_4_69 1 1 out [decode.1] b2 _ H rfl ⟨Try.underlying54, by kernel_rfl⟩ rfl (by decide) (by kernel_rfl) (Cs.of_blk (H.blk 0 rfl)) (Rows.cons (cs := [.int .i64 decode.1.At, .int .i64 decode.1.Word, .int .i64 decode.1.Plain]) rfl Rows.nil) rfl h_b2 (by decide) (by decide) ?_)
          intro A74 c74 w74 H
          replace H := H.drop 0 rfl
          refine seg 3 [.le 1, .bl 0, .le 0, .co [1, 1, 1, 1, 1]] [(2, .func (.func 57) #[] #[]), (8, .pointer (some (⟨g10_0, 0, none⟩))), (9, .slice A74 b2.length c74)] (by kernel_rfl) ?_
          refine leR (nk68, decode.2.f_b, decode.2.f_at, decode.2.f_e, b2, A72_o0_0, c72_o0_0, A74, c74, mk72) (Nat.lt_succ_self _) ⟨hnx68 _ (Option.some.inj hb_68).symm, H, ((hsub69.trans hsub70).trans hsub72), hs72_0⟩ (by kernel_rfl)
        · rw [hb71]
          have p71 := of_decide_eq_false hb71
          refine seg 2 [.le 0, .co [1, 1, 1, 1, 1]] [(9, .slice A_3_69 out.length c_4_69)] (by kernel_rfl) ?_
          refine leR_up (k' := []) (by rfl) ?_
          refine leJ (out, A_3_69, c_4_69, mk70) ⟨(hfin68 _ (Option.some.inj hb_68).symm).symm, (St.takeN 1 (H.pull 1 rfl)), (hsub69.trans hsub70)⟩ (by kernel_rfl)
      rintro ⟨out, A_1_54, c_2_54, mm54⟩ wj53 ⟨hy53, H, hsub54⟩
      try dsimp only at hy53
      try dsimp only at H
      try dsimp only at hsub54
      rw [hy53] at hf
      refine seg 6 [.co [1, 1, 1, 1, 1, 1]] [(6, .slice A_1_54 out.length c_2_54), (7, .bool true)] (by kernel_rfl) ?_
      refine retR [6, 7] [.slice A_1_54 out.length c_2_54, .bool true] (by kernel_rfl) (by kernel_rfl) (by kernel_rfl) ?_
      obtain rfl : (out, true) = r := (Option.some.inj hf)
      exact ⟨_, rfl, A_1_54, c_2_54, mm54, rfl, H⟩
theorem bytes_Equal_c {m : Mem} {w : World} (hm : Has m w) (a : (List UInt8)) (A0_0 : Option Addr) (c0_0 : Nat) (s0_0 : SlI rU8 m A0_0 c0_0 a) (b : (List UInt8)) (A1_0 : Option Addr) (c1_0 : Nat) (s1_0 : SlI rU8 m A1_0 c1_0 b) :
    Calls Try.prog 58 #[.slice A0_0 a.length c0_0, .slice A1_0 b.length c1_0] w fun e w' => ∃ v, e = .returned v ∧ v = .bool (bytes_Equal a b) ∧ Ex w w' := by
  generalize hf : bytes_Equal a b = r
  unfold bytes_Equal at hf
  have H := St.start0 hm
  refine callsR Try.func58 (by kernel_rfl) (by kernel_rfl) ?_
  refine seg 7 [.op [1, 0] 1, .co [1, 1]] [(1, .slice A1_0 b.length c1_0), (5, .slice A0_0 a.length c0_0)] (by kernel_rfl) ?_
  refine st (b2sS (some 6) 29 9 5 A0_0 c0_0 a Try.underlying29 Try.underlying5 Try.underlying9 (by kernel_rfl) (s0_0.bytes.cs H.has) ?_)
  have hl1 : a.length ≤ 9223372036854775807 := s0_0.bound
  refine seg 1 [.op [1, 0] 3, .co [1, 1]] [(6, .string ⟨a.toArray⟩), (7, .slice A1_0 b.length c1_0)] (by kernel_rfl) ?_
  refine st (b2sS (some 8) 29 9 5 A1_0 c1_0 b Try.underlying29 Try.underlying5 Try.underlying9 (by kernel_rfl) (s1_0.bytes.cs H.has) ?_)
  have hl2 : b.length ≤ 9223372036854775807 := s1_0.bound
  refine seg 3 [.co [1, 1]] [(4, .bool ((ByteArray.toList ⟨a.toArray⟩) == (ByteArray.toList ⟨b.toArray⟩)))] (by kernel_rfl) ?_
  rw [seq_raw a b]
  refine retR [4] [.bool (a == b)] (by kernel_rfl) (by kernel_rfl) (by kernel_rfl) ?_
  obtain rfl : (a == b) = r := hf
  exact ⟨_, rfl, rfl, H.scalar⟩
theorem table_DecodeFrags_c {m : Mem} {w : World} (hm : Has m w) (b : (List UInt8)) (A0_0 : Option Addr) (c0_0 : Nat) (s0_0 : SlI rU8 m A0_0 c0_0 b) {r : ((List TApiFrag) × Int)} (hf : table_DecodeFrags b = some r) :
    Calls Try.prog 27 #[.slice A0_0 b.length c0_0] w fun e w' => ∃ v, e = .returned v ∧ ∃ Az_0 : Option Addr, ∃ cz_0 : Nat, ∃ m' : Mem, v = .tuple #[.slice Az_0 r.1.length cz_0, .int .i64 r.2] ∧ St w noF m m' [rowI rApiFrag 88 Az_0 cz_0 r.1] w' := by
  unfold table_DecodeFrags at hf
  have H := St.start0 hm
  refine callsR Try.func27 (by kernel_rfl) (by kernel_rfl) ?_
  refine seg 8 [.op [1, 0] 1, .co [1, 1]] [(0, .slice A0_0 b.length c0_0), (9, .slice A0_0 b.length c0_0)] (by kernel_rfl) ?_
  obtain ⟨frag, h_frag, hf⟩ := bindE hf
  refine st (callR (some 10) 56 #[.slice A0_0 b.length c0_0, .int .i64 12, .func (.func 57) #[] #[]] Try.call56 (table_read1_c H.has b A0_0 c0_0 s0_0 12 h_frag) (by kernel_rfl) ?_)
  rintro _ w1 ⟨A1_0, c1_0, mk1, rfl, hS1⟩
  have hsub1 := hS1.sub
  replace H := H.call0 hS1
  refine seg 10 [.op [1, 1, 0, 0] 1, .co [1, 1, 0, 1], .co [1, 1, 1]] [(0, .slice A0_0 b.length c0_0), (4, .slice A1_0 frag.1.length c1_0), (5, .bool frag.2), (14, .slice A1_0 frag.1.length c1_0)] (by kernel_rfl) ?_
  have H0_2 := H
  obtain ⟨mf3, hsub3, hsf3, H⟩ := H.fixR 0 rfl
  obtain ⟨encode, h_encode, hf⟩ := bindE hf
  refine st (callR (some 15) 25 #[.slice A1_0 frag.1.length c1_0] Try.call25 (table_EncodeFrags_c H.has frag.1 A1_0 c1_0 hsf3 h_encode) (by kernel_rfl) ?_)
  rintro _ w4 ⟨A4_0, c4_0, mk4, rfl, hS4⟩
  replace H := H0_2.callB hS4 ⟨rowI_ind (fun _ _ _ _ h => h), trivial⟩
  refine seg 11 [.op [1, 1, 0, 1, 0] 3, .co [1, 1, 0, 1, 1], .co [1, 1, 1]] [(0, .slice A0_0 b.length c0_0), (4, .slice A1_0 frag.1.length c1_0), (6, .slice A4_0 encode.1.length c4_0), (7, .int .i64 encode.2), (20, .bool (!frag.2))] (by kernel_rfl) ?_
  rcases condT hf with ⟨hb11, hf⟩ | ⟨hb11, hf⟩
  · rw [hb11]
    refine seg 4 [.op [1, 1, 0, 1, 0] 7, .co [1, 1, 0, 1, 1], .co [1, 1, 1]] [(0, .slice A0_0 b.length c0_0), (4, .slice A1_0 frag.1.length c1_0), (6, .slice A4_0 encode.1.length c4_0), (24, .bool (encode.2 != 0))] (by kernel_rfl) ?_
    rcases condT hf with ⟨hb12, hf⟩ | ⟨hb12, hf⟩
    · rw [hb12]
      refine seg 12 [.co [1, 1, 0, 1, 1, 0, 1], .co [1, 1, 1]] [(2, .slice none 0 0), (3, .int .i64 6)] (by kernel_rfl) ?_
      have H := H.nilR rApiFrag 88
      refine retR [2, 3] [.slice none 0 0, .int .i64 6] (by kernel_rfl) (by kernel_rfl) (by kernel_rfl) ?_
      obtain rfl : ([], 6) = r := (Option.some.inj hf)
      exact ⟨_, rfl, none, 0, mk1, rfl, (St.takeN 1 H)⟩
    · rw [hb12]
      refine seg 2 [.op [1, 1, 0, 1, 0] 9, .co [1, 1, 0, 1, 1], .co [1, 1, 1]] [(4, .slice A1_0 frag.1.length c1_0), (24, .bool false), (25, .slice A4_0 encode.1.length c4_0), (26, .slice A0_0 b.length c0_0)] (by kernel_rfl) ?_
      have H0_13 := H
      obtain ⟨mf14, hsub14, hsf14, H⟩ := H.fixR 0 rfl
      refine st (callR (some 27) 58 #[.slice A4_0 encode.1.length c4_0, .slice A0_0 b.length c0_0] Try.call58 (bytes_Equal_c H.has encode.1 A4_0 c4_0 hsf14 b A0_0 c0_0 (s0_0.mono (hsub1.trans hsub14))) (by kernel_rfl) ?_)
      rintro _ w15 ⟨rfl, hx15⟩
      replace H := H0_13.ex hx15
      refine seg 3 [.co [1, 1, 0, 1, 1], .co [1, 1, 1]] [(4, .slice A1_0 frag.1.length c1_0), (29, .bool (!(bytes_Equal encode.1 b)))] (by kernel_rfl) ?_
      rcases condT hf with ⟨hb18, hf⟩ | ⟨hb18, hf⟩
      · rw [hb18]
        refine seg 8 [.co [1, 1, 1, 1]] [(2, .slice A1_0 frag.1.length c1_0), (3, .int .i64 0)] (by kernel_rfl) ?_
        refine retR [2, 3] [.slice A1_0 frag.1.length c1_0, .int .i64 0] (by kernel_rfl) (by kernel_rfl) (by kernel_rfl) ?_
        obtain rfl : (frag.1, 0) = r := (Option.some.inj hf)
        exact ⟨_, rfl, A1_0, c1_0, mk1, rfl, (St.takeN 1 (H.pull 1 rfl))⟩
      · rw [hb18]
        refine seg 6 [.co [1, 1, 0, 1, 1, 0, 1], .co [1, 1, 1]] [(2, .slice none 0 0), (3, .int .i64 6)] (by kernel_rfl) ?_
        have H := H.nilR rApiFrag 88
        refine retR [2, 3] [.slice none 0 0, .int .i64 6] (by kernel_rfl) (by kernel_rfl) (by kernel_rfl) ?_
        obtain rfl : ([], 6) = r := (Option.some.inj hf)
        exact ⟨_, rfl, none, 0, mk1, rfl, (St.takeN 1 H)⟩
  · rw [hb11]
    refine seg 16 [.co [1, 1, 0, 1, 1, 0, 1], .co [1, 1, 1]] [(2, .slice none 0 0), (3, .int .i64 6)] (by kernel_rfl) ?_
    have H := H.nilR rApiFrag 88
    refine retR [2, 3] [.slice none 0 0, .int .i64 6] (by kernel_rfl) (by kernel_rfl) (by kernel_rfl) ?_
    obtain rfl : ([], 6) = r := (Option.some.inj hf)
    exact ⟨_, rfl, none, 0, mk1, rfl, (St.takeN 1 H)⟩
end Go.Proofs.Ytgoedcjjckdlpaa.F
