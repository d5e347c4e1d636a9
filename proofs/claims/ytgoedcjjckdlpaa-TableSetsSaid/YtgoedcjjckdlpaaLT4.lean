/- The code computes them: printed by lift.py, part 4. -/
import Derived.Test.YtgoedcjjckdlpaaProg
import Derived.Test.YtgoedcjjckdlpaaLTP
import Derived.Test.YtgoedcjjckdlpaaLT3
set_option linter.unusedVariables false
set_option linter.unusedSimpArgs false
namespace Go.Proofs.Ytgoedcjjckdlpaa.F
open Go Go.RowKit Go.Proofs.Ytgoedcjjckdlpaa Go.Proofs.Ytgoedcjjckdlpaa.K
set_option maxRecDepth 100000
theorem ref17_FragBytes_c {m : Mem} {w : World} (hm : Has m w) (l_ : (List TApiFrag)) (A0_0 : Option Addr) (c0_0 : Nat) (s0_0 : SlI rApiFrag m A0_0 c0_0 l_) {r : (List UInt8)} (hf : ref17_FragBytes l_ = some r) :
    Calls Try.prog 28 #[.slice A0_0 l_.length c0_0] w fun e w' => ∃ v, e = .returned v ∧ ∃ Az_0 : Option Addr, ∃ cz_0 : Nat, ∃ m' : Mem, v = .slice Az_0 r.length cz_0 ∧ St w noF m m' [rowI rU8 5 Az_0 cz_0 r] w' := by
  unfold ref17_FragBytes at hf
  have H := St.start0 hm
  refine callsR Try.func28 (by kernel_rfl) (by kernel_rfl) ?_
  refine seg 13 [.co [1, 1, 0, 1], .co [1, 1, 1]] [(0, .slice A0_0 l_.length c0_0), (3, .slice none 0 0), (4, .int .i64 0)] (by kernel_rfl) ?_
  obtain ⟨y106, hp106, hf⟩ := bindE hf
  refine joinR 0 (fun (x : (List UInt8) × Option Addr × Nat × Mem) => [(3, .slice (x.2.1) x.1.length (x.2.2.1))]) (fun (x : (List UInt8) × Option Addr × Nat × Mem) (wj106 : World) => y106 = x.1 ∧ St w noF m x.2.2.2 [rowI rU8 5 (x.2.1) (x.2.2.1) x.1] wj106 ∧ Sub m x.2.2.2) (by kernel_rfl) ?_ ?_
  · refine seg 1 [.co [1, 1, 0, 1, 0], .bl 0, .le 0, .co [1, 1, 1]] [(0, .slice A0_0 l_.length c0_0), (3, .slice none 0 0), (4, .int .i64 0)] (by kernel_rfl) ?_
    have H := H.nilR rU8 5
    obtain ⟨nn134, hR134⟩ := loopO_iff.1 hp106
    refine loopR 1 (fun (x : Nat × (List UInt8) × Nat × Option Addr × Nat × Mem) => [(0, .slice A0_0 l_.length c0_0), (3, .slice (x.2.2.2.1) x.2.1.length (x.2.2.2.2.1)), (4, .int .i64 (x.2.2.1 : Int))]) (fun (x : Nat × (List UInt8) × Nat × Option Addr × Nat × Mem) (wl134 : World) => iter (fun s => ref17_FragBytes_l1 l_ s.1 s.2) x.1 (x.2.1, x.2.2.1) = some y106 ∧ St w noF m x.2.2.2.2.2 [rowI rU8 5 (x.2.2.2.1) (x.2.2.2.2.1) x.2.1] wl134 ∧ Sub m x.2.2.2.2.2) (fun (x : Nat × (List UInt8) × Nat × Option Addr × Nat × Mem) => x.1) (nn134, [], 0, none, 0, m) (by kernel_rfl) (by kernel_rfl) (by kernel_rfl) ?_ ?_
    · exact ⟨hR134, H, (Sub.refl _)⟩
    rintro ⟨n134, b, i, A_1_135, c_2_135, mm135⟩ wl134 ⟨hR134, H, hsub135⟩
    try dsimp only at hR134
    try dsimp only at H
    try dsimp only at hsub135
    obtain ⟨nk134, q134, rfl, hb_134, hnx134, hfin134⟩ := iterE hR134
    replace hb_134 : ref17_FragBytes_l1 l_ b i = some q134 := hb_134
    unfold ref17_FragBytes_l1 at hb_134
    refine seg 8 [.co [1, 1, 0, 1, 0, 0, 0, 1], .co [1, 1, 0, 1, 0, 0, 1], .le 1, .bl 0, .le 0, .co [1, 1, 1]] [(0, .slice A0_0 l_.length c0_0), (3, .slice A_1_135 b.length c_2_135), (4, .int .i64 (i : Int)), (8, .bool (decide ((i : Int) < (l_.length : Int))))] (by kernel_rfl) ?_
    rcases condT hb_134 with ⟨hb136, hb_134⟩ | ⟨hb136, hb_134⟩
    · rw [hb136]
      have p136 := of_decide_eq_true hb136
      refine seg 4 [.co [1, 1, 0, 1, 0, 0, 1, 0, 0], .bl 1, .co [1, 1, 0, 1, 0, 0, 1, 1], .le 1, .bl 0, .le 0, .co [1, 1, 1]] [(0, .slice A0_0 l_.length c0_0), (3, .slice A_1_135 b.length c_2_135), (4, .int .i64 (i : Int))] (by kernel_rfl) ?_
      obtain ⟨x_, h_x_, hb_134⟩ := bindE hb_134
      obtain ⟨store, h_store, hb_134⟩ := bindE hb_134
      obtain ⟨b1, h_b1, hb_134⟩ := bindE hb_134
      obtain ⟨store1, h_store1, hb_134⟩ := bindE hb_134
      obtain ⟨b2, h_b2, hb_134⟩ := bindE hb_134
      obtain ⟨store2, h_store2, hb_134⟩ := bindE hb_134
      obtain ⟨b3, h_b3, hb_134⟩ := bindE hb_134
      have hst : statB (bodyOf Try.f28) [1, 1, 0, 1, 0, 0, 1, 0, 0] = true := by kernel_rfl
      refine drawS (Has mm135) H (by kernel_rfl) (by kernel_rfl) ?_
      intro w148 H
      refine segD2 hst [0, 1, 2, 9, 10, 17, 18] [0, 1, 2, 9, 10, 17, 18] [(0, .slice A0_0 l_.length c0_0), (4, .int .i64 (i : Int)), (11, .slice A_1_135 b.length c_2_135), (12, .slice A0_0 l_.length c0_0), (13, .int .i64 (i : Int)), (20, .slice A0_0 l_.length c0_0), (21, .int .i64 (i : Int)), (28, .slice A0_0 l_.length c0_0), (29, .int .i64 (i : Int))] (by kernel_rfl) ?_
      obtain ⟨ad149, _, ea149, rfl, hc149⟩ := (s0_0.mono hsub135).at_ h_x_ (by decide)
      refine takeD2 (i := 3) (d := (some 14)) (s := vS (Instr.indexAt 54 (.slice A0_0 l_.length c0_0) (.int .i64 (i : Int)))) (v := .pointer (some (ad149.add (i * 3)))) hst (by kernel_rfl) (by kernel_rfl) (fun w' hw' => idx_run 54 88 3 _ ad149 _ _ _ _ _ ea149 (by kernel_rfl) (by omega) (by have := (List.getElem?_eq_some_iff.1 h_x_).1; omega) rfl) ?_
      refine segD2 hst [4] [0, 1, 2, 9, 10, 17, 18, 3, 4] [(0, .slice A0_0 l_.length c0_0), (4, .int .i64 (i : Int)), (11, .slice A_1_135 b.length c_2_135), (15, .pointer (some (ad149.add (i * 3)))), (20, .slice A0_0 l_.length c0_0), (21, .int .i64 (i : Int)), (28, .slice A0_0 l_.length c0_0), (29, .int .i64 (i : Int))] (by kernel_rfl) ?_
      refine takeD2 (i := 5) (d := (some 16)) (s := vS (Instr.loadAt 3 (.pointer (some (ad149.add (i * 3)))))) (v := (.int .i64 x_.At)) hst (by kernel_rfl) (by kernel_rfl) (fun w' hw' => ld_run _ _ _ (by kernel_rfl) (hw'.cell (mc0 (hc149 0 _ rfl)))) ?_
      refine segD2 hst [6] [0, 1, 2, 9, 10, 17, 18, 3, 4, 5, 6] [(0, .slice A0_0 l_.length c0_0), (4, .int .i64 (i : Int)), (11, .slice A_1_135 b.length c_2_135), (17, .int .u64 (IntKind.u64.wrap x_.At)), (20, .slice A0_0 l_.length c0_0), (21, .int .i64 (i : Int)), (28, .slice A0_0 l_.length c0_0), (29, .int .i64 (i : Int))] (by kernel_rfl) ?_
      rw [q64_wrap x_.At]
      refine takeD2 (i := 11) (d := (some 22)) (s := vS (Instr.indexAt 54 (.slice A0_0 l_.length c0_0) (.int .i64 (i : Int)))) (v := .pointer (some (ad149.add (i * 3)))) hst (by kernel_rfl) (by kernel_rfl) (fun w' hw' => idx_run 54 88 3 _ ad149 _ _ _ _ _ ea149 (by kernel_rfl) (by omega) (by have := (List.getElem?_eq_some_iff.1 h_x_).1; omega) rfl) ?_
      refine segD2 hst [12] [0, 1, 2, 9, 10, 17, 18, 3, 4, 5, 6, 11, 12] [(0, .slice A0_0 l_.length c0_0), (4, .int .i64 (i : Int)), (11, .slice A_1_135 b.length c_2_135), (17, .int .u64 ((UInt64.ofInt x_.At).toNat : Int)), (23, .pointer (some ((ad149.add (i * 3)).add 1))), (28, .slice A0_0 l_.length c0_0), (29, .int .i64 (i : Int))] (by kernel_rfl) ?_
      refine takeD2 (i := 13) (d := (some 24)) (s := vS (Instr.loadAt 3 (.pointer (some ((ad149.add (i * 3)).add 1))))) (v := (.int .i64 x_.Word)) hst (by kernel_rfl) (by kernel_rfl) (fun w' hw' => ld_run _ _ _ (by kernel_rfl) (hw'.cell (hc149 1 _ rfl))) ?_
      refine segD2 hst [14] [0, 1, 2, 9, 10, 17, 18, 3, 4, 5, 6, 11, 12, 13, 14] [(0, .slice A0_0 l_.length c0_0), (4, .int .i64 (i : Int)), (11, .slice A_1_135 b.length c_2_135), (17, .int .u64 ((UInt64.ofInt x_.At).toNat : Int)), (25, .int .u64 (IntKind.u64.wrap x_.Word)), (28, .slice A0_0 l_.length c0_0), (29, .int .i64 (i : Int))] (by kernel_rfl) ?_
      rw [q64_wrap x_.Word]
      refine takeD2 (i := 19) (d := (some 30)) (s := vS (Instr.indexAt 54 (.slice A0_0 l_.length c0_0) (.int .i64 (i : Int)))) (v := .pointer (some (ad149.add (i * 3)))) hst (by kernel_rfl) (by kernel_rfl) (fun w' hw' => idx_run 54 88 3 _ ad149 _ _ _ _ _ ea149 (by kernel_rfl) (by omega) (by have := (List.getElem?_eq_some_iff.1 h_x_).1; omega) rfl) ?_
      refine segD2 hst [20] [0, 1, 2, 9, 10, 17, 18, 3, 4, 5, 6, 11, 12, 13, 14, 19, 20] [(0, .slice A0_0 l_.length c0_0), (4, .int .i64 (i : Int)), (11, .slice A_1_135 b.length c_2_135), (17, .int .u64 ((UInt64.ofInt x_.At).toNat : Int)), (25, .int .u64 ((UInt64.ofInt x_.Word).toNat : Int)), (31, .pointer (some ((ad149.add (i * 3)).add 2)))] (by kernel_rfl) ?_
      refine takeD2 (i := 21) (d := (some 32)) (s := vS (Instr.loadAt 3 (.pointer (some ((ad149.add (i * 3)).add 2))))) (v := (.int .i64 x_.Plain)) hst (by kernel_rfl) (by kernel_rfl) (fun w' hw' => ld_run _ _ _ (by kernel_rfl) (hw'.cell (hc149 2 _ rfl))) ?_
      refine segD2 hst [22] [0, 1, 2, 9, 10, 17, 18, 3, 4, 5, 6, 11, 12, 13, 14, 19, 20, 21, 22] [(0, .slice A0_0 l_.length c0_0), (4, .int .i64 (i : Int)), (11, .slice A_1_135 b.length c_2_135), (17, .int .u64 ((UInt64.ofInt x_.At).toNat : Int)), (25, .int .u64 ((UInt64.ofInt x_.Word).toNat : Int)), (33, .int .u64 (IntKind.u64.wrap x_.Plain))] (by kernel_rfl) ?_
      rw [q64_wrap x_.Plain]
      replace H : St w noF m mm135 [rowI rU8 5 A_1_135 c_2_135 b] w148 := H
      refine stD2 (i := 7) (by kernel_rfl) H.has (callR (some 18) 39 #[.int .u64 ((UInt64.ofInt x_.At).toNat : Int), .int .i64 4] Try.call39 (ref01_Store_c H.has (UInt64.ofInt x_.At) 4 h_store) (by kernel_rfl) ?_)
      rintro _ w150 ⟨A150_0, c150_0, mk150, rfl, hS150⟩
      have hsub150 := hS150.sub
      replace H := H.call0 hS150
      obtain ⟨xs151, hr151, hx151⟩ := H.rowCs' 0 rfl
      refine stD2 (i := 8) (by kernel_rfl) (H.has.sub hsub150) (appS (r := rU8) (some 19) 29 5 1 (.int .u8 0) 29 1 A_1_135 A150_0 c_2_135 store.length c150_0 b store b1 _ H rfl ⟨Try.underlying29, by kernel_rfl⟩ rfl (by decide) (by kernel_rfl) hx151 hr151 rfl h_b1 (by decide) (by decide) ?_)
      intro A152 c152 w152 H
      refine stD2 (i := 15) (by kernel_rfl) (H.has.sub hsub150) (callR (some 26) 39 #[.int .u64 ((UInt64.ofInt x_.Word).toNat : Int), .int .i64 4] Try.call39 (ref01_Store_c H.has (UInt64.ofInt x_.Word) 4 h_store1) (by kernel_rfl) ?_)
      rintro _ w153 ⟨A153_0, c153_0, mk153, rfl, hS153⟩
      have hsub153 := hS153.sub
      replace H := H.call0 hS153
      obtain ⟨xs154, hr154, hx154⟩ := H.rowCs' 0 rfl
      refine stD2 (i := 16) (by kernel_rfl) (H.has.sub (hsub150.trans hsub153)) (appS (r := rU8) (some 27) 29 5 1 (.int .u8 0) 29 2 A152 A153_0 c152 store1.length c153_0 b1 store1 b2 _ H rfl ⟨Try.underlying29, by kernel_rfl⟩ rfl (by decide) (by kernel_rfl) hx154 hr154 rfl h_b2 (by decide) (by decide) ?_)
      intro A155 c155 w155 H
      replace H : St w noF m mk153 [rowI rU8 5 A155 c155 b2] w155 := ((H.drop 1 rfl).drop 0 rfl)
      refine stD2 (i := 23) (by kernel_rfl) (H.has.sub (hsub150.trans hsub153)) (callR (some 34) 39 #[.int .u64 ((UInt64.ofInt x_.Plain).toNat : Int), .int .i64 4] Try.call39 (ref01_Store_c H.has (UInt64.ofInt x_.Plain) 4 h_store2) (by kernel_rfl) ?_)
      rintro _ w156 ⟨A156_0, c156_0, mk156, rfl, hS156⟩
      have hsub156 := hS156.sub
      replace H := H.call0 hS156
      obtain ⟨xs157, hr157, hx157⟩ := H.rowCs' 0 rfl
      refine stD2 (i := 24) (by kernel_rfl) (H.has.sub ((hsub150.trans hsub153).trans hsub156)) (appS (r := rU8) (some 35) 29 5 1 (.int .u8 0) 29 1 A155 A156_0 c155 store2.length c156_0 b2 store2 b3 _ H rfl ⟨Try.underlying29, by kernel_rfl⟩ rfl (by decide) (by kernel_rfl) hx157 hr157 rfl h_b3 (by decide) (by decide) ?_)
      intro A158 c158 w158 H
      refine segD2 hst [25] [0, 1, 2, 9, 10, 17, 18, 3, 4, 5, 6, 11, 12, 13, 14, 19, 20, 21, 22, 7, 8, 15, 16, 23, 24, 25] [(0, .slice A0_0 l_.length c0_0), (3, .slice A158 b3.length c158), (4, .int .i64 (i : Int))] (by kernel_rfl) ?_
      refine endD2 (by kernel_rfl) (H.has.sub ((hsub150.trans hsub153).trans hsub156)) ?_
      refine seg 6 [.le 1, .bl 0, .le 0, .co [1, 1, 1]] [(0, .slice A0_0 l_.length c0_0), (3, .slice A158 b3.length c158), (4, .int .i64 (IntKind.i64.wrap ((i : Int) + 1)))] (by kernel_rfl) ?_
      have := s0_0.bound
      rw [show IntKind.i64.wrap ((i : Int) + 1) = ((i : Int) + 1) from w64 (by omega)]
      refine leR (nk134, b3, (i + 1), A158, c158, mk156) (Nat.lt_succ_self _) ⟨hnx134 _ (Option.some.inj hb_134).symm, (St.takeN 1 (H.pull 1 rfl)), (((hsub135.trans hsub150).trans hsub153).trans hsub156)⟩ (by kernel_rfl)
    · rw [hb136]
      have p136 := of_decide_eq_false hb136
      refine seg 2 [.le 0, .co [1, 1, 1]] [(3, .slice A_1_135 b.length c_2_135)] (by kernel_rfl) ?_
      refine leR_up (k' := []) (by rfl) ?_
      refine leJ (b, A_1_135, c_2_135, mm135) ⟨(hfin134 _ (Option.some.inj hb_134).symm).symm, H, hsub135⟩ (by kernel_rfl)
  rintro ⟨b, A_1_107, c_2_107, mm107⟩ wj106 ⟨hy106, H, hsub107⟩
  try dsimp only at hy106
  try dsimp only at H
  try dsimp only at hsub107
  rw [hy106] at hf
  refine seg 5 [.co [1, 1, 1, 1]] [(2, .slice A_1_107 b.length c_2_107)] (by kernel_rfl) ?_
  refine retR [2] [.slice A_1_107 b.length c_2_107] (by kernel_rfl) (by kernel_rfl) (by kernel_rfl) ?_
  have hret := (Option.some.inj hf)
  subst hret
  exact ⟨_, rfl, A_1_107, c_2_107, mm107, rfl, H⟩
theorem ref17_SameFrags_c {m : Mem} {w : World} (hm : Has m w) (a : (List TApiFrag)) (A0_0 : Option Addr) (c0_0 : Nat) (s0_0 : SlI rApiFrag m A0_0 c0_0 a) (b : (List TApiFrag)) (A1_0 : Option Addr) (c1_0 : Nat) (s1_0 : SlI rApiFrag m A1_0 c1_0 b) {r : Bool} (hf : ref17_SameFrags a b = some r) :
    Calls Try.prog 29 #[.slice A0_0 a.length c0_0, .slice A1_0 b.length c1_0] w fun e w' => ∃ v, e = .returned v ∧ v = .bool r ∧ Ex w w' := by
  unfold ref17_SameFrags at hf
  have H := St.start0 hm
  refine callsR Try.func29 (by kernel_rfl) (by kernel_rfl) ?_
  refine seg 13 [.co [1, 0, 1], .co [1, 1]] [(0, .slice A0_0 a.length c0_0), (1, .slice A1_0 b.length c1_0), (10, .bool ((a.length : Int) != (b.length : Int)))] (by kernel_rfl) ?_
  rcases condT hf with ⟨hb2, hf⟩ | ⟨hb2, hf⟩
  · rw [hb2]
    refine seg 5 [.co [1, 0, 1, 0, 1], .co [1, 1]] [(4, .bool false)] (by kernel_rfl) ?_
    refine retR [4] [.bool false] (by kernel_rfl) (by kernel_rfl) (by kernel_rfl) ?_
    have hret := (Option.some.inj hf)
    subst hret
    exact ⟨_, rfl, rfl, H.scalar⟩
  · rw [hb2]
    refine seg 7 [.co [1, 1, 0, 1], .co [1, 1, 1]] [(0, .slice A0_0 a.length c0_0), (1, .slice A1_0 b.length c1_0), (5, .int .i64 0)] (by kernel_rfl) ?_
    obtain ⟨y61, hp61, hfl61, hfr61⟩ := bndE hf
    refine joinR 0 (fun (x : Unit) => []) (fun (x : Unit) (wj61 : World) => y61 = .inl () ∧ St w noF m m [] wj61) (by kernel_rfl) ?_ ?_
    · refine seg 1 [.co [1, 1, 0, 1, 0], .bl 0, .le 0, .co [1, 1, 1]] [(0, .slice A0_0 a.length c0_0), (1, .slice A1_0 b.length c1_0), (5, .int .i64 0)] (by kernel_rfl) ?_
      obtain ⟨nn78, hR78⟩ := loopO_iff.1 hp61
      refine loopR 1 (fun (x : Nat × Nat) => [(0, .slice A0_0 a.length c0_0), (1, .slice A1_0 b.length c1_0), (5, .int .i64 (x.2 : Int))]) (fun (x : Nat × Nat) (wl78 : World) => iter (fun s => ref17_SameFrags_l1 a b s) x.1 x.2 = some y61 ∧ St w noF m m [] wl78) (fun (x : Nat × Nat) => x.1) (nn78, 0) (by kernel_rfl) (by kernel_rfl) (by kernel_rfl) ?_ ?_
      · exact ⟨hR78, H⟩
      rintro ⟨n78, i⟩ wl78 ⟨hR78, H⟩
      try dsimp only at hR78
      try dsimp only at H
      obtain ⟨nk78, q78, rfl, hb_78, hnx78, hfin78⟩ := iterE hR78
      replace hb_78 : ref17_SameFrags_l1 a b i = some q78 := hb_78
      unfold ref17_SameFrags_l1 at hb_78
      refine seg 8 [.co [1, 1, 0, 1, 0, 0, 0, 1], .co [1, 1, 0, 1, 0, 0, 1], .le 1, .bl 0, .le 0, .co [1, 1, 1]] [(0, .slice A0_0 a.length c0_0), (1, .slice A1_0 b.length c1_0), (5, .int .i64 (i : Int)), (14, .bool (decide ((i : Int) < (a.length : Int))))] (by kernel_rfl) ?_
      rcases condT hb_78 with ⟨hb80, hb_78⟩ | ⟨hb80, hb_78⟩
      · rw [hb80]
        have p80 := of_decide_eq_true hb80
        refine seg 5 [.co [1, 1, 0, 1, 0, 0, 1, 0, 0, 0], .co [1, 1, 0, 1, 0, 0, 1, 0, 0, 1], .bl 1, .co [1, 1, 0, 1, 0, 0, 1, 1], .le 1, .bl 0, .le 0, .co [1, 1, 1]] [(0, .slice A0_0 a.length c0_0), (1, .slice A1_0 b.length c1_0), (5, .int .i64 (i : Int))] (by kernel_rfl) ?_
        obtain ⟨x_, h_x_, hb_78⟩ := bindE hb_78
        obtain ⟨x_1, h_x_1, hb_78⟩ := bindE hb_78
        have hst : statB (bodyOf Try.f29) [1, 1, 0, 1, 0, 0, 1, 0, 0, 0] = true := by kernel_rfl
        refine drawS (Has m) H (by kernel_rfl) (by kernel_rfl) ?_
        intro w85 H
        refine segD2 hst [0, 1, 4, 5] [0, 1, 4, 5] [(0, .slice A0_0 a.length c0_0), (1, .slice A1_0 b.length c1_0), (5, .int .i64 (i : Int)), (17, .slice A0_0 a.length c0_0), (18, .int .i64 (i : Int)), (21, .slice A1_0 b.length c1_0), (22, .int .i64 (i : Int))] (by kernel_rfl) ?_
        obtain ⟨ad86, _, ea86, rfl, hc86⟩ := s0_0.at_ h_x_ (by decide)
        refine takeD2 (i := 2) (d := (some 19)) (s := vS (Instr.indexAt 54 (.slice A0_0 a.length c0_0) (.int .i64 (i : Int)))) (v := .pointer (some (ad86.add (i * 3)))) hst (by kernel_rfl) (by kernel_rfl) (fun w' hw' => idx_run 54 88 3 _ ad86 _ _ _ _ _ ea86 (by kernel_rfl) (by omega) (by have := (List.getElem?_eq_some_iff.1 h_x_).1; omega) rfl) ?_
        refine takeD2 (i := 3) (d := (some 20)) (s := vS (Instr.loadAt 88 (.pointer (some (ad86.add (i * 3)))))) (v := (.agg #[.int .i64 x_.At, .int .i64 x_.Word, .int .i64 x_.Plain])) hst (by kernel_rfl) (by kernel_rfl) (fun w' hw' => aggRun _ _ [.int .i64 x_.At, .int .i64 x_.Word, .int .i64 x_.Plain] (by kernel_rfl) (fun j v hj => hw'.cell (hc86 j v hj))) ?_
        obtain ⟨ad87, _, ea87, rfl, hc87⟩ := s1_0.at_ h_x_1 (by decide)
        refine stD2 (i := 6) (by kernel_rfl) H.has (idxS (some 23) 54 88 3 A1_0 ad87 b.length c1_0 .i64 (i : Int) ea87 (by kernel_rfl) (by kernel_rfl) (by omega) (by have := (List.getElem?_eq_some_iff.1 h_x_1).1; omega) ?_)
        refine stD2 (i := 7) (by kernel_rfl) H.has (ldAggR (some 24) 88 (ad87.add (i * 3)) [.int .i64 x_1.At, .int .i64 x_1.Word, .int .i64 x_1.Plain] (by kernel_rfl) (by kernel_rfl) (fun j v hj => H.cellI (hc87 j v hj)) ?_)
        refine stD2 (i := 8) (by kernel_rfl) H.has (runR (by kernel_rfl : fetch _ _ _ _ _ = some ((some 25), (eqSem .neq 88 (.tmp 20) (.tmp 24) (.agg #[.int .i64 x_.At, .int .i64 x_.Word, .int .i64 x_.Plain]) (.agg #[.int .i64 x_1.At, .int .i64 x_1.Word, .int .i64 x_1.Plain])))) (neAgg_run 88 (.tmp 20) (.tmp 24) _ _ ((x_.At == x_1.At) && ((x_.Word == x_1.Word) && ((x_.Plain == x_1.Plain) && true))) ((x_.At == x_1.At) && ((x_.Word == x_1.Word) && ((x_.Plain == x_1.Plain) && true))) (by kernel_rfl) (rfl) (by kernel_rfl) Try.underlying88 (by kernel_rfl)) ?_)
        refine endD2 (by kernel_rfl) H.has ?_
        rcases condT hb_78 with ⟨hb88, hb_78⟩ | ⟨hb88, hb_78⟩
        · rw [hb88]
          refine seg 8 [.le 1, .bl 0, .le 0, .co [1, 1, 1]] [(0, .slice A0_0 a.length c0_0), (1, .slice A1_0 b.length c1_0), (5, .int .i64 (IntKind.i64.wrap ((i : Int) + 1)))] (by kernel_rfl) ?_
          have := s0_0.bound
          rw [show IntKind.i64.wrap ((i : Int) + 1) = ((i : Int) + 1) from w64 (by omega)]
          refine leR (nk78, (i + 1)) (Nat.lt_succ_self _) ⟨hnx78 _ (Option.some.inj hb_78).symm, H⟩ (by kernel_rfl)
        · rw [hb88]
          refine seg 5 [.co [1, 1, 0, 1, 0, 0, 1, 0, 0, 1, 0, 1], .bl 1, .co [1, 1, 0, 1, 0, 0, 1, 1], .le 1, .bl 0, .le 0, .co [1, 1, 1]] [(4, .bool false)] (by kernel_rfl) ?_
          refine retR [4] [.bool false] (by kernel_rfl) (by kernel_rfl) (by kernel_rfl) ?_
          have hret := (hfr61 _ (hfin78 _ (Option.some.inj hb_78).symm).symm)
          subst hret
          exact ⟨_, rfl, rfl, H.scalar⟩
      · rw [hb80]
        have p80 := of_decide_eq_false hb80
        refine seg 2 [.le 0, .co [1, 1, 1]] [] (by kernel_rfl) ?_
        refine leR_up (k' := []) (by rfl) ?_
        refine leJ () ⟨(hfin78 _ (Option.some.inj hb_78).symm).symm, H⟩ (by kernel_rfl)
    rintro _ wj61 ⟨hy61, H⟩
    have hf := hfl61 _ hy61
    try dsimp only at hf
    refine seg 4 [.co [1, 1, 1, 1]] [(4, .bool true)] (by kernel_rfl) ?_
    refine retR [4] [.bool true] (by kernel_rfl) (by kernel_rfl) (by kernel_rfl) ?_
    have hret := (Option.some.inj hf)
    subst hret
    exact ⟨_, rfl, rfl, H.scalar⟩
theorem ref17_DecodeFrags_c {m : Mem} {w : World} (hm : Has m w) (b : (List UInt8)) (A0_0 : Option Addr) (c0_0 : Nat) (s0_0 : SlI rU8 m A0_0 c0_0 b) {r : ((List TApiFrag) × Int)} (hf : ref17_DecodeFrags b = some r) :
    Calls Try.prog 30 #[.slice A0_0 b.length c0_0] w fun e w' => ∃ v, e = .returned v ∧ ∃ Az_0 : Option Addr, ∃ cz_0 : Nat, ∃ m' : Mem, v = .tuple #[.slice Az_0 r.1.length cz_0, .int .i64 r.2] ∧ St w noF m m' [rowI rApiFrag 88 Az_0 cz_0 r.1] w' := by
  unfold ref17_DecodeFrags at hf
  have H := St.start0 hm
  refine callsR Try.func30 (by kernel_rfl) (by kernel_rfl) ?_
  refine seg 14 [.co [1, 1, 0, 1], .co [1, 1, 1]] [(0, .slice A0_0 b.length c0_0), (4, .slice none 0 0), (5, .int .i64 0)] (by kernel_rfl) ?_
  obtain ⟨y77, hp77, hf⟩ := bindE hf
  refine joinR 0 (fun (x : (List TApiFrag) × Option Addr × Nat) => [(0, .slice A0_0 b.length c0_0), (4, .slice (x.2.1) x.1.length (x.2.2))]) (fun (x : (List TApiFrag) × Option Addr × Nat) (wj77 : World) => y77 = x.1 ∧ St w noF m m [rowI rApiFrag 88 (x.2.1) (x.2.2) x.1] wj77) (by kernel_rfl) ?_ ?_
  · refine seg 1 [.co [1, 1, 0, 1, 0], .bl 0, .le 0, .co [1, 1, 1]] [(0, .slice A0_0 b.length c0_0), (4, .slice none 0 0), (5, .int .i64 0)] (by kernel_rfl) ?_
    have H := H.nilR rApiFrag 88
    obtain ⟨nn100, hR100⟩ := loopO_iff.1 hp77
    refine loopR 1 (fun (x : Nat × (List TApiFrag) × Int × Option Addr × Nat) => [(0, .slice A0_0 b.length c0_0), (4, .slice (x.2.2.2.1) x.2.1.length (x.2.2.2.2)), (5, .int .i64 x.2.2.1)]) (fun (x : Nat × (List TApiFrag) × Int × Option Addr × Nat) (wl100 : World) => iter (fun s => ref17_DecodeFrags_l1 b s.1 s.2) x.1 (x.2.1, x.2.2.1) = some y77 ∧ St w noF m m [rowI rApiFrag 88 (x.2.2.2.1) (x.2.2.2.2) x.2.1] wl100) (fun (x : Nat × (List TApiFrag) × Int × Option Addr × Nat) => x.1) (nn100, [], 0, none, 0) (by kernel_rfl) (by kernel_rfl) (by kernel_rfl) ?_ ?_
    · exact ⟨hR100, H⟩
    rintro ⟨n100, l_, i, A_1_101, c_2_101⟩ wl100 ⟨hR100, H⟩
    try dsimp only at hR100
    try dsimp only at H
    obtain ⟨nk100, q100, rfl, hb_100, hnx100, hfin100⟩ := iterE hR100
    replace hb_100 : ref17_DecodeFrags_l1 b l_ i = some q100 := hb_100
    unfold ref17_DecodeFrags_l1 at hb_100
    refine seg 9 [.co [1, 1, 0, 1, 0, 0, 0, 1], .co [1, 1, 0, 1, 0, 0, 1], .le 1, .bl 0, .le 0, .co [1, 1, 1]] [(0, .slice A0_0 b.length c0_0), (4, .slice A_1_101 l_.length c_2_101), (5, .int .i64 i), (10, .bool (decide ((IntKind.i64.wrap (i + 12)) ≤ (b.length : Int))))] (by kernel_rfl) ?_
    rcases condT hb_100 with ⟨hb102, hb_100⟩ | ⟨hb102, hb_100⟩
    · rw [hb102]
      have p102 := of_decide_eq_true hb102
      refine seg 8 [.op [1, 1, 0, 1, 0, 0, 1, 0, 0] 3, .bl 1, .co [1, 1, 0, 1, 0, 0, 1, 1], .le 1, .bl 0, .le 0, .co [1, 1, 1]] [(0, .slice A0_0 b.length c0_0), (5, .int .i64 i), (13, .slice A_1_101 l_.length c_2_101), (14, .slice A0_0 b.length c0_0), (15, .int .i64 i)] (by kernel_rfl) ?_
      obtain ⟨load, h_load, hb_100⟩ := bindE hb_100
      refine st (callR (some 16) 40 #[.slice A0_0 b.length c0_0, .int .i64 i, .int .i64 4] Try.call40 (ref01_Load_c H.has b A0_0 c0_0 s0_0 i 4 h_load) (by kernel_rfl) ?_)
      rintro _ w103 ⟨rfl, hx103⟩
      replace H := H.ex hx103
      refine seg 4 [.op [1, 1, 0, 1, 0, 0, 1, 0, 0] 8, .bl 1, .co [1, 1, 0, 1, 0, 0, 1, 1], .le 1, .bl 0, .le 0, .co [1, 1, 1]] [(0, .slice A0_0 b.length c0_0), (5, .int .i64 i), (13, .slice A_1_101 l_.length c_2_101), (17, .int .i64 (IntKind.i64.wrap (load.toNat : Int))), (18, .slice A0_0 b.length c0_0), (20, .int .i64 (IntKind.i64.wrap (i + 4)))] (by kernel_rfl) ?_
      obtain ⟨load1, h_load1, hb_100⟩ := bindE hb_100
      refine st (callR (some 21) 40 #[.slice A0_0 b.length c0_0, .int .i64 (IntKind.i64.wrap (i + 4)), .int .i64 4] Try.call40 (ref01_Load_c H.has b A0_0 c0_0 s0_0 (IntKind.i64.wrap (i + 4)) 4 h_load1) (by kernel_rfl) ?_)
      rintro _ w104 ⟨rfl, hx104⟩
      replace H := H.ex hx104
      refine seg 4 [.op [1, 1, 0, 1, 0, 0, 1, 0, 0] 13, .bl 1, .co [1, 1, 0, 1, 0, 0, 1, 1], .le 1, .bl 0, .le 0, .co [1, 1, 1]] [(0, .slice A0_0 b.length c0_0), (5, .int .i64 i), (13, .slice A_1_101 l_.length c_2_101), (17, .int .i64 (IntKind.i64.wrap (load.toNat : Int))), (22, .int .i64 (IntKind.i64.wrap (load1.toNat : Int))), (23, .slice A0_0 b.length c0_0), (25, .int .i64 (IntKind.i64.wrap (i + 8)))] (by kernel_rfl) ?_
      replace H : St w noF m m [rowI rApiFrag 88 A_1_101 c_2_101 l_] w104 := H
      obtain ⟨load2, h_load2, hb_100⟩ := bindE hb_100
      refine st (callR (some 26) 40 #[.slice A0_0 b.length c0_0, .int .i64 (IntKind.i64.wrap (i + 8)), .int .i64 4] Try.call40 (ref01_Load_c H.has b A0_0 c0_0 s0_0 (IntKind.i64.wrap (i + 8)) 4 h_load2) (by kernel_rfl) ?_)
      rintro _ w105 ⟨rfl, hx105⟩
      replace H := H.ex hx105
      refine seg 2 [.op [1, 1, 0, 1, 0, 0, 1, 0, 0] 16, .bl 1, .co [1, 1, 0, 1, 0, 0, 1, 1], .le 1, .bl 0, .le 0, .co [1, 1, 1]] [(0, .slice A0_0 b.length c0_0), (5, .int .i64 i), (13, .slice A_1_101 l_.length c_2_101), (28, .agg #[.int .i64 (IntKind.i64.wrap (load.toNat : Int)), .int .i64 (IntKind.i64.wrap (load1.toNat : Int)), .int .i64 (IntKind.i64.wrap (load2.toNat : Int))])] (by kernel_rfl) ?_
      refine st (newS (some 29) (fun g => .slice (some ⟨g, 0, none⟩) 1 1) [.int .i64 (IntKind.i64.wrap (load.toNat : Int)), .int .i64 (IntKind.i64.wrap (load1.toNat : Int)), .int .i64 (IntKind.i64.wrap (load2.toNat : Int))] 88 H (by kernel_rfl) ?_)
      intro g106 w106 H
      obtain ⟨b1, h_b1, hb_100⟩ := bindE hb_100
      refine st (appS (r := rApiFrag) (some 30) 54 88 24 (.agg #[.int .i64 0, .int .i64 0, .int .i64 0]) 54 1 A_1_101 (some ⟨g106, 0, none⟩) c_2_101 1 1 l_ [({ At := (IntKind.i64.wrap (load.toNat : Int)), Word := (IntKind.i64.wrap (load1.toNat : Int)), Plain := (IntKind.i64.wrap (load2.toNat : Int)) } : TApiFrag)] b1 _ H rfl ⟨Try.underlying54, by kernel_rfl⟩ rfl (by decide) (by kernel_rfl) (Cs.of_blk (H.blk 0 rfl)) (Rows.cons (cs := [.int .i64 (IntKind.i64.wrap (load.toNat : Int)), .int .i64 (IntKind.i64.wrap (load1.toNat : Int)), .int .i64 (IntKind.i64.wrap (load2.toNat : Int))]) rfl Rows.nil) rfl h_b1 (by decide) (by decide) ?_)
      intro A107 c107 w107 H
      replace H := H.drop 0 rfl
      refine seg 8 [.le 1, .bl 0, .le 0, .co [1, 1, 1]] [(0, .slice A0_0 b.length c0_0), (4, .slice A107 b1.length c107), (5, .int .i64 (IntKind.i64.wrap (i + 12)))] (by kernel_rfl) ?_
      refine leR (nk100, b1, (IntKind.i64.wrap (i + 12)), A107, c107) (Nat.lt_succ_self _) ⟨hnx100 _ (Option.some.inj hb_100).symm, H⟩ (by kernel_rfl)
    · rw [hb102]
      have p102 := of_decide_eq_false hb102
      refine seg 2 [.le 0, .co [1, 1, 1]] [(0, .slice A0_0 b.length c0_0), (4, .slice A_1_101 l_.length c_2_101)] (by kernel_rfl) ?_
      refine leR_up (k' := []) (by rfl) ?_
      refine leJ (l_, A_1_101, c_2_101) ⟨(hfin100 _ (Option.some.inj hb_100).symm).symm, H⟩ (by kernel_rfl)
  rintro ⟨l_, A_1_78, c_2_78⟩ wj77 ⟨hy77, H⟩
  try dsimp only at hy77
  try dsimp only at H
  rw [hy77] at hf
  refine seg 8 [.op [1, 1, 1, 0, 0] 5, .co [1, 1, 1, 0, 1], .co [1, 1, 1, 1]] [(4, .slice A_1_78 l_.length c_2_78), (35, .bool ((Int.tmod (b.length : Int) 12) != 0))] (by kernel_rfl) ?_
  rcases condT hf with ⟨hb112, hf⟩ | ⟨hb112, hf⟩
  · rw [hb112]
    refine seg 11 [.co [1, 1, 1, 0, 1, 0, 1], .co [1, 1, 1, 1]] [(2, .slice none 0 0), (3, .int .i64 6)] (by kernel_rfl) ?_
    have H := H.nilR rApiFrag 88
    refine retR [2, 3] [.slice none 0 0, .int .i64 6] (by kernel_rfl) (by kernel_rfl) (by kernel_rfl) ?_
    obtain rfl : ([], 6) = r := (Option.some.inj hf)
    exact ⟨_, rfl, none, 0, m, rfl, (St.takeN 1 H)⟩
  · rw [hb112]
    refine seg 1 [.op [1, 1, 1, 0, 0] 6, .co [1, 1, 1, 0, 1], .co [1, 1, 1, 1]] [(4, .slice A_1_78 l_.length c_2_78), (35, .bool false), (36, .slice A_1_78 l_.length c_2_78)] (by kernel_rfl) ?_
    replace H : St w noF m m [rowI rApiFrag 88 A_1_78 c_2_78 l_] wj77 := H
    have H0_113 := H
    obtain ⟨mf114, hsub114, hsf114, H⟩ := H.fixR 0 rfl
    obtain ⟨rightF, h_rightF, hf⟩ := bindE hf
    refine st (callR (some 37) 26 #[.slice A_1_78 l_.length c_2_78] Try.call26 (ref17_RightFrags_c H.has l_ A_1_78 c_2_78 hsf114 h_rightF) (by kernel_rfl) ?_)
    rintro _ w115 ⟨rfl, hx115⟩
    replace H := H0_113.ex hx115
    refine seg 3 [.co [1, 1, 1, 0, 1], .co [1, 1, 1, 1]] [(4, .slice A_1_78 l_.length c_2_78), (39, .bool (!rightF))] (by kernel_rfl) ?_
    rcases condT hf with ⟨hb117, hf⟩ | ⟨hb117, hf⟩
    · rw [hb117]
      refine seg 8 [.co [1, 1, 1, 1, 1]] [(2, .slice A_1_78 l_.length c_2_78), (3, .int .i64 0)] (by kernel_rfl) ?_
      refine retR [2, 3] [.slice A_1_78 l_.length c_2_78, .int .i64 0] (by kernel_rfl) (by kernel_rfl) (by kernel_rfl) ?_
      obtain rfl : (l_, 0) = r := (Option.some.inj hf)
      exact ⟨_, rfl, A_1_78, c_2_78, m, rfl, H⟩
    · rw [hb117]
      refine seg 6 [.co [1, 1, 1, 0, 1, 0, 1], .co [1, 1, 1, 1]] [(2, .slice none 0 0), (3, .int .i64 6)] (by kernel_rfl) ?_
      have H := H.nilR rApiFrag 88
      refine retR [2, 3] [.slice none 0 0, .int .i64 6] (by kernel_rfl) (by kernel_rfl) (by kernel_rfl) ?_
      obtain rfl : ([], 6) = r := (Option.some.inj hf)
      exact ⟨_, rfl, none, 0, m, rfl, (St.takeN 1 H)⟩
theorem law17_TableFrags_c {m : Mem} {w : World} (hm : Has m w) (l_ : (List TApiFrag)) (A0_0 : Option Addr) (c0_0 : Nat) (s0_0 : SlI rApiFrag m A0_0 c0_0 l_) (b : (List UInt8)) (A1_0 : Option Addr) (c1_0 : Nat) (s1_0 : SlI rU8 m A1_0 c1_0 b) {r : Bool} (hf : law17_TableFrags l_ b = some r) :
    Calls Try.prog 7 #[.slice A0_0 l_.length c0_0, .slice A1_0 b.length c1_0] w fun e w' => ∃ v, e = .returned v ∧ v = .bool r ∧ Ex w w' := by
  unfold law17_TableFrags at hf
  have H := St.start0 hm
  refine callsR Try.func7 (by kernel_rfl) (by kernel_rfl) ?_
  refine seg 11 [.op [1, 0, 0] 4, .co [1, 0, 1], .co [1, 1]] [(0, .slice A0_0 l_.length c0_0), (1, .slice A1_0 b.length c1_0), (16, .bool (decide ((l_.length : Int) > 1000)))] (by kernel_rfl) ?_
  rcases condT hf with ⟨hb4, hf⟩ | ⟨hb4, hf⟩
  · rw [hb4]
    have p4 := of_decide_eq_true hb4
    refine seg 5 [.op [1, 0, 0] 9, .co [1, 0, 1], .co [1, 1]] [(0, .slice A0_0 l_.length c0_0), (1, .slice A1_0 b.length c1_0), (21, .bool (decide ((l_.length : Int) ≤ 65536)))] (by kernel_rfl) ?_
    rcases condT hf with ⟨hb5, hf⟩ | ⟨hb5, hf⟩
    · rw [hb5]
      have p5 := of_decide_eq_true hb5
      refine seg 8 [.op [1, 0, 1, 0, 0] 0, .co [1, 0, 1, 0, 1], .co [1, 1]] [] (by kernel_rfl) ?_
      obtain ⟨live, h_live, hf⟩ := bindE hf
      refine st (callR (some 26) 8 #[] Try.call8 (law17_live_c H.has  h_live) (by kernel_rfl) ?_)
      rintro _ w6 ⟨rfl, hx6⟩
      replace H := H.ex hx6
      refine seg 2 [.co [1, 0, 1, 0, 1], .co [1, 1]] [(4, .bool live)] (by kernel_rfl) ?_
      refine retR [4] [.bool live] (by kernel_rfl) (by kernel_rfl) (by kernel_rfl) ?_
      have hret := (Option.some.inj hf)
      subst hret
      exact ⟨_, rfl, rfl, H.scalar⟩
    · rw [hb5]
      have p5 := of_decide_eq_false hb5
      refine seg 5 [.co [1, 0, 1], .co [1, 1]] [(0, .slice A0_0 l_.length c0_0), (1, .slice A1_0 b.length c1_0), (25, .bool (decide ((b.length : Int) > 3000)))] (by kernel_rfl) ?_
      rcases condT hf with ⟨hb10, hf⟩ | ⟨hb10, hf⟩
      · rw [hb10]
        have p10 := of_decide_eq_true hb10
        refine seg 3 [.op [1, 0, 1, 0, 0] 0, .co [1, 0, 1, 0, 1], .co [1, 1]] [] (by kernel_rfl) ?_
        obtain ⟨live1, h_live1, hf⟩ := bindE hf
        refine st (callR (some 26) 8 #[] Try.call8 (law17_live_c H.has  h_live1) (by kernel_rfl) ?_)
        rintro _ w11 ⟨rfl, hx11⟩
        replace H := H.ex hx11
        refine seg 2 [.co [1, 0, 1, 0, 1], .co [1, 1]] [(4, .bool live1)] (by kernel_rfl) ?_
        refine retR [4] [.bool live1] (by kernel_rfl) (by kernel_rfl) (by kernel_rfl) ?_
        have hret := (Option.some.inj hf)
        subst hret
        exact ⟨_, rfl, rfl, H.scalar⟩
      · rw [hb10]
        have p10 := of_decide_eq_false hb10
        refine seg 5 [.op [1, 1, 0] 1, .co [1, 1, 1]] [(0, .slice A0_0 l_.length c0_0), (1, .slice A1_0 b.length c1_0), (28, .slice A0_0 l_.length c0_0)] (by kernel_rfl) ?_
        replace H : St w noF m m [] w := H
        obtain ⟨encode, h_encode, hf⟩ := bindE hf
        refine st (callR (some 29) 25 #[.slice A0_0 l_.length c0_0] Try.call25 (table_EncodeFrags_c H.has l_ A0_0 c0_0 s0_0 h_encode) (by kernel_rfl) ?_)
        rintro _ w12 ⟨A12_0, c12_0, mk12, rfl, hS12⟩
        have hsub12 := hS12.sub
        replace H := H.call0 hS12
        refine seg 10 [.op [1, 1, 1, 0, 0] 1, .co [1, 1, 1, 0, 1], .co [1, 1, 1, 1]] [(0, .slice A0_0 l_.length c0_0), (1, .slice A1_0 b.length c1_0), (5, .slice A12_0 encode.1.length c12_0), (6, .int .i64 encode.2), (32, .slice A0_0 l_.length c0_0)] (by kernel_rfl) ?_
        obtain ⟨rightF, h_rightF, hf⟩ := bindE hf
        refine st (callR (some 33) 26 #[.slice A0_0 l_.length c0_0] Try.call26 (ref17_RightFrags_c H.has l_ A0_0 c0_0 (s0_0.mono hsub12) h_rightF) (by kernel_rfl) ?_)
        rintro _ w13 ⟨rfl, hx13⟩
        replace H := H.ex hx13
        refine seg 2 [.co [1, 1, 1, 0, 1], .co [1, 1, 1, 1]] [(0, .slice A0_0 l_.length c0_0), (1, .slice A1_0 b.length c1_0), (5, .slice A12_0 encode.1.length c12_0), (6, .int .i64 encode.2), (34, .bool (!rightF))] (by kernel_rfl) ?_
        obtain ⟨y125, hp125, hfl125, hfr125⟩ := bndE hf
        refine joinR 0 (fun (x : Mem) => [(1, .slice A1_0 b.length c1_0)]) (fun (x : Mem) (wj125 : World) => y125 = .inl () ∧ St w noF m x [] wj125 ∧ Sub mk12 x) (by kernel_rfl) ?_ ?_
        · rcases condT hp125 with ⟨hb127, hp125⟩ | ⟨hb127, hp125⟩
          · rw [hb127]
            refine seg 4 [.op [1, 1, 1, 0, 1, 1, 0] 1, .co [1, 1, 1, 0, 1, 1, 1], .le 0, .co [1, 1, 1, 1]] [(0, .slice A0_0 l_.length c0_0), (1, .slice A1_0 b.length c1_0), (5, .slice A12_0 encode.1.length c12_0), (6, .int .i64 encode.2), (44, .slice A12_0 encode.1.length c12_0)] (by kernel_rfl) ?_
            have H0_128 := H
            obtain ⟨mf129, hsub129, hsf129, H⟩ := H.fixR 0 rfl
            obtain ⟨decode, h_decode, hp125⟩ := bindE hp125
            refine st (callR (some 45) 27 #[.slice A12_0 encode.1.length c12_0] Try.call27 (table_DecodeFrags_c H.has encode.1 A12_0 c12_0 hsf129 h_decode) (by kernel_rfl) ?_)
            rintro _ w130 ⟨A130_0, c130_0, mk130, rfl, hS130⟩
            replace H := H0_128.callB hS130 ⟨rowI_ind (fun _ _ _ _ h => h), trivial⟩
            refine seg 7 [.co [1, 1, 1, 0, 1, 1, 1, 0], .co [1, 1, 1, 0, 1, 1, 1, 1], .le 0, .co [1, 1, 1, 1]] [(0, .slice A0_0 l_.length c0_0), (1, .slice A1_0 b.length c1_0), (5, .slice A12_0 encode.1.length c12_0), (6, .int .i64 encode.2), (7, .slice A130_0 decode.1.length c130_0), (8, .int .i64 decode.2)] (by kernel_rfl) ?_
            rcases condT hp125 with ⟨hb133, hp125⟩ | ⟨hb133, hp125⟩
            · have hst : statB (bodyOf Try.f7) [1, 1, 1, 0, 1, 1, 1, 0] = true := by kernel_rfl
              refine drawS (Has mk12) H (by kernel_rfl) (by kernel_rfl) ?_
              intro w136 H
              refine segD2 hst [0, 2] [0, 2] [(0, .slice A0_0 l_.length c0_0), (1, .slice A1_0 b.length c1_0), (5, .slice A12_0 encode.1.length c12_0), (7, .slice A130_0 decode.1.length c130_0), (48, .int .i64 encode.2), (50, .int .i64 decode.2)] (by kernel_rfl) ?_
              replace H : St w noF m mk12 [rowI rApiFrag 88 A130_0 c130_0 decode.1, rowI rU8 5 A12_0 c12_0 encode.1] w136 := H
              refine stD2 (i := 1) (by kernel_rfl) H.has (callR (some 49) 15 #[.int .i64 encode.2] Try.call15 (law17_num_c H.has encode.2) (by kernel_rfl) ?_)
              rintro _ w137 ⟨rfl, hx137⟩
              replace H := H.ex hx137
              refine stD2 (i := 3) (by kernel_rfl) H.has (callR (some 51) 15 #[.int .i64 decode.2] Try.call15 (law17_num_c H.has decode.2) (by kernel_rfl) ?_)
              rintro _ w138 ⟨rfl, hx138⟩
              replace H := H.ex hx138
              refine segD2 hst [4] [0, 2, 1, 3, 4] [(0, .slice A0_0 l_.length c0_0), (1, .slice A1_0 b.length c1_0), (5, .slice A12_0 encode.1.length c12_0), (7, .slice A130_0 decode.1.length c130_0), (52, .int .i64 (IntKind.i64.wrap ((law17_num encode.2) + (law17_num decode.2))))] (by kernel_rfl) ?_
              refine segD2 hst [5] [0, 2, 1, 3, 4, 5] [(0, .slice A0_0 l_.length c0_0), (1, .slice A1_0 b.length c1_0), (5, .slice A12_0 encode.1.length c12_0), (7, .slice A130_0 decode.1.length c130_0), (53, .bool ((IntKind.i64.wrap ((law17_num encode.2) + (law17_num decode.2))) != 0))] (by kernel_rfl) ?_
              rw [show ((IntKind.i64.wrap ((law17_num encode.2) + (law17_num decode.2))) != 0) = true from hb133]
              refine segD2 hst [6, 7, 8, 9, 10, 11, 12, 13, 14, 15, 16, 17, 18, 19] [0, 2, 1, 3, 4, 5, 6, 7, 8, 9, 10, 11, 12, 13, 14, 15, 16, 17, 18, 19] [(1, .slice A1_0 b.length c1_0), (67, .bool true)] (by kernel_rfl) ?_
              refine endD2 (by kernel_rfl) H.has ?_
              refine seg 5 [.co [1, 1, 1, 0, 1, 1, 1, 1, 0, 1], .le 0, .co [1, 1, 1, 1]] [(4, .bool false)] (by kernel_rfl) ?_
              refine retR [4] [.bool false] (by kernel_rfl) (by kernel_rfl) (by kernel_rfl) ?_
              have hret := (hfr125 _ (Option.some.inj hp125).symm)
              subst hret
              exact ⟨_, rfl, rfl, H.scalar⟩
            · obtain ⟨fragBy, h_fragBy, hp125⟩ := bindE hp125
              rcases condT hp125 with ⟨hb144, hp125⟩ | ⟨hb144, hp125⟩
              · have hst : statB (bodyOf Try.f7) [1, 1, 1, 0, 1, 1, 1, 0] = true := by kernel_rfl
                refine drawS (Has mk12) H (by kernel_rfl) (by kernel_rfl) ?_
                intro w150 H
                refine segD2 hst [0, 2] [0, 2] [(0, .slice A0_0 l_.length c0_0), (1, .slice A1_0 b.length c1_0), (5, .slice A12_0 encode.1.length c12_0), (7, .slice A130_0 decode.1.length c130_0), (48, .int .i64 encode.2), (50, .int .i64 decode.2)] (by kernel_rfl) ?_
                replace H : St w noF m mk12 [rowI rApiFrag 88 A130_0 c130_0 decode.1, rowI rU8 5 A12_0 c12_0 encode.1] w150 := H
                refine stD2 (i := 1) (by kernel_rfl) H.has (callR (some 49) 15 #[.int .i64 encode.2] Try.call15 (law17_num_c H.has encode.2) (by kernel_rfl) ?_)
                rintro _ w151 ⟨rfl, hx151⟩
                replace H := H.ex hx151
                refine stD2 (i := 3) (by kernel_rfl) H.has (callR (some 51) 15 #[.int .i64 decode.2] Try.call15 (law17_num_c H.has decode.2) (by kernel_rfl) ?_)
                rintro _ w152 ⟨rfl, hx152⟩
                replace H := H.ex hx152
                refine segD2 hst [4] [0, 2, 1, 3, 4] [(0, .slice A0_0 l_.length c0_0), (1, .slice A1_0 b.length c1_0), (5, .slice A12_0 encode.1.length c12_0), (7, .slice A130_0 decode.1.length c130_0), (52, .int .i64 (IntKind.i64.wrap ((law17_num encode.2) + (law17_num decode.2))))] (by kernel_rfl) ?_
                refine segD2 hst [5] [0, 2, 1, 3, 4, 5] [(0, .slice A0_0 l_.length c0_0), (1, .slice A1_0 b.length c1_0), (5, .slice A12_0 encode.1.length c12_0), (7, .slice A130_0 decode.1.length c130_0), (53, .bool ((IntKind.i64.wrap ((law17_num encode.2) + (law17_num decode.2))) != 0))] (by kernel_rfl) ?_
                rw [show ((IntKind.i64.wrap ((law17_num encode.2) + (law17_num decode.2))) != 0) = false from hb133]
                refine segD2 hst [6, 7, 9] [0, 2, 1, 3, 4, 5, 6, 7, 9] [(0, .slice A0_0 l_.length c0_0), (1, .slice A1_0 b.length c1_0), (7, .slice A130_0 decode.1.length c130_0), (54, .bool false), (55, .slice A12_0 encode.1.length c12_0), (57, .slice A0_0 l_.length c0_0)] (by kernel_rfl) ?_
                refine allD2 [8, 10] (by kernel_rfl) H.has ⟨?_, ?_, trivial⟩
                · refine (b2sS (some 56) 29 9 5 A12_0 c12_0 encode.1 Try.underlying29 Try.underlying5 Try.underlying9 (by kernel_rfl) (H.rowCs 1 rfl) ?_)
                  have hl153 : encode.1.length ≤ 9223372036854775807 := (Nat.le_trans (H.rowCap 1 rfl).1 (H.rowCap 1 rfl).2)
                  refine stD2 (i := 10) (by kernel_rfl) H.has (callR (some 58) 28 #[.slice A0_0 l_.length c0_0] Try.call28 (ref17_FragBytes_c H.has l_ A0_0 c0_0 (s0_0.mono hsub12) h_fragBy) (by kernel_rfl) ?_)
                  rintro _ w154 ⟨A154_0, c154_0, mk154, rfl, hS154⟩
                  have hsub154 := hS154.sub
                  replace H := H.call0 hS154
                  refine stD2 (i := 11) (by kernel_rfl) (H.has.sub hsub154) (b2sS (some 59) 29 9 5 A154_0 c154_0 fragBy Try.underlying29 Try.underlying5 Try.underlying9 (by kernel_rfl) (H.rowCs 0 rfl) ?_)
                  have hl155 : fragBy.length ≤ 9223372036854775807 := (Nat.le_trans (H.rowCap 0 rfl).1 (H.rowCap 0 rfl).2)
                  refine segD2 hst [12] [0, 2, 1, 3, 4, 5, 6, 7, 9, 8, 10, 11, 12] [(0, .slice A0_0 l_.length c0_0), (1, .slice A1_0 b.length c1_0), (7, .slice A130_0 decode.1.length c130_0), (54, .bool false), (60, .bool (!((ByteArray.toList ⟨encode.1.toArray⟩) == (ByteArray.toList ⟨fragBy.toArray⟩))))] (by kernel_rfl) ?_
                  rw [sne_raw encode.1 fragBy]
                  rw [show (encode.1 != fragBy) = true from hb144]
                  refine segD2 hst [13, 14, 15, 16, 17, 18, 19] [0, 2, 1, 3, 4, 5, 6, 7, 9, 8, 10, 11, 12, 13, 14, 15, 16, 17, 18, 19] [(1, .slice A1_0 b.length c1_0), (67, .bool true)] (by kernel_rfl) ?_
                  refine endD2 (by kernel_rfl) (H.has.sub hsub154) ?_
                  refine seg 5 [.co [1, 1, 1, 0, 1, 1, 1, 1, 0, 1], .le 0, .co [1, 1, 1, 1]] [(4, .bool false)] (by kernel_rfl) ?_
                  refine retR [4] [.bool false] (by kernel_rfl) (by kernel_rfl) (by kernel_rfl) ?_
                  have hret := (hfr125 _ (Option.some.inj hp125).symm)
                  subst hret
                  exact ⟨_, rfl, rfl, H.scalar⟩
                · refine (callR (some 58) 28 #[.slice A0_0 l_.length c0_0] Try.call28 (ref17_FragBytes_c H.has l_ A0_0 c0_0 (s0_0.mono hsub12) h_fragBy) (by kernel_rfl) ?_)
                  rintro _ w156 ⟨A156_0, c156_0, mk156, rfl, hS156⟩
                  have hsub156 := hS156.sub
                  replace H := H.call0 hS156
                  refine allD2 [8, 11] (by kernel_rfl) (H.has.sub hsub156) ⟨?_, ?_, trivial⟩
                  · replace H : St w noF m mk156 [rowI rU8 5 A156_0 c156_0 fragBy, rowI rApiFrag 88 A130_0 c130_0 decode.1, rowI rU8 5 A12_0 c12_0 encode.1] w156 := H
                    refine (b2sS (some 56) 29 9 5 A12_0 c12_0 encode.1 Try.underlying29 Try.underlying5 Try.underlying9 (by kernel_rfl) (H.rowCs 2 rfl) ?_)
                    have hl157 : encode.1.length ≤ 9223372036854775807 := (Nat.le_trans (H.rowCap 2 rfl).1 (H.rowCap 2 rfl).2)
                    refine stD2 (i := 11) (by kernel_rfl) (H.has.sub hsub156) (b2sS (some 59) 29 9 5 A156_0 c156_0 fragBy Try.underlying29 Try.underlying5 Try.underlying9 (by kernel_rfl) (H.rowCs 0 rfl) ?_)
                    have hl158 : fragBy.length ≤ 9223372036854775807 := (Nat.le_trans (H.rowCap 0 rfl).1 (H.rowCap 0 rfl).2)
                    refine segD2 hst [12] [0, 2, 1, 3, 4, 5, 6, 7, 9, 10, 8, 11, 12] [(0, .slice A0_0 l_.length c0_0), (1, .slice A1_0 b.length c1_0), (7, .slice A130_0 decode.1.length c130_0), (54, .bool false), (60, .bool (!((ByteArray.toList ⟨encode.1.toArray⟩) == (ByteArray.toList ⟨fragBy.toArray⟩))))] (by kernel_rfl) ?_
                    rw [sne_raw encode.1 fragBy]
                    rw [show (encode.1 != fragBy) = true from hb144]
                    refine segD2 hst [13, 14, 15, 16, 17, 18, 19] [0, 2, 1, 3, 4, 5, 6, 7, 9, 10, 8, 11, 12, 13, 14, 15, 16, 17, 18, 19] [(1, .slice A1_0 b.length c1_0), (67, .bool true)] (by kernel_rfl) ?_
                    refine endD2 (by kernel_rfl) (H.has.sub hsub156) ?_
                    refine seg 5 [.co [1, 1, 1, 0, 1, 1, 1, 1, 0, 1], .le 0, .co [1, 1, 1, 1]] [(4, .bool false)] (by kernel_rfl) ?_
                    refine retR [4] [.bool false] (by kernel_rfl) (by kernel_rfl) (by kernel_rfl) ?_
                    have hret := (hfr125 _ (Option.some.inj hp125).symm)
                    subst hret
                    exact ⟨_, rfl, rfl, H.scalar⟩
                  · refine (b2sS (some 59) 29 9 5 A156_0 c156_0 fragBy Try.underlying29 Try.underlying5 Try.underlying9 (by kernel_rfl) (H.rowCs 0 rfl) ?_)
                    have hl159 : fragBy.length ≤ 9223372036854775807 := (Nat.le_trans (H.rowCap 0 rfl).1 (H.rowCap 0 rfl).2)
                    refine stD2 (i := 8) (by kernel_rfl) (H.has.sub hsub156) (b2sS (some 56) 29 9 5 A12_0 c12_0 encode.1 Try.underlying29 Try.underlying5 Try.underlying9 (by kernel_rfl) (H.rowCs 2 rfl) ?_)
                    have hl160 : encode.1.length ≤ 9223372036854775807 := (Nat.le_trans (H.rowCap 2 rfl).1 (H.rowCap 2 rfl).2)
                    refine segD2 hst [12] [0, 2, 1, 3, 4, 5, 6, 7, 9, 10, 11, 8, 12] [(0, .slice A0_0 l_.length c0_0), (1, .slice A1_0 b.length c1_0), (7, .slice A130_0 decode.1.length c130_0), (54, .bool false), (60, .bool (!((ByteArray.toList ⟨encode.1.toArray⟩) == (ByteArray.toList ⟨fragBy.toArray⟩))))] (by kernel_rfl) ?_
                    rw [sne_raw encode.1 fragBy]
                    rw [show (encode.1 != fragBy) = true from hb144]
                    refine segD2 hst [13, 14, 15, 16, 17, 18, 19] [0, 2, 1, 3, 4, 5, 6, 7, 9, 10, 11, 8, 12, 13, 14, 15, 16, 17, 18, 19] [(1, .slice A1_0 b.length c1_0), (67, .bool true)] (by kernel_rfl) ?_
                    refine endD2 (by kernel_rfl) (H.has.sub hsub156) ?_
                    refine seg 5 [.co [1, 1, 1, 0, 1, 1, 1, 1, 0, 1], .le 0, .co [1, 1, 1, 1]] [(4, .bool false)] (by kernel_rfl) ?_
                    refine retR [4] [.bool false] (by kernel_rfl) (by kernel_rfl) (by kernel_rfl) ?_
                    have hret := (hfr125 _ (Option.some.inj hp125).symm)
                    subst hret
                    exact ⟨_, rfl, rfl, H.scalar⟩
              · obtain ⟨sameFr, h_sameFr, hp125⟩ := bindE hp125
                have hst : statB (bodyOf Try.f7) [1, 1, 1, 0, 1, 1, 1, 0] = true := by kernel_rfl
                refine drawS (Has mk12) H (by kernel_rfl) (by kernel_rfl) ?_
                intro w169 H
                refine segD2 hst [0, 2] [0, 2] [(0, .slice A0_0 l_.length c0_0), (1, .slice A1_0 b.length c1_0), (5, .slice A12_0 encode.1.length c12_0), (7, .slice A130_0 decode.1.length c130_0), (48, .int .i64 encode.2), (50, .int .i64 decode.2)] (by kernel_rfl) ?_
                replace H : St w noF m mk12 [rowI rApiFrag 88 A130_0 c130_0 decode.1, rowI rU8 5 A12_0 c12_0 encode.1] w169 := H
                refine stD2 (i := 1) (by kernel_rfl) H.has (callR (some 49) 15 #[.int .i64 encode.2] Try.call15 (law17_num_c H.has encode.2) (by kernel_rfl) ?_)
                rintro _ w170 ⟨rfl, hx170⟩
                replace H := H.ex hx170
                refine stD2 (i := 3) (by kernel_rfl) H.has (callR (some 51) 15 #[.int .i64 decode.2] Try.call15 (law17_num_c H.has decode.2) (by kernel_rfl) ?_)
                rintro _ w171 ⟨rfl, hx171⟩
                replace H := H.ex hx171
                refine segD2 hst [4] [0, 2, 1, 3, 4] [(0, .slice A0_0 l_.length c0_0), (1, .slice A1_0 b.length c1_0), (5, .slice A12_0 encode.1.length c12_0), (7, .slice A130_0 decode.1.length c130_0), (52, .int .i64 (IntKind.i64.wrap ((law17_num encode.2) + (law17_num decode.2))))] (by kernel_rfl) ?_
                refine segD2 hst [5] [0, 2, 1, 3, 4, 5] [(0, .slice A0_0 l_.length c0_0), (1, .slice A1_0 b.length c1_0), (5, .slice A12_0 encode.1.length c12_0), (7, .slice A130_0 decode.1.length c130_0), (53, .bool ((IntKind.i64.wrap ((law17_num encode.2) + (law17_num decode.2))) != 0))] (by kernel_rfl) ?_
                rw [show ((IntKind.i64.wrap ((law17_num encode.2) + (law17_num decode.2))) != 0) = false from hb133]
                refine segD2 hst [6, 7, 9] [0, 2, 1, 3, 4, 5, 6, 7, 9] [(0, .slice A0_0 l_.length c0_0), (1, .slice A1_0 b.length c1_0), (7, .slice A130_0 decode.1.length c130_0), (54, .bool false), (55, .slice A12_0 encode.1.length c12_0), (57, .slice A0_0 l_.length c0_0)] (by kernel_rfl) ?_
                refine allD2 [8, 10] (by kernel_rfl) H.has ⟨?_, ?_, trivial⟩
                · refine (b2sS (some 56) 29 9 5 A12_0 c12_0 encode.1 Try.underlying29 Try.underlying5 Try.underlying9 (by kernel_rfl) (H.rowCs 1 rfl) ?_)
                  have hl172 : encode.1.length ≤ 9223372036854775807 := (Nat.le_trans (H.rowCap 1 rfl).1 (H.rowCap 1 rfl).2)
                  refine stD2 (i := 10) (by kernel_rfl) H.has (callR (some 58) 28 #[.slice A0_0 l_.length c0_0] Try.call28 (ref17_FragBytes_c H.has l_ A0_0 c0_0 (s0_0.mono hsub12) h_fragBy) (by kernel_rfl) ?_)
                  rintro _ w173 ⟨A173_0, c173_0, mk173, rfl, hS173⟩
                  have hsub173 := hS173.sub
                  replace H := H.call0 hS173
                  refine stD2 (i := 11) (by kernel_rfl) (H.has.sub hsub173) (b2sS (some 59) 29 9 5 A173_0 c173_0 fragBy Try.underlying29 Try.underlying5 Try.underlying9 (by kernel_rfl) (H.rowCs 0 rfl) ?_)
                  have hl174 : fragBy.length ≤ 9223372036854775807 := (Nat.le_trans (H.rowCap 0 rfl).1 (H.rowCap 0 rfl).2)
                  refine segD2 hst [12] [0, 2, 1, 3, 4, 5, 6, 7, 9, 8, 10, 11, 12] [(0, .slice A0_0 l_.length c0_0), (1, .slice A1_0 b.length c1_0), (7, .slice A130_0 decode.1.length c130_0), (54, .bool false), (60, .bool (!((ByteArray.toList ⟨encode.1.toArray⟩) == (ByteArray.toList ⟨fragBy.toArray⟩))))] (by kernel_rfl) ?_
                  rw [sne_raw encode.1 fragBy]
                  rw [show (encode.1 != fragBy) = false from hb144]
                  refine segD2 hst [13, 14, 15, 16] [0, 2, 1, 3, 4, 5, 6, 7, 9, 8, 10, 11, 12, 13, 14, 15, 16] [(1, .slice A1_0 b.length c1_0), (62, .bool false), (63, .slice A130_0 decode.1.length c130_0), (64, .slice A0_0 l_.length c0_0)] (by kernel_rfl) ?_
                  have H0_175 := H
                  obtain ⟨mf176, hsub176, hsf176, H⟩ := H.fixR 1 rfl
                  refine stD2 (i := 17) (by kernel_rfl) (H.has.sub (hsub173.trans hsub176)) (callR (some 65) 29 #[.slice A130_0 decode.1.length c130_0, .slice A0_0 l_.length c0_0] Try.call29 (ref17_SameFrags_c H.has decode.1 A130_0 c130_0 hsf176 l_ A0_0 c0_0 (s0_0.mono ((hsub12.trans hsub173).trans hsub176)) h_sameFr) (by kernel_rfl) ?_)
                  rintro _ w177 ⟨rfl, hx177⟩
                  replace H := H0_175.ex hx177
                  refine segD2 hst [18] [0, 2, 1, 3, 4, 5, 6, 7, 9, 8, 10, 11, 12, 13, 14, 15, 16, 17, 18] [(1, .slice A1_0 b.length c1_0), (62, .bool false), (66, .bool (!sameFr))] (by kernel_rfl) ?_
                  refine segD2 hst [19] [0, 2, 1, 3, 4, 5, 6, 7, 9, 8, 10, 11, 12, 13, 14, 15, 16, 17, 18, 19] [(1, .slice A1_0 b.length c1_0), (67, .bool (!sameFr))] (by kernel_rfl) ?_
                  refine endD2 (by kernel_rfl) (H.has.sub hsub173) ?_
                  rcases condT hp125 with ⟨hb178, hp125⟩ | ⟨hb178, hp125⟩
                  · rw [hb178]
                    refine seg 2 [.le 0, .co [1, 1, 1, 1]] [(1, .slice A1_0 b.length c1_0)] (by kernel_rfl) ?_
                    refine leJ (mk173) ⟨(Option.some.inj hp125).symm, (St.takeN 0 H), hsub173⟩ (by kernel_rfl)
                  · rw [hb178]
                    refine seg 5 [.co [1, 1, 1, 0, 1, 1, 1, 1, 0, 1], .le 0, .co [1, 1, 1, 1]] [(4, .bool false)] (by kernel_rfl) ?_
                    refine retR [4] [.bool false] (by kernel_rfl) (by kernel_rfl) (by kernel_rfl) ?_
                    have hret := (hfr125 _ (Option.some.inj hp125).symm)
                    subst hret
                    exact ⟨_, rfl, rfl, H.scalar⟩
                · replace H : St w noF m mk12 [rowI rApiFrag 88 A130_0 c130_0 decode.1, rowI rU8 5 A12_0 c12_0 encode.1] w171 := H
                  refine (callR (some 58) 28 #[.slice A0_0 l_.length c0_0] Try.call28 (ref17_FragBytes_c H.has l_ A0_0 c0_0 (s0_0.mono hsub12) h_fragBy) (by kernel_rfl) ?_)
                  rintro _ w179 ⟨A179_0, c179_0, mk179, rfl, hS179⟩
                  have hsub179 := hS179.sub
                  replace H := H.call0 hS179
                  refine allD2 [8, 11] (by kernel_rfl) (H.has.sub hsub179) ⟨?_, ?_, trivial⟩
                  · refine (b2sS (some 56) 29 9 5 A12_0 c12_0 encode.1 Try.underlying29 Try.underlying5 Try.underlying9 (by kernel_rfl) (H.rowCs 2 rfl) ?_)
                    have hl180 : encode.1.length ≤ 9223372036854775807 := (Nat.le_trans (H.rowCap 2 rfl).1 (H.rowCap 2 rfl).2)
                    refine stD2 (i := 11) (by kernel_rfl) (H.has.sub hsub179) (b2sS (some 59) 29 9 5 A179_0 c179_0 fragBy Try.underlying29 Try.underlying5 Try.underlying9 (by kernel_rfl) (H.rowCs 0 rfl) ?_)
                    have hl181 : fragBy.length ≤ 9223372036854775807 := (Nat.le_trans (H.rowCap 0 rfl).1 (H.rowCap 0 rfl).2)
                    refine segD2 hst [12] [0, 2, 1, 3, 4, 5, 6, 7, 9, 10, 8, 11, 12] [(0, .slice A0_0 l_.length c0_0), (1, .slice A1_0 b.length c1_0), (7, .slice A130_0 decode.1.length c130_0), (54, .bool false), (60, .bool (!((ByteArray.toList ⟨encode.1.toArray⟩) == (ByteArray.toList ⟨fragBy.toArray⟩))))] (by kernel_rfl) ?_
                    rw [sne_raw encode.1 fragBy]
                    rw [show (encode.1 != fragBy) = false from hb144]
                    refine segD2 hst [13, 14, 15, 16] [0, 2, 1, 3, 4, 5, 6, 7, 9, 10, 8, 11, 12, 13, 14, 15, 16] [(1, .slice A1_0 b.length c1_0), (62, .bool false), (63, .slice A130_0 decode.1.length c130_0), (64, .slice A0_0 l_.length c0_0)] (by kernel_rfl) ?_
                    have H0_182 := H
                    obtain ⟨mf183, hsub183, hsf183, H⟩ := H.fixR 1 rfl
                    refine stD2 (i := 17) (by kernel_rfl) (H.has.sub (hsub179.trans hsub183)) (callR (some 65) 29 #[.slice A130_0 decode.1.length c130_0, .slice A0_0 l_.length c0_0] Try.call29 (ref17_SameFrags_c H.has decode.1 A130_0 c130_0 hsf183 l_ A0_0 c0_0 (s0_0.mono ((hsub12.trans hsub179).trans hsub183)) h_sameFr) (by kernel_rfl) ?_)
                    rintro _ w184 ⟨rfl, hx184⟩
                    replace H := H0_182.ex hx184
                    refine segD2 hst [18] [0, 2, 1, 3, 4, 5, 6, 7, 9, 10, 8, 11, 12, 13, 14, 15, 16, 17, 18] [(1, .slice A1_0 b.length c1_0), (62, .bool false), (66, .bool (!sameFr))] (by kernel_rfl) ?_
                    refine segD2 hst [19] [0, 2, 1, 3, 4, 5, 6, 7, 9, 10, 8, 11, 12, 13, 14, 15, 16, 17, 18, 19] [(1, .slice A1_0 b.length c1_0), (67, .bool (!sameFr))] (by kernel_rfl) ?_
                    refine endD2 (by kernel_rfl) (H.has.sub hsub179) ?_
                    rcases condT hp125 with ⟨hb185, hp125⟩ | ⟨hb185, hp125⟩
                    · rw [hb185]
                      refine seg 2 [.le 0, .co [1, 1, 1, 1]] [(1, .slice A1_0 b.length c1_0)] (by kernel_rfl) ?_
                      refine leJ (mk179) ⟨(Option.some.inj hp125).symm, (St.takeN 0 H), hsub179⟩ (by kernel_rfl)
                    · rw [hb185]
                      refine seg 5 [.co [1, 1, 1, 0, 1, 1, 1, 1, 0, 1], .le 0, .co [1, 1, 1, 1]] [(4, .bool false)] (by kernel_rfl) ?_
                      refine retR [4] [.bool false] (by kernel_rfl) (by kernel_rfl) (by kernel_rfl) ?_
                      have hret := (hfr125 _ (Option.some.inj hp125).symm)
                      subst hret
                      exact ⟨_, rfl, rfl, H.scalar⟩
                  · refine (b2sS (some 59) 29 9 5 A179_0 c179_0 fragBy Try.underlying29 Try.underlying5 Try.underlying9 (by kernel_rfl) (H.rowCs 0 rfl) ?_)
                    have hl186 : fragBy.length ≤ 9223372036854775807 := (Nat.le_trans (H.rowCap 0 rfl).1 (H.rowCap 0 rfl).2)
                    refine stD2 (i := 8) (by kernel_rfl) (H.has.sub hsub179) (b2sS (some 56) 29 9 5 A12_0 c12_0 encode.1 Try.underlying29 Try.underlying5 Try.underlying9 (by kernel_rfl) (H.rowCs 2 rfl) ?_)
                    have hl187 : encode.1.length ≤ 9223372036854775807 := (Nat.le_trans (H.rowCap 2 rfl).1 (H.rowCap 2 rfl).2)
                    refine segD2 hst [12] [0, 2, 1, 3, 4, 5, 6, 7, 9, 10, 11, 8, 12] [(0, .slice A0_0 l_.length c0_0), (1, .slice A1_0 b.length c1_0), (7, .slice A130_0 decode.1.length c130_0), (54, .bool false), (60, .bool (!((ByteArray.toList ⟨encode.1.toArray⟩) == (ByteArray.toList ⟨fragBy.toArray⟩))))] (by kernel_rfl) ?_
                    rw [sne_raw encode.1 fragBy]
                    rw [show (encode.1 != fragBy) = false from hb144]
                    refine segD2 hst [13, 14, 15, 16] [0, 2, 1, 3, 4, 5, 6, 7, 9, 10, 11, 8, 12, 13, 14, 15, 16] [(1, .slice A1_0 b.length c1_0), (62, .bool false), (63, .slice A130_0 decode.1.length c130_0), (64, .slice A0_0 l_.length c0_0)] (by kernel_rfl) ?_
                    have H0_188 := H
                    obtain ⟨mf189, hsub189, hsf189, H⟩ := H.fixR 1 rfl
                    refine stD2 (i := 17) (by kernel_rfl) (H.has.sub (hsub179.trans hsub189)) (callR (some 65) 29 #[.slice A130_0 decode.1.length c130_0, .slice A0_0 l_.length c0_0] Try.call29 (ref17_SameFrags_c H.has decode.1 A130_0 c130_0 hsf189 l_ A0_0 c0_0 (s0_0.mono ((hsub12.trans hsub179).trans hsub189)) h_sameFr) (by kernel_rfl) ?_)
                    rintro _ w190 ⟨rfl, hx190⟩
                    replace H := H0_188.ex hx190
                    refine segD2 hst [18] [0, 2, 1, 3, 4, 5, 6, 7, 9, 10, 11, 8, 12, 13, 14, 15, 16, 17, 18] [(1, .slice A1_0 b.length c1_0), (62, .bool false), (66, .bool (!sameFr))] (by kernel_rfl) ?_
                    refine segD2 hst [19] [0, 2, 1, 3, 4, 5, 6, 7, 9, 10, 11, 8, 12, 13, 14, 15, 16, 17, 18, 19] [(1, .slice A1_0 b.length c1_0), (67, .bool (!sameFr))] (by kernel_rfl) ?_
                    refine endD2 (by kernel_rfl) (H.has.sub hsub179) ?_
                    rcases condT hp125 with ⟨hb191, hp125⟩ | ⟨hb191, hp125⟩
                    · rw [hb191]
                      refine seg 2 [.le 0, .co [1, 1, 1, 1]] [(1, .slice A1_0 b.length c1_0)] (by kernel_rfl) ?_
                      refine leJ (mk179) ⟨(Option.some.inj hp125).symm, (St.takeN 0 H), hsub179⟩ (by kernel_rfl)
                    · rw [hb191]
                      refine seg 5 [.co [1, 1, 1, 0, 1, 1, 1, 1, 0, 1], .le 0, .co [1, 1, 1, 1]] [(4, .bool false)] (by kernel_rfl) ?_
                      refine retR [4] [.bool false] (by kernel_rfl) (by kernel_rfl) (by kernel_rfl) ?_
                      have hret := (hfr125 _ (Option.some.inj hp125).symm)
                      subst hret
                      exact ⟨_, rfl, rfl, H.scalar⟩
          · rw [hb127]
            refine seg 4 [.op [1, 1, 1, 0, 1, 0, 0] 1, .co [1, 1, 1, 0, 1, 0, 1], .le 0, .co [1, 1, 1, 1]] [(1, .slice A1_0 b.length c1_0), (5, .slice A12_0 encode.1.length c12_0), (35, .int .i64 encode.2)] (by kernel_rfl) ?_
            refine st (callR (some 36) 15 #[.int .i64 encode.2] Try.call15 (law17_num_c H.has encode.2) (by kernel_rfl) ?_)
            rintro _ w192 ⟨rfl, hx192⟩
            replace H := H.ex hx192
            refine seg 2 [.op [1, 1, 1, 0, 1, 0, 0] 4, .co [1, 1, 1, 0, 1, 0, 1], .le 0, .co [1, 1, 1, 1]] [(1, .slice A1_0 b.length c1_0), (5, .slice A12_0 encode.1.length c12_0), (38, .bool ((law17_num encode.2) != 1))] (by kernel_rfl) ?_
            rcases condT hp125 with ⟨hb193, hp125⟩ | ⟨hb193, hp125⟩
            · rw [hb193]
              refine seg 10 [.co [1, 1, 1, 0, 1, 0, 1, 0, 1], .le 0, .co [1, 1, 1, 1]] [(4, .bool false)] (by kernel_rfl) ?_
              refine retR [4] [.bool false] (by kernel_rfl) (by kernel_rfl) (by kernel_rfl) ?_
              have hret := (hfr125 _ (Option.some.inj hp125).symm)
              subst hret
              exact ⟨_, rfl, rfl, H.scalar⟩
            · rw [hb193]
              refine seg 5 [.co [1, 1, 1, 0, 1, 0, 1], .le 0, .co [1, 1, 1, 1]] [(1, .slice A1_0 b.length c1_0), (42, .bool ((encode.1.length : Int) != 0))] (by kernel_rfl) ?_
              rcases condT hp125 with ⟨hb194, hp125⟩ | ⟨hb194, hp125⟩
              · rw [hb194]
                refine seg 5 [.co [1, 1, 1, 0, 1, 0, 1, 0, 1], .le 0, .co [1, 1, 1, 1]] [(4, .bool false)] (by kernel_rfl) ?_
                refine retR [4] [.bool false] (by kernel_rfl) (by kernel_rfl) (by kernel_rfl) ?_
                have hret := (hfr125 _ (Option.some.inj hp125).symm)
                subst hret
                exact ⟨_, rfl, rfl, H.scalar⟩
              · rw [hb194]
                refine seg 2 [.le 0, .co [1, 1, 1, 1]] [(1, .slice A1_0 b.length c1_0)] (by kernel_rfl) ?_
                refine leJ (mk12) ⟨(Option.some.inj hp125).symm, (St.takeN 0 H), (Sub.refl _)⟩ (by kernel_rfl)
        rintro mm126 wj125 ⟨hy125, H, hsub126⟩
        have hf := hfl125 _ hy125
        try dsimp only at hf
        refine seg 3 [.op [1, 1, 1, 1, 0] 1, .co [1, 1, 1, 1, 1]] [(1, .slice A1_0 b.length c1_0), (69, .slice A1_0 b.length c1_0)] (by kernel_rfl) ?_
        replace H : St w noF m mm126 [] wj125 := H
        obtain ⟨decode1, h_decode1, hf⟩ := bindE hf
        refine st (callR (some 70) 27 #[.slice A1_0 b.length c1_0] Try.call27 (table_DecodeFrags_c H.has b A1_0 c1_0 (s1_0.mono (hsub12.trans hsub126)) h_decode1) (by kernel_rfl) ?_)
        rintro _ w195 ⟨A195_0, c195_0, mk195, rfl, hS195⟩
        have hsub195 := hS195.sub
        replace H := H.call0 hS195
        refine seg 9 [.op [1, 1, 1, 1, 1, 0] 1, .co [1, 1, 1, 1, 1, 1]] [(9, .slice A195_0 decode1.1.length c195_0), (10, .int .i64 decode1.2), (74, .slice A1_0 b.length c1_0)] (by kernel_rfl) ?_
        obtain ⟨decode2, h_decode2, hf⟩ := bindE hf
        refine st (callR (some 75) 30 #[.slice A1_0 b.length c1_0] Try.call30 (ref17_DecodeFrags_c H.has b A1_0 c1_0 (s1_0.mono ((hsub12.trans hsub126).trans hsub195)) h_decode2) (by kernel_rfl) ?_)
        rintro _ w196 ⟨A196_0, c196_0, mk196, rfl, hS196⟩
        have hsub196 := hS196.sub
        replace H := H.call0 hS196
        refine seg 10 [.op [1, 1, 1, 1, 1, 1, 0] 2, .co [1, 1, 1, 1, 1, 1, 1]] [(10, .int .i64 decode1.2), (12, .int .i64 decode2.2), (78, .slice A195_0 decode1.1.length c195_0), (79, .slice A196_0 decode2.1.length c196_0)] (by kernel_rfl) ?_
        have H0_197 := H
        obtain ⟨mf198, hsub198, hsf198, H⟩ := H.fixR 1 rfl
        obtain ⟨mf199, hsub199, hsf199, H⟩ := H.fixR 0 rfl
        obtain ⟨sameFr1, h_sameFr1, hf⟩ := bindE hf
        refine st (callR (some 80) 29 #[.slice A195_0 decode1.1.length c195_0, .slice A196_0 decode2.1.length c196_0] Try.call29 (ref17_SameFrags_c H.has decode1.1 A195_0 c195_0 (hsf198.mono hsub199) decode2.1 A196_0 c196_0 hsf199 h_sameFr1) (by kernel_rfl) ?_)
        rintro _ w200 ⟨rfl, hx200⟩
        replace H := H0_197.ex hx200
        refine seg 1 [.op [1, 1, 1, 1, 1, 1, 0] 4, .co [1, 1, 1, 1, 1, 1, 1]] [(10, .int .i64 decode1.2), (12, .int .i64 decode2.2), (81, .bool sameFr1)] (by kernel_rfl) ?_
        rcases condT hf with ⟨hb201, hf⟩ | ⟨hb201, hf⟩
        · rw [hb201]
          refine seg 1 [.op [1, 1, 1, 1, 1, 1, 0] 5, .co [1, 1, 1, 1, 1, 1, 1]] [(12, .int .i64 decode2.2), (81, .bool true), (82, .int .i64 decode1.2)] (by kernel_rfl) ?_
          refine st (callR (some 83) 15 #[.int .i64 decode1.2] Try.call15 (law17_num_c H.has decode1.2) (by kernel_rfl) ?_)
          rintro _ w202 ⟨rfl, hx202⟩
          replace H := H.ex hx202
          refine seg 4 [.op [1, 1, 1, 1, 1, 1, 0] 10, .co [1, 1, 1, 1, 1, 1, 1]] [(87, .bool ((law17_num decode1.2) == decode2.2))] (by kernel_rfl) ?_
          rcases condT hf with ⟨hb203, hf⟩ | ⟨hb203, hf⟩
          · rw [hb203]
            replace H : St w noF m mk196 [] w202 := ((H.drop 1 rfl).drop 0 rfl)
            obtain ⟨live2, h_live2, hf⟩ := bindE hf
            refine st (callR (some 88) 8 #[] Try.call8 (law17_live_c H.has  h_live2) (by kernel_rfl) ?_)
            rintro _ w204 ⟨rfl, hx204⟩
            replace H := H.ex hx204
            refine seg 3 [.co [1, 1, 1, 1, 1, 1, 1]] [(4, .bool live2)] (by kernel_rfl) ?_
            refine retR [4] [.bool live2] (by kernel_rfl) (by kernel_rfl) (by kernel_rfl) ?_
            have hret := (Option.some.inj hf)
            subst hret
            exact ⟨_, rfl, rfl, H.scalar⟩
          · rw [hb203]
            refine seg 4 [.co [1, 1, 1, 1, 1, 1, 1]] [(4, .bool false)] (by kernel_rfl) ?_
            refine retR [4] [.bool false] (by kernel_rfl) (by kernel_rfl) (by kernel_rfl) ?_
            have hret := (Option.some.inj hf)
            subst hret
            exact ⟨_, rfl, rfl, H.scalar⟩
        · rw [hb201]
          refine seg 10 [.co [1, 1, 1, 1, 1, 1, 1]] [(4, .bool false)] (by kernel_rfl) ?_
          refine retR [4] [.bool false] (by kernel_rfl) (by kernel_rfl) (by kernel_rfl) ?_
          have hret := (Option.some.inj hf)
          subst hret
          exact ⟨_, rfl, rfl, H.scalar⟩
  · rw [hb4]
    have p4 := of_decide_eq_false hb4
    refine seg 10 [.co [1, 0, 1], .co [1, 1]] [(0, .slice A0_0 l_.length c0_0), (1, .slice A1_0 b.length c1_0), (25, .bool (decide ((b.length : Int) > 3000)))] (by kernel_rfl) ?_
    rcases condT hf with ⟨hb207, hf⟩ | ⟨hb207, hf⟩
    · rw [hb207]
      have p207 := of_decide_eq_true hb207
      refine seg 3 [.op [1, 0, 1, 0, 0] 0, .co [1, 0, 1, 0, 1], .co [1, 1]] [] (by kernel_rfl) ?_
      obtain ⟨live3, h_live3, hf⟩ := bindE hf
      refine st (callR (some 26) 8 #[] Try.call8 (law17_live_c H.has  h_live3) (by kernel_rfl) ?_)
      rintro _ w208 ⟨rfl, hx208⟩
      replace H := H.ex hx208
      refine seg 2 [.co [1, 0, 1, 0, 1], .co [1, 1]] [(4, .bool live3)] (by kernel_rfl) ?_
      refine retR [4] [.bool live3] (by kernel_rfl) (by kernel_rfl) (by kernel_rfl) ?_
      have hret := (Option.some.inj hf)
      subst hret
      exact ⟨_, rfl, rfl, H.scalar⟩
    · rw [hb207]
      have p207 := of_decide_eq_false hb207
      refine seg 5 [.op [1, 1, 0] 1, .co [1, 1, 1]] [(0, .slice A0_0 l_.length c0_0), (1, .slice A1_0 b.length c1_0), (28, .slice A0_0 l_.length c0_0)] (by kernel_rfl) ?_
      obtain ⟨encode1, h_encode1, hf⟩ := bindE hf
      refine st (callR (some 29) 25 #[.slice A0_0 l_.length c0_0] Try.call25 (table_EncodeFrags_c H.has l_ A0_0 c0_0 s0_0 h_encode1) (by kernel_rfl) ?_)
      rintro _ w209 ⟨A209_0, c209_0, mk209, rfl, hS209⟩
      have hsub209 := hS209.sub
      replace H := H.call0 hS209
      refine seg 10 [.op [1, 1, 1, 0, 0] 1, .co [1, 1, 1, 0, 1], .co [1, 1, 1, 1]] [(0, .slice A0_0 l_.length c0_0), (1, .slice A1_0 b.length c1_0), (5, .slice A209_0 encode1.1.length c209_0), (6, .int .i64 encode1.2), (32, .slice A0_0 l_.length c0_0)] (by kernel_rfl) ?_
      replace H : St w noF m mk209 [rowI rU8 5 A209_0 c209_0 encode1.1] w209 := H
      obtain ⟨rightF1, h_rightF1, hf⟩ := bindE hf
      refine st (callR (some 33) 26 #[.slice A0_0 l_.length c0_0] Try.call26 (ref17_RightFrags_c H.has l_ A0_0 c0_0 (s0_0.mono hsub209) h_rightF1) (by kernel_rfl) ?_)
      rintro _ w210 ⟨rfl, hx210⟩
      replace H := H.ex hx210
      refine seg 2 [.co [1, 1, 1, 0, 1], .co [1, 1, 1, 1]] [(0, .slice A0_0 l_.length c0_0), (1, .slice A1_0 b.length c1_0), (5, .slice A209_0 encode1.1.length c209_0), (6, .int .i64 encode1.2), (34, .bool (!rightF1))] (by kernel_rfl) ?_
      obtain ⟨y245, hp245, hfl245, hfr245⟩ := bndE hf
      refine joinR 0 (fun (x : Mem) => [(1, .slice A1_0 b.length c1_0)]) (fun (x : Mem) (wj245 : World) => y245 = .inl () ∧ St w noF m x [] wj245 ∧ Sub mk209 x) (by kernel_rfl) ?_ ?_
      · rcases condT hp245 with ⟨hb247, hp245⟩ | ⟨hb247, hp245⟩
        · rw [hb247]
          refine seg 4 [.op [1, 1, 1, 0, 1, 1, 0] 1, .co [1, 1, 1, 0, 1, 1, 1], .le 0, .co [1, 1, 1, 1]] [(0, .slice A0_0 l_.length c0_0), (1, .slice A1_0 b.length c1_0), (5, .slice A209_0 encode1.1.length c209_0), (6, .int .i64 encode1.2), (44, .slice A209_0 encode1.1.length c209_0)] (by kernel_rfl) ?_
          have H0_248 := H
          obtain ⟨mf249, hsub249, hsf249, H⟩ := H.fixR 0 rfl
          obtain ⟨decode3, h_decode3, hp245⟩ := bindE hp245
          refine st (callR (some 45) 27 #[.slice A209_0 encode1.1.length c209_0] Try.call27 (table_DecodeFrags_c H.has encode1.1 A209_0 c209_0 hsf249 h_decode3) (by kernel_rfl) ?_)
          rintro _ w250 ⟨A250_0, c250_0, mk250, rfl, hS250⟩
          replace H := H0_248.callB hS250 ⟨rowI_ind (fun _ _ _ _ h => h), trivial⟩
          refine seg 7 [.co [1, 1, 1, 0, 1, 1, 1, 0], .co [1, 1, 1, 0, 1, 1, 1, 1], .le 0, .co [1, 1, 1, 1]] [(0, .slice A0_0 l_.length c0_0), (1, .slice A1_0 b.length c1_0), (5, .slice A209_0 encode1.1.length c209_0), (6, .int .i64 encode1.2), (7, .slice A250_0 decode3.1.length c250_0), (8, .int .i64 decode3.2)] (by kernel_rfl) ?_
          rcases condT hp245 with ⟨hb253, hp245⟩ | ⟨hb253, hp245⟩
          · have hst : statB (bodyOf Try.f7) [1, 1, 1, 0, 1, 1, 1, 0] = true := by kernel_rfl
            refine drawS (Has mk209) H (by kernel_rfl) (by kernel_rfl) ?_
            intro w256 H
            refine segD2 hst [0, 2] [0, 2] [(0, .slice A0_0 l_.length c0_0), (1, .slice A1_0 b.length c1_0), (5, .slice A209_0 encode1.1.length c209_0), (7, .slice A250_0 decode3.1.length c250_0), (48, .int .i64 encode1.2), (50, .int .i64 decode3.2)] (by kernel_rfl) ?_
            replace H : St w noF m mk209 [rowI rApiFrag 88 A250_0 c250_0 decode3.1, rowI rU8 5 A209_0 c209_0 encode1.1] w256 := H
            refine stD2 (i := 1) (by kernel_rfl) H.has (callR (some 49) 15 #[.int .i64 encode1.2] Try.call15 (law17_num_c H.has encode1.2) (by kernel_rfl) ?_)
            rintro _ w257 ⟨rfl, hx257⟩
            replace H := H.ex hx257
            refine stD2 (i := 3) (by kernel_rfl) H.has (callR (some 51) 15 #[.int .i64 decode3.2] Try.call15 (law17_num_c H.has decode3.2) (by kernel_rfl) ?_)
            rintro _ w258 ⟨rfl, hx258⟩
            replace H := H.ex hx258
            refine segD2 hst [4] [0, 2, 1, 3, 4] [(0, .slice A0_0 l_.length c0_0), (1, .slice A1_0 b.length c1_0), (5, .slice A209_0 encode1.1.length c209_0), (7, .slice A250_0 decode3.1.length c250_0), (52, .int .i64 (IntKind.i64.wrap ((law17_num encode1.2) + (law17_num decode3.2))))] (by kernel_rfl) ?_
            refine segD2 hst [5] [0, 2, 1, 3, 4, 5] [(0, .slice A0_0 l_.length c0_0), (1, .slice A1_0 b.length c1_0), (5, .slice A209_0 encode1.1.length c209_0), (7, .slice A250_0 decode3.1.length c250_0), (53, .bool ((IntKind.i64.wrap ((law17_num encode1.2) + (law17_num decode3.2))) != 0))] (by kernel_rfl) ?_
            rw [show ((IntKind.i64.wrap ((law17_num encode1.2) + (law17_num decode3.2))) != 0) = true from hb253]
            refine segD2 hst [6, 7, 8, 9, 10, 11, 12, 13, 14, 15, 16, 17, 18, 19] [0, 2, 1, 3, 4, 5, 6, 7, 8, 9, 10, 11, 12, 13, 14, 15, 16, 17, 18, 19] [(1, .slice A1_0 b.length c1_0), (67, .bool true)] (by kernel_rfl) ?_
            refine endD2 (by kernel_rfl) H.has ?_
            refine seg 5 [.co [1, 1, 1, 0, 1, 1, 1, 1, 0, 1], .le 0, .co [1, 1, 1, 1]] [(4, .bool false)] (by kernel_rfl) ?_
            refine retR [4] [.bool false] (by kernel_rfl) (by kernel_rfl) (by kernel_rfl) ?_
            have hret := (hfr245 _ (Option.some.inj hp245).symm)
            subst hret
            exact ⟨_, rfl, rfl, H.scalar⟩
          · obtain ⟨fragBy1, h_fragBy1, hp245⟩ := bindE hp245
            rcases condT hp245 with ⟨hb264, hp245⟩ | ⟨hb264, hp245⟩
            · have hst : statB (bodyOf Try.f7) [1, 1, 1, 0, 1, 1, 1, 0] = true := by kernel_rfl
              refine drawS (Has mk209) H (by kernel_rfl) (by kernel_rfl) ?_
              intro w270 H
              refine segD2 hst [0, 2] [0, 2] [(0, .slice A0_0 l_.length c0_0), (1, .slice A1_0 b.length c1_0), (5, .slice A209_0 encode1.1.length c209_0), (7, .slice A250_0 decode3.1.length c250_0), (48, .int .i64 encode1.2), (50, .int .i64 decode3.2)] (by kernel_rfl) ?_
              replace H : St w noF m mk209 [rowI rApiFrag 88 A250_0 c250_0 decode3.1, rowI rU8 5 A209_0 c209_0 encode1.1] w270 := H
              refine stD2 (i := 1) (by kernel_rfl) H.has (callR (some 49) 15 #[.int .i64 encode1.2] Try.call15 (law17_num_c H.has encode1.2) (by kernel_rfl) ?_)
              rintro _ w271 ⟨rfl, hx271⟩
              replace H := H.ex hx271
              refine stD2 (i := 3) (by kernel_rfl) H.has (callR (some 51) 15 #[.int .i64 decode3.2] Try.call15 (law17_num_c H.has decode3.2) (by kernel_rfl) ?_)
              rintro _ w272 ⟨rfl, hx272⟩
              replace H := H.ex hx272
              refine segD2 hst [4] [0, 2, 1, 3, 4] [(0, .slice A0_0 l_.length c0_0), (1, .slice A1_0 b.length c1_0), (5, .slice A209_0 encode1.1.length c209_0), (7, .slice A250_0 decode3.1.length c250_0), (52, .int .i64 (IntKind.i64.wrap ((law17_num encode1.2) + (law17_num decode3.2))))] (by kernel_rfl) ?_
              refine segD2 hst [5] [0, 2, 1, 3, 4, 5] [(0, .slice A0_0 l_.length c0_0), (1, .slice A1_0 b.length c1_0), (5, .slice A209_0 encode1.1.length c209_0), (7, .slice A250_0 decode3.1.length c250_0), (53, .bool ((IntKind.i64.wrap ((law17_num encode1.2) + (law17_num decode3.2))) != 0))] (by kernel_rfl) ?_
              rw [show ((IntKind.i64.wrap ((law17_num encode1.2) + (law17_num decode3.2))) != 0) = false from hb253]
              refine segD2 hst [6, 7, 9] [0, 2, 1, 3, 4, 5, 6, 7, 9] [(0, .slice A0_0 l_.length c0_0), (1, .slice A1_0 b.length c1_0), (7, .slice A250_0 decode3.1.length c250_0), (54, .bool false), (55, .slice A209_0 encode1.1.length c209_0), (57, .slice A0_0 l_.length c0_0)] (by kernel_rfl) ?_
              refine allD2 [8, 10] (by kernel_rfl) H.has ⟨?_, ?_, trivial⟩
              · refine (b2sS (some 56) 29 9 5 A209_0 c209_0 encode1.1 Try.underlying29 Try.underlying5 Try.underlying9 (by kernel_rfl) (H.rowCs 1 rfl) ?_)
                have hl273 : encode1.1.length ≤ 9223372036854775807 := (Nat.le_trans (H.rowCap 1 rfl).1 (H.rowCap 1 rfl).2)
                refine stD2 (i := 10) (by kernel_rfl) H.has (callR (some 58) 28 #[.slice A0_0 l_.length c0_0] Try.call28 (ref17_FragBytes_c H.has l_ A0_0 c0_0 (s0_0.mono hsub209) h_fragBy1) (by kernel_rfl) ?_)
                rintro _ w274 ⟨A274_0, c274_0, mk274, rfl, hS274⟩
                have hsub274 := hS274.sub
                replace H := H.call0 hS274
                refine stD2 (i := 11) (by kernel_rfl) (H.has.sub hsub274) (b2sS (some 59) 29 9 5 A274_0 c274_0 fragBy1 Try.underlying29 Try.underlying5 Try.underlying9 (by kernel_rfl) (H.rowCs 0 rfl) ?_)
                have hl275 : fragBy1.length ≤ 9223372036854775807 := (Nat.le_trans (H.rowCap 0 rfl).1 (H.rowCap 0 rfl).2)
                refine segD2 hst [12] [0, 2, 1, 3, 4, 5, 6, 7, 9, 8, 10, 11, 12] [(0, .slice A0_0 l_.length c0_0), (1, .slice A1_0 b.length c1_0), (7, .slice A250_0 decode3.1.length c250_0), (54, .bool false), (60, .bool (!((ByteArray.toList ⟨encode1.1.toArray⟩) == (ByteArray.toList ⟨fragBy1.toArray⟩))))] (by kernel_rfl) ?_
                rw [sne_raw encode1.1 fragBy1]
                rw [show (encode1.1 != fragBy1) = true from hb264]
                refine segD2 hst [13, 14, 15, 16, 17, 18, 19] [0, 2, 1, 3, 4, 5, 6, 7, 9, 8, 10, 11, 12, 13, 14, 15, 16, 17, 18, 19] [(1, .slice A1_0 b.length c1_0), (67, .bool true)] (by kernel_rfl) ?_
                refine endD2 (by kernel_rfl) (H.has.sub hsub274) ?_
                refine seg 5 [.co [1, 1, 1, 0, 1, 1, 1, 1, 0, 1], .le 0, .co [1, 1, 1, 1]] [(4, .bool false)] (by kernel_rfl) ?_
                refine retR [4] [.bool false] (by kernel_rfl) (by kernel_rfl) (by kernel_rfl) ?_
                have hret := (hfr245 _ (Option.some.inj hp245).symm)
                subst hret
                exact ⟨_, rfl, rfl, H.scalar⟩
              · refine (callR (some 58) 28 #[.slice A0_0 l_.length c0_0] Try.call28 (ref17_FragBytes_c H.has l_ A0_0 c0_0 (s0_0.mono hsub209) h_fragBy1) (by kernel_rfl) ?_)
                rintro _ w276 ⟨A276_0, c276_0, mk276, rfl, hS276⟩
                have hsub276 := hS276.sub
                replace H := H.call0 hS276
                refine allD2 [8, 11] (by kernel_rfl) (H.has.sub hsub276) ⟨?_, ?_, trivial⟩
                · replace H : St w noF m mk276 [rowI rU8 5 A276_0 c276_0 fragBy1, rowI rApiFrag 88 A250_0 c250_0 decode3.1, rowI rU8 5 A209_0 c209_0 encode1.1] w276 := H
                  refine (b2sS (some 56) 29 9 5 A209_0 c209_0 encode1.1 Try.underlying29 Try.underlying5 Try.underlying9 (by kernel_rfl) (H.rowCs 2 rfl) ?_)
                  have hl277 : encode1.1.length ≤ 9223372036854775807 := (Nat.le_trans (H.rowCap 2 rfl).1 (H.rowCap 2 rfl).2)
                  refine stD2 (i := 11) (by kernel_rfl) (H.has.sub hsub276) (b2sS (some 59) 29 9 5 A276_0 c276_0 fragBy1 Try.underlying29 Try.underlying5 Try.underlying9 (by kernel_rfl) (H.rowCs 0 rfl) ?_)
                  have hl278 : fragBy1.length ≤ 9223372036854775807 := (Nat.le_trans (H.rowCap 0 rfl).1 (H.rowCap 0 rfl).2)
                  refine segD2 hst [12] [0, 2, 1, 3, 4, 5, 6, 7, 9, 10, 8, 11, 12] [(0, .slice A0_0 l_.length c0_0), (1, .slice A1_0 b.length c1_0), (7, .slice A250_0 decode3.1.length c250_0), (54, .bool false), (60, .bool (!((ByteArray.toList ⟨encode1.1.toArray⟩) == (ByteArray.toList ⟨fragBy1.toArray⟩))))] (by kernel_rfl) ?_
                  rw [sne_raw encode1.1 fragBy1]
                  rw [show (encode1.1 != fragBy1) = true from hb264]
                  refine segD2 hst [13, 14, 15, 16, 17, 18, 19] [0, 2, 1, 3, 4, 5, 6, 7, 9, 10, 8, 11, 12, 13, 14, 15, 16, 17, 18, 19] [(1, .slice A1_0 b.length c1_0), (67, .bool true)] (by kernel_rfl) ?_
                  refine endD2 (by kernel_rfl) (H.has.sub hsub276) ?_
                  refine seg 5 [.co [1, 1, 1, 0, 1, 1, 1, 1, 0, 1], .le 0, .co [1, 1, 1, 1]] [(4, .bool false)] (by kernel_rfl) ?_
                  refine retR [4] [.bool false] (by kernel_rfl) (by kernel_rfl) (by kernel_rfl) ?_
                  have hret := (hfr245 _ (Option.some.inj hp245).symm)
                  subst hret
                  exact ⟨_, rfl, rfl, H.scalar⟩
                · refine (b2sS (some 59) 29 9 5 A276_0 c276_0 fragBy1 Try.underlying29 Try.underlying5 Try.underlying9 (by kernel_rfl) (H.rowCs 0 rfl) ?_)
                  have hl279 : fragBy1.length ≤ 9223372036854775807 := (Nat.le_trans (H.rowCap 0 rfl).1 (H.rowCap 0 rfl).2)
                  refine stD2 (i := 8) (by kernel_rfl) (H.has.sub hsub276) (b2sS (some 56) 29 9 5 A209_0 c209_0 encode1.1 Try.underlying29 Try.underlying5 Try.underlying9 (by kernel_rfl) (H.rowCs 2 rfl) ?_)
                  have hl280 : encode1.1.length ≤ 9223372036854775807 := (Nat.le_trans (H.rowCap 2 rfl).1 (H.rowCap 2 rfl).2)
                  refine segD2 hst [12] [0, 2, 1, 3, 4, 5, 6, 7, 9, 10, 11, 8, 12] [(0, .slice A0_0 l_.length c0_0), (1, .slice A1_0 b.length c1_0), (7, .slice A250_0 decode3.1.length c250_0), (54, .bool false), (60, .bool (!((ByteArray.toList ⟨encode1.1.toArray⟩) == (ByteArray.toList ⟨fragBy1.toArray⟩))))] (by kernel_rfl) ?_
                  rw [sne_raw encode1.1 fragBy1]
                  rw [show (encode1.1 != fragBy1) = true from hb264]
                  refine segD2 hst [13, 14, 15, 16, 17, 18, 19] [0, 2, 1, 3, 4, 5, 6, 7, 9, 10, 11, 8, 12, 13, 14, 15, 16, 17, 18, 19] [(1, .slice A1_0 b.length c1_0), (67, .bool true)] (by kernel_rfl) ?_
                  refine endD2 (by kernel_rfl) (H.has.sub hsub276) ?_
                  refine seg 5 [.co [1, 1, 1, 0, 1, 1, 1, 1, 0, 1], .le 0, .co [1, 1, 1, 1]] [(4, .bool false)] (by kernel_rfl) ?_
                  refine retR [4] [.bool false] (by kernel_rfl) (by kernel_rfl) (by kernel_rfl) ?_
                  have hret := (hfr245 _ (Option.some.inj hp245).symm)
                  subst hret
                  exact ⟨_, rfl, rfl, H.scalar⟩
            · obtain ⟨sameFr2, h_sameFr2, hp245⟩ := bindE hp245
              have hst : statB (bodyOf Try.f7) [1, 1, 1, 0, 1, 1, 1, 0] = true := by kernel_rfl
              refine drawS (Has mk209) H (by kernel_rfl) (by kernel_rfl) ?_
              intro w289 H
              refine segD2 hst [0, 2] [0, 2] [(0, .slice A0_0 l_.length c0_0), (1, .slice A1_0 b.length c1_0), (5, .slice A209_0 encode1.1.length c209_0), (7, .slice A250_0 decode3.1.length c250_0), (48, .int .i64 encode1.2), (50, .int .i64 decode3.2)] (by kernel_rfl) ?_
              replace H : St w noF m mk209 [rowI rApiFrag 88 A250_0 c250_0 decode3.1, rowI rU8 5 A209_0 c209_0 encode1.1] w289 := H
              refine stD2 (i := 1) (by kernel_rfl) H.has (callR (some 49) 15 #[.int .i64 encode1.2] Try.call15 (law17_num_c H.has encode1.2) (by kernel_rfl) ?_)
              rintro _ w290 ⟨rfl, hx290⟩
              replace H := H.ex hx290
              refine stD2 (i := 3) (by kernel_rfl) H.has (callR (some 51) 15 #[.int .i64 decode3.2] Try.call15 (law17_num_c H.has decode3.2) (by kernel_rfl) ?_)
              rintro _ w291 ⟨rfl, hx291⟩
              replace H := H.ex hx291
              refine segD2 hst [4] [0, 2, 1, 3, 4] [(0, .slice A0_0 l_.length c0_0), (1, .slice A1_0 b.length c1_0), (5, .slice A209_0 encode1.1.length c209_0), (7, .slice A250_0 decode3.1.length c250_0), (52, .int .i64 (IntKind.i64.wrap ((law17_num encode1.2) + (law17_num decode3.2))))] (by kernel_rfl) ?_
              refine segD2 hst [5] [0, 2, 1, 3, 4, 5] [(0, .slice A0_0 l_.length c0_0), (1, .slice A1_0 b.length c1_0), (5, .slice A209_0 encode1.1.length c209_0), (7, .slice A250_0 decode3.1.length c250_0), (53, .bool ((IntKind.i64.wrap ((law17_num encode1.2) + (law17_num decode3.2))) != 0))] (by kernel_rfl) ?_
              rw [show ((IntKind.i64.wrap ((law17_num encode1.2) + (law17_num decode3.2))) != 0) = false from hb253]
              refine segD2 hst [6, 7, 9] [0, 2, 1, 3, 4, 5, 6, 7, 9] [(0, .slice A0_0 l_.length c0_0), (1, .slice A1_0 b.length c1_0), (7, .slice A250_0 decode3.1.length c250_0), (54, .bool false), (55, .slice A209_0 encode1.1.length c209_0), (57, .slice A0_0 l_.length c0_0)] (by kernel_rfl) ?_
              refine allD2 [8, 10] (by kernel_rfl) H.has ⟨?_, ?_, trivial⟩
              · refine (b2sS (some 56) 29 9 5 A209_0 c209_0 encode1.1 Try.underlying29 Try.underlying5 Try.underlying9 (by kernel_rfl) (H.rowCs 1 rfl) ?_)
                have hl292 : encode1.1.length ≤ 9223372036854775807 := (Nat.le_trans (H.rowCap 1 rfl).1 (H.rowCap 1 rfl).2)
                refine stD2 (i := 10) (by kernel_rfl) H.has (callR (some 58) 28 #[.slice A0_0 l_.length c0_0] Try.call28 (ref17_FragBytes_c H.has l_ A0_0 c0_0 (s0_0.mono hsub209) h_fragBy1) (by kernel_rfl) ?_)
                rintro _ w293 ⟨A293_0, c293_0, mk293, rfl, hS293⟩
                have hsub293 := hS293.sub
                replace H := H.call0 hS293
                refine stD2 (i := 11) (by kernel_rfl) (H.has.sub hsub293) (b2sS (some 59) 29 9 5 A293_0 c293_0 fragBy1 Try.underlying29 Try.underlying5 Try.underlying9 (by kernel_rfl) (H.rowCs 0 rfl) ?_)
                have hl294 : fragBy1.length ≤ 9223372036854775807 := (Nat.le_trans (H.rowCap 0 rfl).1 (H.rowCap 0 rfl).2)
                refine segD2 hst [12] [0, 2, 1, 3, 4, 5, 6, 7, 9, 8, 10, 11, 12] [(0, .slice A0_0 l_.length c0_0), (1, .slice A1_0 b.length c1_0), (7, .slice A250_0 decode3.1.length c250_0), (54, .bool false), (60, .bool (!((ByteArray.toList ⟨encode1.1.toArray⟩) == (ByteArray.toList ⟨fragBy1.toArray⟩))))] (by kernel_rfl) ?_
                rw [sne_raw encode1.1 fragBy1]
                rw [show (encode1.1 != fragBy1) = false from hb264]
                refine segD2 hst [13, 14, 15, 16] [0, 2, 1, 3, 4, 5, 6, 7, 9, 8, 10, 11, 12, 13, 14, 15, 16] [(1, .slice A1_0 b.length c1_0), (62, .bool false), (63, .slice A250_0 decode3.1.length c250_0), (64, .slice A0_0 l_.length c0_0)] (by kernel_rfl) ?_
                have H0_295 := H
                obtain ⟨mf296, hsub296, hsf296, H⟩ := H.fixR 1 rfl
                refine stD2 (i := 17) (by kernel_rfl) (H.has.sub (hsub293.trans hsub296)) (callR (some 65) 29 #[.slice A250_0 decode3.1.length c250_0, .slice A0_0 l_.length c0_0] Try.call29 (ref17_SameFrags_c H.has decode3.1 A250_0 c250_0 hsf296 l_ A0_0 c0_0 (s0_0.mono ((hsub209.trans hsub293).trans hsub296)) h_sameFr2) (by kernel_rfl) ?_)
                rintro _ w297 ⟨rfl, hx297⟩
                replace H := H0_295.ex hx297
                refine segD2 hst [18] [0, 2, 1, 3, 4, 5, 6, 7, 9, 8, 10, 11, 12, 13, 14, 15, 16, 17, 18] [(1, .slice A1_0 b.length c1_0), (62, .bool false), (66, .bool (!sameFr2))] (by kernel_rfl) ?_
                refine segD2 hst [19] [0, 2, 1, 3, 4, 5, 6, 7, 9, 8, 10, 11, 12, 13, 14, 15, 16, 17, 18, 19] [(1, .slice A1_0 b.length c1_0), (67, .bool (!sameFr2))] (by kernel_rfl) ?_
                refine endD2 (by kernel_rfl) (H.has.sub hsub293) ?_
                rcases condT hp245 with ⟨hb298, hp245⟩ | ⟨hb298, hp245⟩
                · rw [hb298]
                  refine seg 2 [.le 0, .co [1, 1, 1, 1]] [(1, .slice A1_0 b.length c1_0)] (by kernel_rfl) ?_
                  refine leJ (mk293) ⟨(Option.some.inj hp245).symm, (St.takeN 0 H), hsub293⟩ (by kernel_rfl)
                · rw [hb298]
                  refine seg 5 [.co [1, 1, 1, 0, 1, 1, 1, 1, 0, 1], .le 0, .co [1, 1, 1, 1]] [(4, .bool false)] (by kernel_rfl) ?_
                  refine retR [4] [.bool false] (by kernel_rfl) (by kernel_rfl) (by kernel_rfl) ?_
                  have hret := (hfr245 _ (Option.some.inj hp245).symm)
                  subst hret
                  exact ⟨_, rfl, rfl, H.scalar⟩
              · replace H : St w noF m mk209 [rowI rApiFrag 88 A250_0 c250_0 decode3.1, rowI rU8 5 A209_0 c209_0 encode1.1] w291 := H
                refine (callR (some 58) 28 #[.slice A0_0 l_.length c0_0] Try.call28 (ref17_FragBytes_c H.has l_ A0_0 c0_0 (s0_0.mono hsub209) h_fragBy1) (by kernel_rfl) ?_)
                rintro _ w299 ⟨A299_0, c299_0, mk299, rfl, hS299⟩
                have hsub299 := hS299.sub
                replace H := H.call0 hS299
                refine allD2 [8, 11] (by kernel_rfl) (H.has.sub hsub299) ⟨?_, ?_, trivial⟩
                · refine (b2sS (some 56) 29 9 5 A209_0 c209_0 encode1.1 Try.underlying29 Try.underlying5 Try.underlying9 (by kernel_rfl) (H.rowCs 2 rfl) ?_)
                  have hl300 : encode1.1.length ≤ 9223372036854775807 := (Nat.le_trans (H.rowCap 2 rfl).1 (H.rowCap 2 rfl).2)
                  refine stD2 (i := 11) (by kernel_rfl) (H.has.sub hsub299) (b2sS (some 59) 29 9 5 A299_0 c299_0 fragBy1 Try.underlying29 Try.underlying5 Try.underlying9 (by kernel_rfl) (H.rowCs 0 rfl) ?_)
                  have hl301 : fragBy1.length ≤ 9223372036854775807 := (Nat.le_trans (H.rowCap 0 rfl).1 (H.rowCap 0 rfl).2)
                  refine segD2 hst [12] [0, 2, 1, 3, 4, 5, 6, 7, 9, 10, 8, 11, 12] [(0, .slice A0_0 l_.length c0_0), (1, .slice A1_0 b.length c1_0), (7, .slice A250_0 decode3.1.length c250_0), (54, .bool false), (60, .bool (!((ByteArray.toList ⟨encode1.1.toArray⟩) == (ByteArray.toList ⟨fragBy1.toArray⟩))))] (by kernel_rfl) ?_
                  rw [sne_raw encode1.1 fragBy1]
                  rw [show (encode1.1 != fragBy1) = false from hb264]
                  refine segD2 hst [13, 14, 15, 16] [0, 2, 1, 3, 4, 5, 6, 7, 9, 10, 8, 11, 12, 13, 14, 15, 16] [(1, .slice A1_0 b.length c1_0), (62, .bool false), (63, .slice A250_0 decode3.1.length c250_0), (64, .slice A0_0 l_.length c0_0)] (by kernel_rfl) ?_
                  have H0_302 := H
                  obtain ⟨mf303, hsub303, hsf303, H⟩ := H.fixR 1 rfl
                  refine stD2 (i := 17) (by kernel_rfl) (H.has.sub (hsub299.trans hsub303)) (callR (some 65) 29 #[.slice A250_0 decode3.1.length c250_0, .slice A0_0 l_.length c0_0] Try.call29 (ref17_SameFrags_c H.has decode3.1 A250_0 c250_0 hsf303 l_ A0_0 c0_0 (s0_0.mono ((hsub209.trans hsub299).trans hsub303)) h_sameFr2) (by kernel_rfl) ?_)
                  rintro _ w304 ⟨rfl, hx304⟩
                  replace H := H0_302.ex hx304
                  refine segD2 hst [18] [0, 2, 1, 3, 4, 5, 6, 7, 9, 10, 8, 11, 12, 13, 14, 15, 16, 17, 18] [(1, .slice A1_0 b.length c1_0), (62, .bool false), (66, .bool (!sameFr2))] (by kernel_rfl) ?_
                  refine segD2 hst [19] [0, 2, 1, 3, 4, 5, 6, 7, 9, 10, 8, 11, 12, 13, 14, 15, 16, 17, 18, 19] [(1, .slice A1_0 b.length c1_0), (67, .bool (!sameFr2))] (by kernel_rfl) ?_
                  refine endD2 (by kernel_rfl) (H.has.sub hsub299) ?_
                  rcases condT hp245 with ⟨hb305, hp245⟩ | ⟨hb305, hp245⟩
                  · rw [hb305]
                    refine seg 2 [.le 0, .co [1, 1, 1, 1]] [(1, .slice A1_0 b.length c1_0)] (by kernel_rfl) ?_
                    refine leJ (mk299) ⟨(Option.some.inj hp245).symm, (St.takeN 0 H), hsub299⟩ (by kernel_rfl)
                  · rw [hb305]
                    refine seg 5 [.co [1, 1, 1, 0, 1, 1, 1, 1, 0, 1], .le 0, .co [1, 1, 1, 1]] [(4, .bool false)] (by kernel_rfl) ?_
                    refine retR [4] [.bool false] (by kernel_rfl) (by kernel_rfl) (by kernel_rfl) ?_
                    have hret := (hfr245 _ (Option.some.inj hp245).symm)
                    subst hret
                    exact ⟨_, rfl, rfl, H.scalar⟩
                · refine (b2sS (some 59) 29 9 5 A299_0 c299_0 fragBy1 Try.underlying29 Try.underlying5 Try.underlying9 (by kernel_rfl) (H.rowCs 0 rfl) ?_)
                  have hl306 : fragBy1.length ≤ 9223372036854775807 := (Nat.le_trans (H.rowCap 0 rfl).1 (H.rowCap 0 rfl).2)
                  refine stD2 (i := 8) (by kernel_rfl) (H.has.sub hsub299) (b2sS (some 56) 29 9 5 A209_0 c209_0 encode1.1 Try.underlying29 Try.underlying5 Try.underlying9 (by kernel_rfl) (H.rowCs 2 rfl) ?_)
                  have hl307 : encode1.1.length ≤ 9223372036854775807 := (Nat.le_trans (H.rowCap 2 rfl).1 (H.rowCap 2 rfl).2)
                  refine segD2 hst [12] [0, 2, 1, 3, 4, 5, 6, 7, 9, 10, 11, 8, 12] [(0, .slice A0_0 l_.length c0_0), (1, .slice A1_0 b.length c1_0), (7, .slice A250_0 decode3.1.length c250_0), (54, .bool false), (60, .bool (!((ByteArray.toList ⟨encode1.1.toArray⟩) == (ByteArray.toList ⟨fragBy1.toArray⟩))))] (by kernel_rfl) ?_
                  rw [sne_raw encode1.1 fragBy1]
                  rw [show (encode1.1 != fragBy1) = false from hb264]
                  refine segD2 hst [13, 14, 15, 16] [0, 2, 1, 3, 4, 5, 6, 7, 9, 10, 11, 8, 12, 13, 14, 15, 16] [(1, .slice A1_0 b.length c1_0), (62, .bool false), (63, .slice A250_0 decode3.1.length c250_0), (64, .slice A0_0 l_.length c0_0)] (by kernel_rfl) ?_
                  have H0_308 := H
                  obtain ⟨mf309, hsub309, hsf309, H⟩ := H.fixR 1 rfl
                  refine stD2 (i := 17) (by kernel_rfl) (H.has.sub (hsub299.trans hsub309)) (callR (some 65) 29 #[.slice A250_0 decode3.1.length c250_0, .slice A0_0 l_.length c0_0] Try.call29 (ref17_SameFrags_c H.has decode3.1 A250_0 c250_0 hsf309 l_ A0_0 c0_0 (s0_0.mono ((hsub209.trans hsub299).trans hsub309)) h_sameFr2) (by kernel_rfl) ?_)
                  rintro _ w310 ⟨rfl, hx310⟩
                  replace H := H0_308.ex hx310
                  refine segD2 hst [18] [0, 2, 1, 3, 4, 5, 6, 7, 9, 10, 11, 8, 12, 13, 14, 15, 16, 17, 18] [(1, .slice A1_0 b.length c1_0), (62, .bool false), (66, .bool (!sameFr2))] (by kernel_rfl) ?_
                  refine segD2 hst [19] [0, 2, 1, 3, 4, 5, 6, 7, 9, 10, 11, 8, 12, 13, 14, 15, 16, 17, 18, 19] [(1, .slice A1_0 b.length c1_0), (67, .bool (!sameFr2))] (by kernel_rfl) ?_
                  refine endD2 (by kernel_rfl) (H.has.sub hsub299) ?_
                  rcases condT hp245 with ⟨hb311, hp245⟩ | ⟨hb311, hp245⟩
                  · rw [hb311]
                    refine seg 2 [.le 0, .co [1, 1, 1, 1]] [(1, .slice A1_0 b.length c1_0)] (by kernel_rfl) ?_
                    refine leJ (mk299) ⟨(Option.some.inj hp245).symm, (St.takeN 0 H), hsub299⟩ (by kernel_rfl)
                  · rw [hb311]
                    refine seg 5 [.co [1, 1, 1, 0, 1, 1, 1, 1, 0, 1], .le 0, .co [1, 1, 1, 1]] [(4, .bool false)] (by kernel_rfl) ?_
                    refine retR [4] [.bool false] (by kernel_rfl) (by kernel_rfl) (by kernel_rfl) ?_
                    have hret := (hfr245 _ (Option.some.inj hp245).symm)
                    subst hret
                    exact ⟨_, rfl, rfl, H.scalar⟩
        · rw [hb247]
          refine seg 4 [.op [1, 1, 1, 0, 1, 0, 0] 1, .co [1, 1, 1, 0, 1, 0, 1], .le 0, .co [1, 1, 1, 1]] [(1, .slice A1_0 b.length c1_0), (5, .slice A209_0 encode1.1.length c209_0), (35, .int .i64 encode1.2)] (by kernel_rfl) ?_
          refine st (callR (some 36) 15 #[.int .i64 encode1.2] Try.call15 (law17_num_c H.has encode1.2) (by kernel_rfl) ?_)
          rintro _ w312 ⟨rfl, hx312⟩
          replace H := H.ex hx312
          refine seg 2 [.op [1, 1, 1, 0, 1, 0, 0] 4, .co [1, 1, 1, 0, 1, 0, 1], .le 0, .co [1, 1, 1, 1]] [(1, .slice A1_0 b.length c1_0), (5, .slice A209_0 encode1.1.length c209_0), (38, .bool ((law17_num encode1.2) != 1))] (by kernel_rfl) ?_
          rcases condT hp245 with ⟨hb313, hp245⟩ | ⟨hb313, hp245⟩
          · rw [hb313]
            refine seg 10 [.co [1, 1, 1, 0, 1, 0, 1, 0, 1], .le 0, .co [1, 1, 1, 1]] [(4, .bool false)] (by kernel_rfl) ?_
            refine retR [4] [.bool false] (by kernel_rfl) (by kernel_rfl) (by kernel_rfl) ?_
            have hret := (hfr245 _ (Option.some.inj hp245).symm)
            subst hret
            exact ⟨_, rfl, rfl, H.scalar⟩
          · rw [hb313]
            refine seg 5 [.co [1, 1, 1, 0, 1, 0, 1], .le 0, .co [1, 1, 1, 1]] [(1, .slice A1_0 b.length c1_0), (42, .bool ((encode1.1.length : Int) != 0))] (by kernel_rfl) ?_
            rcases condT hp245 with ⟨hb314, hp245⟩ | ⟨hb314, hp245⟩
            · rw [hb314]
              refine seg 5 [.co [1, 1, 1, 0, 1, 0, 1, 0, 1], .le 0, .co [1, 1, 1, 1]] [(4, .bool false)] (by kernel_rfl) ?_
              refine retR [4] [.bool false] (by kernel_rfl) (by kernel_rfl) (by kernel_rfl) ?_
              have hret := (hfr245 _ (Option.some.inj hp245).symm)
              subst hret
              exact ⟨_, rfl, rfl, H.scalar⟩
            · rw [hb314]
              refine seg 2 [.le 0, .co [1, 1, 1, 1]] [(1, .slice A1_0 b.length c1_0)] (by kernel_rfl) ?_
              refine leJ (mk209) ⟨(Option.some.inj hp245).symm, (St.takeN 0 H), (Sub.refl _)⟩ (by kernel_rfl)
      rintro mm246 wj245 ⟨hy245, H, hsub246⟩
      have hf := hfl245 _ hy245
      try dsimp only at hf
      refine seg 3 [.op [1, 1, 1, 1, 0] 1, .co [1, 1, 1, 1, 1]] [(1, .slice A1_0 b.length c1_0), (69, .slice A1_0 b.length c1_0)] (by kernel_rfl) ?_
      replace H : St w noF m mm246 [] wj245 := H
      obtain ⟨decode4, h_decode4, hf⟩ := bindE hf
      refine st (callR (some 70) 27 #[.slice A1_0 b.length c1_0] Try.call27 (table_DecodeFrags_c H.has b A1_0 c1_0 (s1_0.mono (hsub209.trans hsub246)) h_decode4) (by kernel_rfl) ?_)
      rintro _ w315 ⟨A315_0, c315_0, mk315, rfl, hS315⟩
      have hsub315 := hS315.sub
      replace H := H.call0 hS315
      refine seg 9 [.op [1, 1, 1, 1, 1, 0] 1, .co [1, 1, 1, 1, 1, 1]] [(9, .slice A315_0 decode4.1.length c315_0), (10, .int .i64 decode4.2), (74, .slice A1_0 b.length c1_0)] (by kernel_rfl) ?_
      obtain ⟨decode5, h_decode5, hf⟩ := bindE hf
      refine st (callR (some 75) 30 #[.slice A1_0 b.length c1_0] Try.call30 (ref17_DecodeFrags_c H.has b A1_0 c1_0 (s1_0.mono ((hsub209.trans hsub246).trans hsub315)) h_decode5) (by kernel_rfl) ?_)
      rintro _ w316 ⟨A316_0, c316_0, mk316, rfl, hS316⟩
      have hsub316 := hS316.sub
      replace H := H.call0 hS316
      refine seg 10 [.op [1, 1, 1, 1, 1, 1, 0] 2, .co [1, 1, 1, 1, 1, 1, 1]] [(10, .int .i64 decode4.2), (12, .int .i64 decode5.2), (78, .slice A315_0 decode4.1.length c315_0), (79, .slice A316_0 decode5.1.length c316_0)] (by kernel_rfl) ?_
      have H0_317 := H
      obtain ⟨mf318, hsub318, hsf318, H⟩ := H.fixR 1 rfl
      obtain ⟨mf319, hsub319, hsf319, H⟩ := H.fixR 0 rfl
      obtain ⟨sameFr3, h_sameFr3, hf⟩ := bindE hf
      refine st (callR (some 80) 29 #[.slice A315_0 decode4.1.length c315_0, .slice A316_0 decode5.1.length c316_0] Try.call29 (ref17_SameFrags_c H.has decode4.1 A315_0 c315_0 (hsf318.mono hsub319) decode5.1 A316_0 c316_0 hsf319 h_sameFr3) (by kernel_rfl) ?_)
      rintro _ w320 ⟨rfl, hx320⟩
      replace H := H0_317.ex hx320
      refine seg 1 [.op [1, 1, 1, 1, 1, 1, 0] 4, .co [1, 1, 1, 1, 1, 1, 1]] [(10, .int .i64 decode4.2), (12, .int .i64 decode5.2), (81, .bool sameFr3)] (by kernel_rfl) ?_
      rcases condT hf with ⟨hb321, hf⟩ | ⟨hb321, hf⟩
      · rw [hb321]
        refine seg 1 [.op [1, 1, 1, 1, 1, 1, 0] 5, .co [1, 1, 1, 1, 1, 1, 1]] [(12, .int .i64 decode5.2), (81, .bool true), (82, .int .i64 decode4.2)] (by kernel_rfl) ?_
        refine st (callR (some 83) 15 #[.int .i64 decode4.2] Try.call15 (law17_num_c H.has decode4.2) (by kernel_rfl) ?_)
        rintro _ w322 ⟨rfl, hx322⟩
        replace H := H.ex hx322
        refine seg 4 [.op [1, 1, 1, 1, 1, 1, 0] 10, .co [1, 1, 1, 1, 1, 1, 1]] [(87, .bool ((law17_num decode4.2) == decode5.2))] (by kernel_rfl) ?_
        rcases condT hf with ⟨hb323, hf⟩ | ⟨hb323, hf⟩
        · rw [hb323]
          replace H : St w noF m mk316 [] w322 := ((H.drop 1 rfl).drop 0 rfl)
          obtain ⟨live4, h_live4, hf⟩ := bindE hf
          refine st (callR (some 88) 8 #[] Try.call8 (law17_live_c H.has  h_live4) (by kernel_rfl) ?_)
          rintro _ w324 ⟨rfl, hx324⟩
          replace H := H.ex hx324
          refine seg 3 [.co [1, 1, 1, 1, 1, 1, 1]] [(4, .bool live4)] (by kernel_rfl) ?_
          refine retR [4] [.bool live4] (by kernel_rfl) (by kernel_rfl) (by kernel_rfl) ?_
          have hret := (Option.some.inj hf)
          subst hret
          exact ⟨_, rfl, rfl, H.scalar⟩
        · rw [hb323]
          refine seg 4 [.co [1, 1, 1, 1, 1, 1, 1]] [(4, .bool false)] (by kernel_rfl) ?_
          refine retR [4] [.bool false] (by kernel_rfl) (by kernel_rfl) (by kernel_rfl) ?_
          have hret := (Option.some.inj hf)
          subst hret
          exact ⟨_, rfl, rfl, H.scalar⟩
      · rw [hb321]
        refine seg 10 [.co [1, 1, 1, 1, 1, 1, 1]] [(4, .bool false)] (by kernel_rfl) ?_
        refine retR [4] [.bool false] (by kernel_rfl) (by kernel_rfl) (by kernel_rfl) ?_
        have hret := (Option.some.inj hf)
        subst hret
        exact ⟨_, rfl, rfl, H.scalar⟩
end Go.Proofs.Ytgoedcjjckdlpaa.F
