/- The code computes them: printed by lift.py, part 1. -/
import Derived.Test.YtgoedcjjckdlpaaDoorProg
import Derived.Test.YtgoedcjjckdlpaaDoorLSP
set_option linter.unusedVariables false
set_option linter.unusedSimpArgs false
namespace Go.Proofs.YtgoedcjjckdlpaaDoor.F
open Go Go.RowKit Go.Proofs.YtgoedcjjckdlpaaDoor Go.Proofs.YtgoedcjjckdlpaaDoor.K
set_option maxRecDepth 100000
theorem ref31_Much_c {m : Mem} {w : World} (hm : Has m w) (l_ : (List TApiAct)) (A0_0 : Option Addr) (c0_0 : Nat) (s0_0 : SlI rApiAct m A0_0 c0_0 l_) {r : Bool} (hf : ref31_Much l_ = some r) :
    Calls Tryd.prog 6 #[.slice A0_0 l_.length c0_0] w fun e w' => ∃ v, e = .returned v ∧ v = .bool r ∧ Ex w w' := by
  unfold ref31_Much at hf
  have H := St.start0 hm
  refine callsR Tryd.func6 (by kernel_rfl) (by kernel_rfl) ?_
  refine seg 11 [.co [1, 0, 1], .co [1, 1]] [(0, .slice A0_0 l_.length c0_0), (6, .bool (decide ((l_.length : Int) > 60)))] (by kernel_rfl) ?_
  rcases condT hf with ⟨hb2, hf⟩ | ⟨hb2, hf⟩
  · rw [hb2]
    have p2 := of_decide_eq_true hb2
    refine seg 5 [.co [1, 0, 1, 0, 1], .co [1, 1]] [(2, .bool true)] (by kernel_rfl) ?_
    refine retR [2] [.bool true] (by kernel_rfl) (by kernel_rfl) (by kernel_rfl) ?_
    have hret := (Option.some.inj hf)
    subst hret
    exact ⟨_, rfl, rfl, H.scalar⟩
  · rw [hb2]
    have p2 := of_decide_eq_false hb2
    refine seg 7 [.co [1, 1, 0, 1], .co [1, 1, 1]] [(0, .slice A0_0 l_.length c0_0), (3, .int .i64 0)] (by kernel_rfl) ?_
    obtain ⟨y66, hp66, hfl66, hfr66⟩ := bndE hf
    refine joinR 0 (fun (x : Unit) => []) (fun (x : Unit) (wj66 : World) => y66 = .inl () ∧ St w noF m m [] wj66) (by kernel_rfl) ?_ ?_
    · refine seg 1 [.co [1, 1, 0, 1, 0], .bl 0, .le 0, .co [1, 1, 1]] [(0, .slice A0_0 l_.length c0_0), (3, .int .i64 0)] (by kernel_rfl) ?_
      obtain ⟨nn82, hR82⟩ := loopO_iff.1 hp66
      refine loopR 1 (fun (x : Nat × Nat) => [(0, .slice A0_0 l_.length c0_0), (3, .int .i64 (x.2 : Int))]) (fun (x : Nat × Nat) (wl82 : World) => iter (fun s => ref31_Much_l1 l_ s) x.1 x.2 = some y66 ∧ St w noF m m [] wl82) (fun (x : Nat × Nat) => x.1) (nn82, 0) (by kernel_rfl) (by kernel_rfl) (by kernel_rfl) ?_ ?_
      · exact ⟨hR82, H⟩
      rintro ⟨n82, i⟩ wl82 ⟨hR82, H⟩
      try dsimp only at hR82
      try dsimp only at H
      obtain ⟨nk82, q82, rfl, hb_82, hnx82, hfin82⟩ := iterE hR82
      replace hb_82 : ref31_Much_l1 l_ i = some q82 := hb_82
      unfold ref31_Much_l1 at hb_82
      refine seg 8 [.co [1, 1, 0, 1, 0, 0, 0, 1], .co [1, 1, 0, 1, 0, 0, 1], .le 1, .bl 0, .le 0, .co [1, 1, 1]] [(0, .slice A0_0 l_.length c0_0), (3, .int .i64 (i : Int)), (10, .bool (decide ((i : Int) < (l_.length : Int))))] (by kernel_rfl) ?_
      rcases condT hb_82 with ⟨hb84, hb_82⟩ | ⟨hb84, hb_82⟩
      · rw [hb84]
        have p84 := of_decide_eq_true hb84
        refine seg 8 [.op [1, 1, 0, 1, 0, 0, 1, 0, 0, 0] 2, .co [1, 1, 0, 1, 0, 0, 1, 0, 0, 1], .bl 1, .co [1, 1, 0, 1, 0, 0, 1, 1], .le 1, .bl 0, .le 0, .co [1, 1, 1]] [(0, .slice A0_0 l_.length c0_0), (3, .int .i64 (i : Int)), (13, .slice A0_0 l_.length c0_0), (14, .int .i64 (i : Int))] (by kernel_rfl) ?_
        obtain ⟨x_, h_x_, hb_82⟩ := bindE hb_82
        obtain ⟨ad86, _, ea86, ⟨A86_3, c86_3, A86_5, c86_5, rfl, hs86_3, hs86_5, hl86_10⟩, hc86⟩ := s0_0.at_ h_x_ (by decide)
        refine st (idxS (some 15) 31 29 12 A0_0 ad86 l_.length c0_0 .i64 (i : Int) ea86 (by kernel_rfl) (by kernel_rfl) (by omega) (by have := (List.getElem?_eq_some_iff.1 h_x_).1; omega) ?_)
        refine seg 1 [.op [1, 1, 0, 1, 0, 0, 1, 0, 0, 0] 4, .co [1, 1, 0, 1, 0, 0, 1, 0, 0, 1], .bl 1, .co [1, 1, 0, 1, 0, 0, 1, 1], .le 1, .bl 0, .le 0, .co [1, 1, 1]] [(0, .slice A0_0 l_.length c0_0), (3, .int .i64 (i : Int)), (16, .pointer (some ((ad86.add (i * 12)).add 3)))] (by kernel_rfl) ?_
        refine st (ldR (some 17) 23 ((ad86.add (i * 12)).add 3) (.slice A86_3 x_.Bytes.length c86_3) (by kernel_rfl) (by kernel_rfl) (H.cellI (hc86 3 _ rfl)) ?_)
        refine seg 3 [.op [1, 1, 0, 1, 0, 0, 1, 0, 0, 0] 8, .co [1, 1, 0, 1, 0, 0, 1, 0, 0, 1], .bl 1, .co [1, 1, 0, 1, 0, 0, 1, 1], .le 1, .bl 0, .le 0, .co [1, 1, 1]] [(0, .slice A0_0 l_.length c0_0), (3, .int .i64 (i : Int)), (20, .bool (decide ((x_.Bytes.length : Int) > 3000)))] (by kernel_rfl) ?_
        rcases condT hb_82 with ⟨hb87, hb_82⟩ | ⟨hb87, hb_82⟩
        · rw [hb87]
          have p87 := of_decide_eq_true hb87
          refine seg 25 [.co [1, 1, 0, 1, 0, 0, 1, 0, 0, 1, 0, 1], .bl 1, .co [1, 1, 0, 1, 0, 0, 1, 1], .le 1, .bl 0, .le 0, .co [1, 1, 1]] [(2, .bool true)] (by kernel_rfl) ?_
          refine retR [2] [.bool true] (by kernel_rfl) (by kernel_rfl) (by kernel_rfl) ?_
          have hret := (hfr66 _ (hfin82 _ (Option.some.inj hb_82).symm).symm)
          subst hret
          exact ⟨_, rfl, rfl, H.scalar⟩
        · rw [hb87]
          have p87 := of_decide_eq_false hb87
          refine seg 2 [.op [1, 1, 0, 1, 0, 0, 1, 0, 0, 0] 10, .co [1, 1, 0, 1, 0, 0, 1, 0, 0, 1], .bl 1, .co [1, 1, 0, 1, 0, 0, 1, 1], .le 1, .bl 0, .le 0, .co [1, 1, 1]] [(0, .slice A0_0 l_.length c0_0), (3, .int .i64 (i : Int)), (20, .bool false), (21, .slice A0_0 l_.length c0_0), (22, .int .i64 (i : Int))] (by kernel_rfl) ?_
          refine st (idxS (some 23) 31 29 12 A0_0 ad86 l_.length c0_0 .i64 (i : Int) ea86 (by kernel_rfl) (by kernel_rfl) (by omega) (by have := (List.getElem?_eq_some_iff.1 h_x_).1; omega) ?_)
          refine seg 2 [.op [1, 1, 0, 1, 0, 0, 1, 0, 0, 0] 13, .co [1, 1, 0, 1, 0, 0, 1, 0, 0, 1], .bl 1, .co [1, 1, 0, 1, 0, 0, 1, 1], .le 1, .bl 0, .le 0, .co [1, 1, 1]] [(0, .slice A0_0 l_.length c0_0), (3, .int .i64 (i : Int)), (20, .bool false), (25, .pointer (some ((ad86.add (i * 12)).add 5)))] (by kernel_rfl) ?_
          refine st (ldR (some 26) 23 ((ad86.add (i * 12)).add 5) (.slice A86_5 x_.Crash.Torn.length c86_5) (by kernel_rfl) (by kernel_rfl) (H.cellI (hc86 5 _ rfl)) ?_)
          refine seg 4 [.op [1, 1, 0, 1, 0, 0, 1, 0, 0, 0] 18, .co [1, 1, 0, 1, 0, 0, 1, 0, 0, 1], .bl 1, .co [1, 1, 0, 1, 0, 0, 1, 1], .le 1, .bl 0, .le 0, .co [1, 1, 1]] [(0, .slice A0_0 l_.length c0_0), (3, .int .i64 (i : Int)), (30, .bool (decide ((x_.Crash.Torn.length : Int) > 3000)))] (by kernel_rfl) ?_
          rcases condT hb_82 with ⟨hb88, hb_82⟩ | ⟨hb88, hb_82⟩
          · rw [hb88]
            have p88 := of_decide_eq_true hb88
            refine seg 15 [.co [1, 1, 0, 1, 0, 0, 1, 0, 0, 1, 0, 1], .bl 1, .co [1, 1, 0, 1, 0, 0, 1, 1], .le 1, .bl 0, .le 0, .co [1, 1, 1]] [(2, .bool true)] (by kernel_rfl) ?_
            refine retR [2] [.bool true] (by kernel_rfl) (by kernel_rfl) (by kernel_rfl) ?_
            have hret := (hfr66 _ (hfin82 _ (Option.some.inj hb_82).symm).symm)
            subst hret
            exact ⟨_, rfl, rfl, H.scalar⟩
          · rw [hb88]
            have p88 := of_decide_eq_false hb88
            refine seg 2 [.op [1, 1, 0, 1, 0, 0, 1, 0, 0, 0] 20, .co [1, 1, 0, 1, 0, 0, 1, 0, 0, 1], .bl 1, .co [1, 1, 0, 1, 0, 0, 1, 1], .le 1, .bl 0, .le 0, .co [1, 1, 1]] [(0, .slice A0_0 l_.length c0_0), (3, .int .i64 (i : Int)), (30, .bool false), (31, .slice A0_0 l_.length c0_0), (32, .int .i64 (i : Int))] (by kernel_rfl) ?_
            refine st (idxS (some 33) 31 29 12 A0_0 ad86 l_.length c0_0 .i64 (i : Int) ea86 (by kernel_rfl) (by kernel_rfl) (by omega) (by have := (List.getElem?_eq_some_iff.1 h_x_).1; omega) ?_)
            refine seg 2 [.op [1, 1, 0, 1, 0, 0, 1, 0, 0, 0] 23, .co [1, 1, 0, 1, 0, 0, 1, 0, 0, 1], .bl 1, .co [1, 1, 0, 1, 0, 0, 1, 1], .le 1, .bl 0, .le 0, .co [1, 1, 1]] [(0, .slice A0_0 l_.length c0_0), (3, .int .i64 (i : Int)), (30, .bool false), (35, .pointer (some ((ad86.add (i * 12)).add 10)))] (by kernel_rfl) ?_
            refine st (ldR (some 36) 9 ((ad86.add (i * 12)).add 10) (.string ⟨x_.Call.Name.toArray⟩) (by kernel_rfl) (by kernel_rfl) (H.cellI (hc86 10 _ rfl)) ?_)
            refine seg 4 [.co [1, 1, 0, 1, 0, 0, 1, 0, 0, 1], .bl 1, .co [1, 1, 0, 1, 0, 0, 1, 1], .le 1, .bl 0, .le 0, .co [1, 1, 1]] [(0, .slice A0_0 l_.length c0_0), (3, .int .i64 (i : Int)), (39, .bool (decide ((x_.Call.Name.length : Int) > 3000)))] (by kernel_rfl) ?_
            rcases condT hb_82 with ⟨hb89, hb_82⟩ | ⟨hb89, hb_82⟩
            · rw [hb89]
              have p89 := of_decide_eq_true hb89
              refine seg 5 [.co [1, 1, 0, 1, 0, 0, 1, 0, 0, 1, 0, 1], .bl 1, .co [1, 1, 0, 1, 0, 0, 1, 1], .le 1, .bl 0, .le 0, .co [1, 1, 1]] [(2, .bool true)] (by kernel_rfl) ?_
              refine retR [2] [.bool true] (by kernel_rfl) (by kernel_rfl) (by kernel_rfl) ?_
              have hret := (hfr66 _ (hfin82 _ (Option.some.inj hb_82).symm).symm)
              subst hret
              exact ⟨_, rfl, rfl, H.scalar⟩
            · rw [hb89]
              have p89 := of_decide_eq_false hb89
              refine seg 8 [.le 1, .bl 0, .le 0, .co [1, 1, 1]] [(0, .slice A0_0 l_.length c0_0), (3, .int .i64 (IntKind.i64.wrap ((i : Int) + 1)))] (by kernel_rfl) ?_
              have := s0_0.bound
              rw [show IntKind.i64.wrap ((i : Int) + 1) = ((i : Int) + 1) from w64 (by omega)]
              refine leR (nk82, (i + 1)) (Nat.lt_succ_self _) ⟨hnx82 _ (Option.some.inj hb_82).symm, H⟩ (by kernel_rfl)
      · rw [hb84]
        have p84 := of_decide_eq_false hb84
        refine seg 2 [.le 0, .co [1, 1, 1]] [] (by kernel_rfl) ?_
        refine leR_up (k' := []) (by rfl) ?_
        refine leJ () ⟨(hfin82 _ (Option.some.inj hb_82).symm).symm, H⟩ (by kernel_rfl)
    rintro _ wj66 ⟨hy66, H⟩
    have hf := hfl66 _ hy66
    try dsimp only at hf
    refine seg 4 [.co [1, 1, 1, 1]] [(2, .bool false)] (by kernel_rfl) ?_
    refine retR [2] [.bool false] (by kernel_rfl) (by kernel_rfl) (by kernel_rfl) ?_
    have hret := (Option.some.inj hf)
    subst hret
    exact ⟨_, rfl, rfl, H.scalar⟩
theorem script_numbers_c {m : Mem} {w : World} (hm : Has m w) (c : TApiCall) (l0_4 : c.Name.length ≤ 9223372036854775807) :
    Calls Tryd.prog 19 #[.agg #[.int .i64 c.Do, .int .i64 c.Ino, .int .i64 c.A, .int .i64 c.B, .string ⟨c.Name.toArray⟩, .bool c.On]] w fun e w' => ∃ v, e = .returned v ∧ ∃ Az_0 : Option Addr, ∃ cz_0 : Nat, ∃ m' : Mem, v = .slice Az_0 ((script_numbers c).length) cz_0 ∧ St w noF m m' [rowI rI64 3 Az_0 cz_0 (script_numbers c)] w' := by
  generalize hf : script_numbers c = r
  unfold script_numbers at hf
  have H := St.start0 hm
  refine callsR Tryd.func19 (by kernel_rfl) (by kernel_rfl) ?_
  refine seg 2 [.op [0] 0, .co [1]] [(0, .agg #[.int .i64 c.Do, .int .i64 c.Ino, .int .i64 c.A, .int .i64 c.B, .string ⟨c.Name.toArray⟩, .bool c.On])] (by kernel_rfl) ?_
  refine st (newS (some 1) (fun g => .pointer (some ⟨g, 0, none⟩)) [.int .i64 c.Do, .int .i64 c.Ino, .int .i64 c.A, .int .i64 c.B, .string ⟨c.Name.toArray⟩, .bool c.On] 27 H (by kernel_rfl) ?_)
  intro g1 w1 H
  refine seg 6 [.op [1, 0, 0] 1, .co [1, 0, 1], .co [1, 1]] [(1, .pointer (some (⟨g1, 0, none⟩))), (3, .pointer (some (⟨g1, 0, none⟩)))] (by kernel_rfl) ?_
  refine st (ldR (some 4) 3 (⟨g1, 0, none⟩) (.int .i64 c.Do) (by kernel_rfl) (by kernel_rfl) (H.cellB 0 rfl rfl) ?_)
  refine seg 8 [.co [1, 0, 1, 0, 0, 1], .co [1, 0, 1, 0, 1], .bl 0, .co [1, 1]] [(1, .pointer (some (⟨g1, 0, none⟩))), (4, .int .i64 c.Do), (5, .bool (c.Do == 3))] (by kernel_rfl) ?_
  rcases condT hf with ⟨hb11, hf⟩ | ⟨hb11, hf⟩
  · rw [hb11]
    refine seg 6 [.op [1, 0, 1, 0, 1, 0, 0] 1, .co [1, 0, 1, 0, 1, 0, 1], .bl 0, .co [1, 1]] [(1, .pointer (some (⟨g1, 0, none⟩))), (8, .pointer (some (⟨g1, 1, none⟩)))] (by kernel_rfl) ?_
    refine st (ldR (some 9) 3 (⟨g1, 1, none⟩) (.int .i64 c.Ino) (by kernel_rfl) (by kernel_rfl) (H.cellB 0 rfl rfl) ?_)
    refine seg 1 [.op [1, 0, 1, 0, 1, 0, 0] 3, .co [1, 0, 1, 0, 1, 0, 1], .bl 0, .co [1, 1]] [(1, .pointer (some (⟨g1, 0, none⟩))), (9, .int .i64 c.Ino), (10, .pointer (some (⟨g1, 2, none⟩)))] (by kernel_rfl) ?_
    refine st (ldR (some 11) 3 (⟨g1, 2, none⟩) (.int .i64 c.A) (by kernel_rfl) (by kernel_rfl) (H.cellB 0 rfl rfl) ?_)
    refine seg 1 [.op [1, 0, 1, 0, 1, 0, 0] 5, .co [1, 0, 1, 0, 1, 0, 1], .bl 0, .co [1, 1]] [(9, .int .i64 c.Ino), (11, .int .i64 c.A), (12, .pointer (some (⟨g1, 3, none⟩)))] (by kernel_rfl) ?_
    refine st (ldR (some 13) 3 (⟨g1, 3, none⟩) (.int .i64 c.B) (by kernel_rfl) (by kernel_rfl) (H.cellB 0 rfl rfl) ?_)
    refine st (newS (some 14) (fun g => .slice (some ⟨g, 0, none⟩) 3 3) [.int .i64 c.Ino, .int .i64 c.A, .int .i64 c.B] 3 H (by kernel_rfl) ?_)
    intro g12 w12 H
    refine seg 2 [.co [1, 0, 1, 0, 1, 0, 1], .bl 0, .co [1, 1]] [(2, .slice (some ⟨g12, 0, none⟩) 3 3)] (by kernel_rfl) ?_
    have H := H.toRow (r := rI64) (l := [c.Ino, c.A, c.B]) 0 rfl (Rows.cons (cs := [.int .i64 c.Ino]) rfl (Rows.cons (cs := [.int .i64 c.A]) rfl (Rows.cons (cs := [.int .i64 c.B]) rfl Rows.nil))) (Nat.le_of_ble_eq_true rfl)
    refine retR [2] [.slice (some ⟨g12, 0, none⟩) 3 3] (by kernel_rfl) (by kernel_rfl) (by kernel_rfl) ?_
    obtain rfl : [c.Ino, c.A, c.B] = r := hf
    exact ⟨_, rfl, (some ⟨g12, 0, none⟩), 3, m, rfl, (St.takeN 1 H)⟩
  · rw [hb11]
    refine seg 5 [.co [1, 0, 1, 0, 1], .bl 0, .co [1, 1]] [(1, .pointer (some (⟨g1, 0, none⟩))), (5, .bool (c.Do == 5))] (by kernel_rfl) ?_
    rcases condT hf with ⟨hb13, hf⟩ | ⟨hb13, hf⟩
    · rw [hb13]
      refine seg 4 [.op [1, 0, 1, 0, 1, 0, 0] 1, .co [1, 0, 1, 0, 1, 0, 1], .bl 0, .co [1, 1]] [(1, .pointer (some (⟨g1, 0, none⟩))), (8, .pointer (some (⟨g1, 1, none⟩)))] (by kernel_rfl) ?_
      refine st (ldR (some 9) 3 (⟨g1, 1, none⟩) (.int .i64 c.Ino) (by kernel_rfl) (by kernel_rfl) (H.cellB 0 rfl rfl) ?_)
      refine seg 1 [.op [1, 0, 1, 0, 1, 0, 0] 3, .co [1, 0, 1, 0, 1, 0, 1], .bl 0, .co [1, 1]] [(1, .pointer (some (⟨g1, 0, none⟩))), (9, .int .i64 c.Ino), (10, .pointer (some (⟨g1, 2, none⟩)))] (by kernel_rfl) ?_
      refine st (ldR (some 11) 3 (⟨g1, 2, none⟩) (.int .i64 c.A) (by kernel_rfl) (by kernel_rfl) (H.cellB 0 rfl rfl) ?_)
      refine seg 1 [.op [1, 0, 1, 0, 1, 0, 0] 5, .co [1, 0, 1, 0, 1, 0, 1], .bl 0, .co [1, 1]] [(9, .int .i64 c.Ino), (11, .int .i64 c.A), (12, .pointer (some (⟨g1, 3, none⟩)))] (by kernel_rfl) ?_
      refine st (ldR (some 13) 3 (⟨g1, 3, none⟩) (.int .i64 c.B) (by kernel_rfl) (by kernel_rfl) (H.cellB 0 rfl rfl) ?_)
      refine st (newS (some 14) (fun g => .slice (some ⟨g, 0, none⟩) 3 3) [.int .i64 c.Ino, .int .i64 c.A, .int .i64 c.B] 3 H (by kernel_rfl) ?_)
      intro g14 w14 H
      refine seg 2 [.co [1, 0, 1, 0, 1, 0, 1], .bl 0, .co [1, 1]] [(2, .slice (some ⟨g14, 0, none⟩) 3 3)] (by kernel_rfl) ?_
      have H := H.toRow (r := rI64) (l := [c.Ino, c.A, c.B]) 0 rfl (Rows.cons (cs := [.int .i64 c.Ino]) rfl (Rows.cons (cs := [.int .i64 c.A]) rfl (Rows.cons (cs := [.int .i64 c.B]) rfl Rows.nil))) (Nat.le_of_ble_eq_true rfl)
      refine retR [2] [.slice (some ⟨g14, 0, none⟩) 3 3] (by kernel_rfl) (by kernel_rfl) (by kernel_rfl) ?_
      obtain rfl : [c.Ino, c.A, c.B] = r := hf
      exact ⟨_, rfl, (some ⟨g14, 0, none⟩), 3, m, rfl, (St.takeN 1 H)⟩
    · rw [hb13]
      refine seg 6 [.op [1, 1, 0] 1, .co [1, 1, 1]] [(15, .pointer (some (⟨g1, 1, none⟩)))] (by kernel_rfl) ?_
      refine st (ldR (some 16) 3 (⟨g1, 1, none⟩) (.int .i64 c.Ino) (by kernel_rfl) (by kernel_rfl) (H.cellB 0 rfl rfl) ?_)
      refine st (newS (some 17) (fun g => .slice (some ⟨g, 0, none⟩) 1 1) [.int .i64 c.Ino] 3 H (by kernel_rfl) ?_)
      intro g15 w15 H
      refine seg 2 [.co [1, 1, 1]] [(2, .slice (some ⟨g15, 0, none⟩) 1 1)] (by kernel_rfl) ?_
      have H := H.toRow (r := rI64) (l := [c.Ino]) 0 rfl (Rows.cons (cs := [.int .i64 c.Ino]) rfl Rows.nil) (Nat.le_of_ble_eq_true rfl)
      refine retR [2] [.slice (some ⟨g15, 0, none⟩) 1 1] (by kernel_rfl) (by kernel_rfl) (by kernel_rfl) ?_
      obtain rfl : [c.Ino] = r := hf
      exact ⟨_, rfl, (some ⟨g15, 0, none⟩), 1, m, rfl, (St.takeN 1 H)⟩
theorem script_Check_c {m : Mem} {w : World} (hm : Has m w) (a : TApiAct) (A0_3 : Option Addr) (c0_3 : Nat) (s0_3 : SlI rU8 m A0_3 c0_3 a.Bytes) (A0_5 : Option Addr) (c0_5 : Nat) (s0_5 : SlI rU8 m A0_5 c0_5 a.Crash.Torn) (l0_10 : a.Call.Name.length ≤ 9223372036854775807) {r : Int} (hf : script_Check a = some r) :
    Calls Tryd.prog 10 #[.agg #[.int .i64 a.Do, .int .i64 a.Len, .int .u64 (a.Sum.toNat : Int), .slice A0_3 a.Bytes.length c0_3, .int .i64 a.Crash.After, .slice A0_5 a.Crash.Torn.length c0_5, .int .i64 a.Call.Do, .int .i64 a.Call.Ino, .int .i64 a.Call.A, .int .i64 a.Call.B, .string ⟨a.Call.Name.toArray⟩, .bool a.Call.On]] w fun e w' => ∃ v, e = .returned v ∧ v = .int .i64 r ∧ Ex w w' := by
  unfold script_Check at hf
  have H := St.start0 hm
  refine callsR Tryd.func10 (by kernel_rfl) (by kernel_rfl) ?_
  refine seg 2 [.op [0] 0, .co [1]] [(0, .agg #[.int .i64 a.Do, .int .i64 a.Len, .int .u64 (a.Sum.toNat : Int), .slice A0_3 a.Bytes.length c0_3, .int .i64 a.Crash.After, .slice A0_5 a.Crash.Torn.length c0_5, .int .i64 a.Call.Do, .int .i64 a.Call.Ino, .int .i64 a.Call.A, .int .i64 a.Call.B, .string ⟨a.Call.Name.toArray⟩, .bool a.Call.On])] (by kernel_rfl) ?_
  refine st (newS (some 1) (fun g => .pointer (some ⟨g, 0, none⟩)) [.int .i64 a.Do, .int .i64 a.Len, .int .u64 (a.Sum.toNat : Int), .slice A0_3 a.Bytes.length c0_3, .int .i64 a.Crash.After, .slice A0_5 a.Crash.Torn.length c0_5, .int .i64 a.Call.Do, .int .i64 a.Call.Ino, .int .i64 a.Call.A, .int .i64 a.Call.B, .string ⟨a.Call.Name.toArray⟩, .bool a.Call.On] 29 H (by kernel_rfl) ?_)
  intro g1 w1 H
  refine seg 10 [.op [1, 1, 0, 0] 1, .co [1, 1, 0, 1], .co [1, 1, 1]] [(1, .pointer (some (⟨g1, 0, none⟩))), (3, .slice none 0 0), (6, .pointer (some (⟨g1, 0, none⟩)))] (by kernel_rfl) ?_
  refine st (ldR (some 7) 3 (⟨g1, 0, none⟩) (.int .i64 a.Do) (by kernel_rfl) (by kernel_rfl) (H.cellB 0 rfl rfl) ?_)
  refine seg 1 [.co [1, 1, 0, 1], .co [1, 1, 1]] [(1, .pointer (some (⟨g1, 0, none⟩))), (3, .slice none 0 0), (7, .int .i64 a.Do)] (by kernel_rfl) ?_
  obtain ⟨y116, hp116, hfl116, hfr116⟩ := bndE hf
  refine joinR 0 (fun (x : (List Int) × Option Addr × Nat × Mem) => [(3, .slice (x.2.1) x.1.length (x.2.2.1))]) (fun (x : (List Int) × Option Addr × Nat × Mem) (wj116 : World) => y116 = .inl x.1 ∧ St w noF m x.2.2.2 [rowI rI64 3 (x.2.1) (x.2.2.1) x.1] wj116 ∧ Sub m x.2.2.2) (by kernel_rfl) ?_ ?_
  · refine seg 6 [.co [1, 1, 0, 1, 0, 1], .bl 0, .le 0, .co [1, 1, 1]] [(1, .pointer (some (⟨g1, 0, none⟩))), (3, .slice none 0 0), (7, .int .i64 a.Do), (8, .bool (a.Do == 1))] (by kernel_rfl) ?_
    rcases condT hp116 with ⟨hb118, hp116⟩ | ⟨hb118, hp116⟩
    · rw [hb118]
      refine seg 3 [.op [1, 1, 0, 1, 0, 1, 0] 1, .bl 0, .le 0, .co [1, 1, 1]] [(10, .pointer (some (⟨g1, 1, none⟩)))] (by kernel_rfl) ?_
      refine st (ldR (some 11) 3 (⟨g1, 1, none⟩) (.int .i64 a.Len) (by kernel_rfl) (by kernel_rfl) (H.cellB 0 rfl rfl) ?_)
      refine st (newS (some 12) (fun g => .slice (some ⟨g, 0, none⟩) 1 1) [.int .i64 a.Len] 3 H (by kernel_rfl) ?_)
      intro g119 w119 H
      refine seg 3 [.le 0, .co [1, 1, 1]] [(3, .slice (some ⟨g119, 0, none⟩) 1 1)] (by kernel_rfl) ?_
      have H := H.toRow (r := rI64) (l := [a.Len]) 0 rfl (Rows.cons (cs := [.int .i64 a.Len]) rfl Rows.nil) (Nat.le_of_ble_eq_true rfl)
      refine leJ ([a.Len], (some ⟨g119, 0, none⟩), 1, m) ⟨(Option.some.inj hp116).symm, (St.takeN 1 H), (Sub.refl _)⟩ (by kernel_rfl)
    · rw [hb118]
      refine seg 6 [.co [1, 1, 0, 1, 0, 1, 1, 1], .bl 0, .le 0, .co [1, 1, 1]] [(1, .pointer (some (⟨g1, 0, none⟩))), (3, .slice none 0 0), (7, .int .i64 a.Do), (13, .bool (a.Do == 5))] (by kernel_rfl) ?_
      rcases condT hp116 with ⟨hb120, hp116⟩ | ⟨hb120, hp116⟩
      · rw [hb120]
        refine seg 4 [.op [1, 1, 0, 1, 0, 1, 1, 1, 0] 2, .bl 0, .le 0, .co [1, 1, 1]] [(16, .pointer (some (⟨g1, 4, none⟩)))] (by kernel_rfl) ?_
        refine st (ldR (some 17) 3 (⟨g1, 4, none⟩) (.int .i64 a.Crash.After) (by kernel_rfl) (by kernel_rfl) (H.cellB 0 rfl rfl) ?_)
        refine st (newS (some 18) (fun g => .slice (some ⟨g, 0, none⟩) 1 1) [.int .i64 a.Crash.After] 3 H (by kernel_rfl) ?_)
        intro g121 w121 H
        refine seg 3 [.le 0, .co [1, 1, 1]] [(3, .slice (some ⟨g121, 0, none⟩) 1 1)] (by kernel_rfl) ?_
        have H := H.toRow (r := rI64) (l := [a.Crash.After]) 0 rfl (Rows.cons (cs := [.int .i64 a.Crash.After]) rfl Rows.nil) (Nat.le_of_ble_eq_true rfl)
        refine leJ ([a.Crash.After], (some ⟨g121, 0, none⟩), 1, m) ⟨(Option.some.inj hp116).symm, (St.takeN 1 H), (Sub.refl _)⟩ (by kernel_rfl)
      · rw [hb120]
        refine seg 7 [.co [1, 1, 0, 1, 0, 1, 1, 1, 1, 0, 1], .co [1, 1, 0, 1, 0, 1, 1, 1, 1, 1], .bl 0, .le 0, .co [1, 1, 1]] [(1, .pointer (some (⟨g1, 0, none⟩))), (3, .slice none 0 0), (7, .int .i64 a.Do), (19, .bool (a.Do == 2))] (by kernel_rfl) ?_
        rcases condT hp116 with ⟨hb122, hp116⟩ | ⟨hb122, hp116⟩
        · rw [hb122]
          refine seg 5 [.le 0, .co [1, 1, 1]] [(3, .slice none 0 0)] (by kernel_rfl) ?_
          have H := H.nilR rI64 3
          refine leJ ([], none, 0, m) ⟨(Option.some.inj hp116).symm, (St.takeN 1 H), (Sub.refl _)⟩ (by kernel_rfl)
        · rw [hb122]
          refine seg 6 [.co [1, 1, 0, 1, 0, 1, 1, 1, 1, 0, 1, 1, 1], .co [1, 1, 0, 1, 0, 1, 1, 1, 1, 1], .bl 0, .le 0, .co [1, 1, 1]] [(1, .pointer (some (⟨g1, 0, none⟩))), (3, .slice none 0 0), (7, .int .i64 a.Do), (19, .bool (a.Do == 3))] (by kernel_rfl) ?_
          rcases condT hp116 with ⟨hb123, hp116⟩ | ⟨hb123, hp116⟩
          · rw [hb123]
            refine seg 5 [.le 0, .co [1, 1, 1]] [(3, .slice none 0 0)] (by kernel_rfl) ?_
            have H := H.nilR rI64 3
            refine leJ ([], none, 0, m) ⟨(Option.some.inj hp116).symm, (St.takeN 1 H), (Sub.refl _)⟩ (by kernel_rfl)
          · rw [hb123]
            refine seg 6 [.co [1, 1, 0, 1, 0, 1, 1, 1, 1, 0, 1, 1, 1, 1, 1], .co [1, 1, 0, 1, 0, 1, 1, 1, 1, 1], .bl 0, .le 0, .co [1, 1, 1]] [(1, .pointer (some (⟨g1, 0, none⟩))), (3, .slice none 0 0), (7, .int .i64 a.Do), (19, .bool (a.Do == 4))] (by kernel_rfl) ?_
            rcases condT hp116 with ⟨hb124, hp116⟩ | ⟨hb124, hp116⟩
            · rw [hb124]
              refine seg 5 [.le 0, .co [1, 1, 1]] [(3, .slice none 0 0)] (by kernel_rfl) ?_
              have H := H.nilR rI64 3
              refine leJ ([], none, 0, m) ⟨(Option.some.inj hp116).symm, (St.takeN 1 H), (Sub.refl _)⟩ (by kernel_rfl)
            · rw [hb124]
              refine seg 5 [.co [1, 1, 0, 1, 0, 1, 1, 1, 1, 1], .bl 0, .le 0, .co [1, 1, 1]] [(1, .pointer (some (⟨g1, 0, none⟩))), (3, .slice none 0 0), (7, .int .i64 a.Do), (19, .bool (a.Do == 6))] (by kernel_rfl) ?_
              rcases condT hp116 with ⟨hb125, hp116⟩ | ⟨hb125, hp116⟩
              · rw [hb125]
                refine seg 3 [.le 0, .co [1, 1, 1]] [(3, .slice none 0 0)] (by kernel_rfl) ?_
                have H := H.nilR rI64 3
                refine leJ ([], none, 0, m) ⟨(Option.some.inj hp116).symm, (St.takeN 1 H), (Sub.refl _)⟩ (by kernel_rfl)
              · rw [hb125]
                refine seg 6 [.co [1, 1, 0, 1, 0, 1, 1, 1, 1, 1, 1, 1], .bl 0, .le 0, .co [1, 1, 1]] [(1, .pointer (some (⟨g1, 0, none⟩))), (24, .bool (a.Do == 7))] (by kernel_rfl) ?_
                rcases condT hp116 with ⟨hb126, hp116⟩ | ⟨hb126, hp116⟩
                · rw [hb126]
                  refine seg 6 [.op [1, 1, 0, 1, 0, 1, 1, 1, 1, 1, 1, 1, 0, 0, 0] 2, .co [1, 1, 0, 1, 0, 1, 1, 1, 1, 1, 1, 1, 0, 0, 1], .co [1, 1, 0, 1, 0, 1, 1, 1, 1, 1, 1, 1, 0, 1], .bl 0, .le 0, .co [1, 1, 1]] [(1, .pointer (some (⟨g1, 0, none⟩))), (27, .pointer (some (⟨g1, 6, none⟩)))] (by kernel_rfl) ?_
                  replace H : St w noF m m [blkI g1 [.int .i64 a.Do, .int .i64 a.Len, .int .u64 (a.Sum.toNat : Int), .slice A0_3 a.Bytes.length c0_3, .int .i64 a.Crash.After, .slice A0_5 a.Crash.Torn.length c0_5, .int .i64 a.Call.Do, .int .i64 a.Call.Ino, .int .i64 a.Call.A, .int .i64 a.Call.B, .string ⟨a.Call.Name.toArray⟩, .bool a.Call.On] 29] w1 := H
                  refine st (ldR (some 28) 3 (⟨g1, 6, none⟩) (.int .i64 a.Call.Do) (by kernel_rfl) (by kernel_rfl) (H.cellB 0 rfl rfl) ?_)
                  refine seg 2 [.op [1, 1, 0, 1, 0, 1, 1, 1, 1, 1, 1, 1, 0, 0, 0] 5, .co [1, 1, 0, 1, 0, 1, 1, 1, 1, 1, 1, 1, 0, 0, 1], .co [1, 1, 0, 1, 0, 1, 1, 1, 1, 1, 1, 1, 0, 1], .bl 0, .le 0, .co [1, 1, 1]] [(1, .pointer (some (⟨g1, 0, none⟩))), (30, .bool (decide (a.Call.Do < 1)))] (by kernel_rfl) ?_
                  rcases condT hp116 with ⟨hb127, hp116⟩ | ⟨hb127, hp116⟩
                  · rw [hb127]
                    have p127 := of_decide_eq_true hb127
                    refine seg 11 [.co [1, 1, 0, 1, 0, 1, 1, 1, 1, 1, 1, 1, 0, 0, 1, 0, 1], .co [1, 1, 0, 1, 0, 1, 1, 1, 1, 1, 1, 1, 0, 1], .bl 0, .le 0, .co [1, 1, 1]] [(2, .int .i64 8)] (by kernel_rfl) ?_
                    refine retR [2] [.int .i64 8] (by kernel_rfl) (by kernel_rfl) (by kernel_rfl) ?_
                    obtain rfl : 8 = r := (hfr116 _ (Option.some.inj hp116).symm)
                    exact ⟨_, rfl, rfl, H.scalar⟩
                  · rw [hb127]
                    have p127 := of_decide_eq_false hb127
                    refine seg 2 [.op [1, 1, 0, 1, 0, 1, 1, 1, 1, 1, 1, 1, 0, 0, 0] 7, .co [1, 1, 0, 1, 0, 1, 1, 1, 1, 1, 1, 1, 0, 0, 1], .co [1, 1, 0, 1, 0, 1, 1, 1, 1, 1, 1, 1, 0, 1], .bl 0, .le 0, .co [1, 1, 1]] [(1, .pointer (some (⟨g1, 0, none⟩))), (30, .bool false), (32, .pointer (some (⟨g1, 6, none⟩)))] (by kernel_rfl) ?_
                    refine st (ldR (some 33) 3 (⟨g1, 6, none⟩) (.int .i64 a.Call.Do) (by kernel_rfl) (by kernel_rfl) (H.cellB 0 rfl rfl) ?_)
                    refine seg 3 [.co [1, 1, 0, 1, 0, 1, 1, 1, 1, 1, 1, 1, 0, 0, 1], .co [1, 1, 0, 1, 0, 1, 1, 1, 1, 1, 1, 1, 0, 1], .bl 0, .le 0, .co [1, 1, 1]] [(1, .pointer (some (⟨g1, 0, none⟩))), (35, .bool (decide (a.Call.Do > 8)))] (by kernel_rfl) ?_
                    rcases condT hp116 with ⟨hb128, hp116⟩ | ⟨hb128, hp116⟩
                    · rw [hb128]
                      have p128 := of_decide_eq_true hb128
                      refine seg 5 [.co [1, 1, 0, 1, 0, 1, 1, 1, 1, 1, 1, 1, 0, 0, 1, 0, 1], .co [1, 1, 0, 1, 0, 1, 1, 1, 1, 1, 1, 1, 0, 1], .bl 0, .le 0, .co [1, 1, 1]] [(2, .int .i64 8)] (by kernel_rfl) ?_
                      refine retR [2] [.int .i64 8] (by kernel_rfl) (by kernel_rfl) (by kernel_rfl) ?_
                      obtain rfl : 8 = r := (hfr116 _ (Option.some.inj hp116).symm)
                      exact ⟨_, rfl, rfl, H.scalar⟩
                    · rw [hb128]
                      have p128 := of_decide_eq_false hb128
                      refine seg 4 [.op [1, 1, 0, 1, 0, 1, 1, 1, 1, 1, 1, 1, 0, 1] 1, .bl 0, .le 0, .co [1, 1, 1]] [(36, .pointer (some (⟨g1, 6, none⟩)))] (by kernel_rfl) ?_
                      refine st (ldAggR (some 37) 27 (⟨g1, 6, none⟩) [.int .i64 a.Call.Do, .int .i64 a.Call.Ino, .int .i64 a.Call.A, .int .i64 a.Call.B, .string ⟨a.Call.Name.toArray⟩, .bool a.Call.On] (by kernel_rfl) (by kernel_rfl) (H.cellsB 0 rfl (by rfl)) ?_)
                      refine st (callR (some 38) 19 #[.agg #[.int .i64 a.Call.Do, .int .i64 a.Call.Ino, .int .i64 a.Call.A, .int .i64 a.Call.B, .string ⟨a.Call.Name.toArray⟩, .bool a.Call.On]] Tryd.call19 (script_numbers_c H.has a.Call l0_10) (by kernel_rfl) ?_)
                      rintro _ w129 ⟨A129_0, c129_0, mk129, rfl, hS129⟩
                      have hsub129 := hS129.sub
                      replace H := H.call0 hS129
                      refine seg 3 [.le 0, .co [1, 1, 1]] [(3, .slice A129_0 ((script_numbers a.Call).length) c129_0)] (by kernel_rfl) ?_
                      refine leJ ((script_numbers a.Call), A129_0, c129_0, mk129) ⟨(Option.some.inj hp116).symm, (St.takeN 1 H), hsub129⟩ (by kernel_rfl)
                · rw [hb126]
                  refine seg 5 [.co [1, 1, 0, 1, 0, 1, 1, 1, 1, 1, 1, 1, 1, 1], .bl 0, .le 0, .co [1, 1, 1]] [(2, .int .i64 8)] (by kernel_rfl) ?_
                  refine retR [2] [.int .i64 8] (by kernel_rfl) (by kernel_rfl) (by kernel_rfl) ?_
                  obtain rfl : 8 = r := (hfr116 _ (Option.some.inj hp116).symm)
                  exact ⟨_, rfl, rfl, H.scalar⟩
  rintro ⟨l_, A_1_117, c_2_117, mm117⟩ wj116 ⟨hy116, H, hsub117⟩
  try dsimp only at hy116
  try dsimp only at H
  try dsimp only at hsub117
  have hf := hfl116 _ hy116
  refine seg 7 [.co [1, 1, 1, 0, 1], .co [1, 1, 1, 1]] [(39, .slice A_1_117 l_.length c_2_117), (40, .int .i64 (l_.length : Int)), (41, .int .i64 0)] (by kernel_rfl) ?_
  obtain ⟨y159, hp159, hfl159, hfr159⟩ := bndE hf
  refine joinR 0 (fun (x : Unit) => []) (fun (x : Unit) (wj159 : World) => y159 = .inl () ∧ St w noF m mm117 [] wj159) (by kernel_rfl) ?_ ?_
  · refine seg 1 [.co [1, 1, 1, 0, 1, 0], .bl 1, .le 0, .co [1, 1, 1, 1]] [(39, .slice A_1_117 l_.length c_2_117), (40, .int .i64 (l_.length : Int)), (41, .int .i64 0)] (by kernel_rfl) ?_
    obtain ⟨nn173, hR173⟩ := loopO_iff.1 hp159
    refine loopR 1 (fun (x : Nat × Nat) => [(39, .slice A_1_117 l_.length c_2_117), (40, .int .i64 (l_.length : Int)), (41, .int .i64 (x.2 : Int))]) (fun (x : Nat × Nat) (wl173 : World) => iter (fun s => script_Check_l1 l_ s) x.1 x.2 = some y159 ∧ St w noF m mm117 [rowI rI64 3 A_1_117 c_2_117 l_] wl173) (fun (x : Nat × Nat) => x.1) (nn173, 0) (by kernel_rfl) (by kernel_rfl) (by kernel_rfl) ?_ ?_
    · exact ⟨hR173, H⟩
    rintro ⟨n173, t⟩ wl173 ⟨hR173, H⟩
    try dsimp only at hR173
    try dsimp only at H
    obtain ⟨nk173, q173, rfl, hb_173, hnx173, hfin173⟩ := iterE hR173
    replace hb_173 : script_Check_l1 l_ t = some q173 := hb_173
    unfold script_Check_l1 at hb_173
    refine seg 5 [.co [1, 1, 1, 0, 1, 0, 0, 1, 0], .co [1, 1, 1, 0, 1, 0, 0, 1, 1], .le 1, .bl 1, .le 0, .co [1, 1, 1, 1]] [(39, .slice A_1_117 l_.length c_2_117), (40, .int .i64 (l_.length : Int)), (41, .int .i64 (t : Int)), (42, .bool (decide ((t : Int) < (l_.length : Int))))] (by kernel_rfl) ?_
    rcases condT hb_173 with ⟨hb175, hb_173⟩ | ⟨hb175, hb_173⟩
    · rw [hb175]
      have p175 := of_decide_eq_true hb175
      refine seg 6 [.op [1, 1, 1, 0, 1, 0, 0, 1, 1, 0, 0, 0] 0, .co [1, 1, 1, 0, 1, 0, 0, 1, 1, 0, 0, 1], .bl 2, .co [1, 1, 1, 0, 1, 0, 0, 1, 1, 1], .le 1, .bl 1, .le 0, .co [1, 1, 1, 1]] [(39, .slice A_1_117 l_.length c_2_117), (40, .int .i64 (l_.length : Int)), (41, .int .i64 (t : Int))] (by kernel_rfl) ?_
      obtain ⟨x_, h_x_, hb_173⟩ := bindE hb_173
      obtain ⟨ad177, _, ea177, rfl, hc177⟩ := H.rowAt 0 rfl h_x_ (by decide)
      refine st (idxS (some 43) 48 3 1 A_1_117 ad177 l_.length c_2_117 .i64 (t : Int) ea177 (by kernel_rfl) (by kernel_rfl) (by omega) (by have := (List.getElem?_eq_some_iff.1 h_x_).1; omega) ?_)
      refine st (ldR (some 44) 3 (ad177.add (t * 1)) (.int .i64 x_) (by kernel_rfl) (by kernel_rfl) (add0 (hc177 0 _ rfl)) ?_)
      refine seg 7 [.op [1, 1, 1, 0, 1, 0, 0, 1, 1, 0, 0, 1, 0] 3, .co [1, 1, 1, 0, 1, 0, 0, 1, 1, 0, 0, 1, 1], .bl 2, .co [1, 1, 1, 0, 1, 0, 0, 1, 1, 1], .le 1, .bl 1, .le 0, .co [1, 1, 1, 1]] [(5, .int .i64 x_), (39, .slice A_1_117 l_.length c_2_117), (40, .int .i64 (l_.length : Int)), (41, .int .i64 (t : Int)), (47, .bool (decide (x_ < 0)))] (by kernel_rfl) ?_
      rcases condT hb_173 with ⟨hb178, hb_173⟩ | ⟨hb178, hb_173⟩
      · rw [hb178]
        have p178 := of_decide_eq_true hb178
        refine seg 9 [.co [1, 1, 1, 0, 1, 0, 0, 1, 1, 0, 0, 1, 1, 0, 1], .bl 2, .co [1, 1, 1, 0, 1, 0, 0, 1, 1, 1], .le 1, .bl 1, .le 0, .co [1, 1, 1, 1]] [(2, .int .i64 1)] (by kernel_rfl) ?_
        refine retR [2] [.int .i64 1] (by kernel_rfl) (by kernel_rfl) (by kernel_rfl) ?_
        obtain rfl : 1 = r := (hfr159 _ (hfin173 _ (Option.some.inj hb_173).symm).symm)
        exact ⟨_, rfl, rfl, H.scalar⟩
      · rw [hb178]
        have p178 := of_decide_eq_false hb178
        refine seg 4 [.co [1, 1, 1, 0, 1, 0, 0, 1, 1, 0, 0, 1, 1], .bl 2, .co [1, 1, 1, 0, 1, 0, 0, 1, 1, 1], .le 1, .bl 1, .le 0, .co [1, 1, 1, 1]] [(39, .slice A_1_117 l_.length c_2_117), (40, .int .i64 (l_.length : Int)), (41, .int .i64 (t : Int)), (50, .bool (decide (x_ > 1099511627776)))] (by kernel_rfl) ?_
        rcases condT hb_173 with ⟨hb179, hb_173⟩ | ⟨hb179, hb_173⟩
        · rw [hb179]
          have p179 := of_decide_eq_true hb179
          refine seg 5 [.co [1, 1, 1, 0, 1, 0, 0, 1, 1, 0, 0, 1, 1, 0, 1], .bl 2, .co [1, 1, 1, 0, 1, 0, 0, 1, 1, 1], .le 1, .bl 1, .le 0, .co [1, 1, 1, 1]] [(2, .int .i64 1)] (by kernel_rfl) ?_
          refine retR [2] [.int .i64 1] (by kernel_rfl) (by kernel_rfl) (by kernel_rfl) ?_
          obtain rfl : 1 = r := (hfr159 _ (hfin173 _ (Option.some.inj hb_173).symm).symm)
          exact ⟨_, rfl, rfl, H.scalar⟩
        · rw [hb179]
          have p179 := of_decide_eq_false hb179
          refine seg 7 [.le 1, .bl 1, .le 0, .co [1, 1, 1, 1]] [(39, .slice A_1_117 l_.length c_2_117), (40, .int .i64 (l_.length : Int)), (41, .int .i64 (IntKind.i64.wrap ((t : Int) + 1)))] (by kernel_rfl) ?_
          have := (le63 (H.rowCap 0 rfl))
          rw [show IntKind.i64.wrap ((t : Int) + 1) = ((t : Int) + 1) from w64 (by omega)]
          refine leR (nk173, (t + 1)) (Nat.lt_succ_self _) ⟨hnx173 _ (Option.some.inj hb_173).symm, H⟩ (by kernel_rfl)
    · rw [hb175]
      have p175 := of_decide_eq_false hb175
      refine seg 2 [.le 0, .co [1, 1, 1, 1]] [] (by kernel_rfl) ?_
      refine leR_up (k' := []) (by rfl) ?_
      refine leJ () ⟨(hfin173 _ (Option.some.inj hb_173).symm).symm, (St.takeN 0 H)⟩ (by kernel_rfl)
  rintro _ wj159 ⟨hy159, H⟩
  have hf := hfl159 _ hy159
  try dsimp only at hf
  refine seg 4 [.co [1, 1, 1, 1, 1]] [(2, .int .i64 0)] (by kernel_rfl) ?_
  refine retR [2] [.int .i64 0] (by kernel_rfl) (by kernel_rfl) (by kernel_rfl) ?_
  obtain rfl : 0 = r := (Option.some.inj hf)
  exact ⟨_, rfl, rfl, H.scalar⟩
theorem script_whole_c {m : Mem} {w : World} (hm : Has m w) (a : TApiAct) (A0_3 : Option Addr) (c0_3 : Nat) (s0_3 : SlI rU8 m A0_3 c0_3 a.Bytes) (A0_5 : Option Addr) (c0_5 : Nat) (s0_5 : SlI rU8 m A0_5 c0_5 a.Crash.Torn) (l0_10 : a.Call.Name.length ≤ 9223372036854775807) {r : TApiAct} (hf : script_whole a = some r) :
    Calls Tryd.prog 18 #[.agg #[.int .i64 a.Do, .int .i64 a.Len, .int .u64 (a.Sum.toNat : Int), .slice A0_3 a.Bytes.length c0_3, .int .i64 a.Crash.After, .slice A0_5 a.Crash.Torn.length c0_5, .int .i64 a.Call.Do, .int .i64 a.Call.Ino, .int .i64 a.Call.A, .int .i64 a.Call.B, .string ⟨a.Call.Name.toArray⟩, .bool a.Call.On]] w fun e w' => ∃ v, e = .returned v ∧ ∃ Az_0_3 : Option Addr, ∃ cz_0_3 : Nat, ∃ Az_0_5 : Option Addr, ∃ cz_0_5 : Nat, ∃ m' : Mem, v = .agg #[.int .i64 r.Do, .int .i64 r.Len, .int .u64 (r.Sum.toNat : Int), .slice Az_0_3 r.Bytes.length cz_0_3, .int .i64 r.Crash.After, .slice Az_0_5 r.Crash.Torn.length cz_0_5, .int .i64 r.Call.Do, .int .i64 r.Call.Ino, .int .i64 r.Call.A, .int .i64 r.Call.B, .string ⟨r.Call.Name.toArray⟩, .bool r.Call.On] ∧ St w noF m m' [] w' ∧ SlI rU8 m' Az_0_3 cz_0_3 r.Bytes ∧ SlI rU8 m' Az_0_5 cz_0_5 r.Crash.Torn ∧ r.Call.Name.length ≤ 9223372036854775807 := by
  unfold script_whole at hf
  have H := St.start0 hm
  refine callsR Tryd.func18 (by kernel_rfl) (by kernel_rfl) ?_
  refine seg 2 [.op [0] 0, .co [1]] [(0, .agg #[.int .i64 a.Do, .int .i64 a.Len, .int .u64 (a.Sum.toNat : Int), .slice A0_3 a.Bytes.length c0_3, .int .i64 a.Crash.After, .slice A0_5 a.Crash.Torn.length c0_5, .int .i64 a.Call.Do, .int .i64 a.Call.Ino, .int .i64 a.Call.A, .int .i64 a.Call.B, .string ⟨a.Call.Name.toArray⟩, .bool a.Call.On])] (by kernel_rfl) ?_
  refine st (newS (some 1) (fun g => .pointer (some ⟨g, 0, none⟩)) [.int .i64 a.Do, .int .i64 a.Len, .int .u64 (a.Sum.toNat : Int), .slice A0_3 a.Bytes.length c0_3, .int .i64 a.Crash.After, .slice A0_5 a.Crash.Torn.length c0_5, .int .i64 a.Call.Do, .int .i64 a.Call.Ino, .int .i64 a.Call.A, .int .i64 a.Call.B, .string ⟨a.Call.Name.toArray⟩, .bool a.Call.On] 29 H (by kernel_rfl) ?_)
  intro g1 w1 H
  refine st (newS (some 2) (fun g => .pointer (some ⟨g, 0, none⟩)) [.int .i64 0, .int .i64 0, .int .u64 0, .slice none 0 0, .int .i64 0, .slice none 0 0, .int .i64 0, .int .i64 0, .int .i64 0, .int .i64 0, .string ⟨([] : List UInt8).toArray⟩, .bool false] 29 H (by kernel_rfl) ?_)
  intro g2 w2 H
  refine seg 2 [.co [1, 0], .co [1, 1]] [(1, .pointer (some (⟨g1, 0, none⟩))), (2, .pointer (some (⟨g2, 0, none⟩)))] (by kernel_rfl) ?_
  obtain ⟨hc3, hf⟩ := chkE hf
  obtain ⟨hc5, hf⟩ := chkE hf
  have hst : statB (bodyOf Tryd.f18) [1, 0] = true := by kernel_rfl
  refine drawS (fun w' => Has m w' ∧ w'.heap[g2]? = some (.cells [.int .i64 0, .int .i64 0, .int .u64 0, .slice none 0 0, .int .i64 0, .slice none 0 0, .int .i64 0, .int .i64 0, .int .i64 0, .int .i64 0, .string ⟨([] : List UInt8).toArray⟩, .bool false].toArray 29 (0, 0))) H (by kernel_rfl) (by kernel_rfl) ?_
  intro w10 H
  refine segD2 hst [0, 3, 4] [0, 3, 4] [(1, .pointer (some (⟨g1, 0, none⟩))), (2, .pointer (some (⟨g2, 0, none⟩))), (3, .pointer (some (⟨g1, 3, none⟩))), (7, .pointer (some (⟨g1, 5, none⟩)))] (by kernel_rfl) ?_
  refine allD2 [1, 5] (by kernel_rfl) ⟨H.has, H.blk 0 rfl⟩ ⟨?_, ?_, trivial⟩
  · replace H : St w noF m m [blkI g2 [.int .i64 0, .int .i64 0, .int .u64 0, .slice none 0 0, .int .i64 0, .slice none 0 0, .int .i64 0, .int .i64 0, .int .i64 0, .int .i64 0, .string ⟨([] : List UInt8).toArray⟩, .bool false] 29, blkI g1 [.int .i64 a.Do, .int .i64 a.Len, .int .u64 (a.Sum.toNat : Int), .slice A0_3 a.Bytes.length c0_3, .int .i64 a.Crash.After, .slice A0_5 a.Crash.Torn.length c0_5, .int .i64 a.Call.Do, .int .i64 a.Call.Ino, .int .i64 a.Call.A, .int .i64 a.Call.B, .string ⟨a.Call.Name.toArray⟩, .bool a.Call.On] 29] w10 := H
    refine (ldR (some 4) 23 (⟨g1, 3, none⟩) (.slice A0_3 a.Bytes.length c0_3) (by kernel_rfl) (by kernel_rfl) (H.cellB 1 rfl rfl) ?_)
    refine allD2 [2, 5] (by kernel_rfl) ⟨H.has, H.blk 0 rfl⟩ ⟨?_, ?_, trivial⟩
    · refine (cloneS laysC (some 5) 17 5 A0_3 c0_3 a.Bytes rfl rfl H s0_3 (of_decide_eq_true hc3) Tryd.call17 (by kernel_rfl) ?_)
      intro A11 c11 w11 H
      refine stD2 (i := 5) (by kernel_rfl) ⟨H.has, H.blk 1 rfl⟩ (ldR (some 8) 23 (⟨g1, 5, none⟩) (.slice A0_5 a.Crash.Torn.length c0_5) (by kernel_rfl) (by kernel_rfl) (H.cellB 2 rfl rfl) ?_)
      refine segD2 hst [7] [0, 3, 4, 1, 2, 5, 7] [(1, .pointer (some (⟨g1, 0, none⟩))), (2, .pointer (some (⟨g2, 0, none⟩))), (5, .slice A11 a.Bytes.length c11), (8, .slice A0_5 a.Crash.Torn.length c0_5), (10, .pointer (some (⟨g1, 3, none⟩)))] (by kernel_rfl) ?_
      refine stD2 (i := 6) (by kernel_rfl) ⟨H.has, H.blk 1 rfl⟩ (cloneS laysC (some 9) 17 5 A0_5 c0_5 a.Crash.Torn rfl rfl H s0_5 (of_decide_eq_true hc5) Tryd.call17 (by kernel_rfl) ?_)
      intro A12 c12 w12 H
      refine stD2 (i := 8) (by kernel_rfl) ⟨H.has, H.blk 2 rfl⟩ (stS none 23 3 g1 3 (.slice A11 a.Bytes.length c11) [.int .i64 a.Do, .int .i64 a.Len, .int .u64 (a.Sum.toNat : Int), .slice A0_3 a.Bytes.length c0_3, .int .i64 a.Crash.After, .slice A0_5 a.Crash.Torn.length c0_5, .int .i64 a.Call.Do, .int .i64 a.Call.Ino, .int .i64 a.Call.A, .int .i64 a.Call.B, .string ⟨a.Call.Name.toArray⟩, .bool a.Call.On] 29 H rfl (by kernel_rfl) (by kernel_rfl) rfl (of_decide_eq_true rfl) ?_)
      intro w13 H
      refine segD2 hst [9, 10] [0, 3, 4, 1, 2, 5, 7, 6, 8, 9, 10] [(1, .pointer (some (⟨g1, 0, none⟩))), (2, .pointer (some (⟨g2, 0, none⟩))), (9, .slice A12 a.Crash.Torn.length c12), (12, .pointer (some (⟨g1, 5, none⟩)))] (by kernel_rfl) ?_
      refine stD2 (i := 11) (by kernel_rfl) ⟨H.has, H.blk 2 rfl⟩ (stS none 23 3 g1 5 (.slice A12 a.Crash.Torn.length c12) [.int .i64 a.Do, .int .i64 a.Len, .int .u64 (a.Sum.toNat : Int), .slice A11 a.Bytes.length c11, .int .i64 a.Crash.After, .slice A0_5 a.Crash.Torn.length c0_5, .int .i64 a.Call.Do, .int .i64 a.Call.Ino, .int .i64 a.Call.A, .int .i64 a.Call.B, .string ⟨a.Call.Name.toArray⟩, .bool a.Call.On] 29 H rfl (by kernel_rfl) (by kernel_rfl) rfl (of_decide_eq_true rfl) ?_)
      intro w14 H
      refine endD2 (by kernel_rfl) ⟨H.has, H.blk 2 rfl⟩ ?_
      refine seg 2 [.op [1, 1, 0] 0, .co [1, 1, 1]] [(1, .pointer (some (⟨g1, 0, none⟩))), (2, .pointer (some (⟨g2, 0, none⟩)))] (by kernel_rfl) ?_
      replace H : St w noF m m [rowI rU8 5 A12 c12 a.Crash.Torn, rowI rU8 5 A11 c11 a.Bytes, blkI g2 [.int .i64 0, .int .i64 0, .int .u64 0, .slice none 0 0, .int .i64 0, .slice none 0 0, .int .i64 0, .int .i64 0, .int .i64 0, .int .i64 0, .string ⟨([] : List UInt8).toArray⟩, .bool false] 29, blkI g1 [.int .i64 a.Do, .int .i64 a.Len, .int .u64 (a.Sum.toNat : Int), .slice A11 a.Bytes.length c11, .int .i64 a.Crash.After, .slice A12 a.Crash.Torn.length c12, .int .i64 a.Call.Do, .int .i64 a.Call.Ino, .int .i64 a.Call.A, .int .i64 a.Call.B, .string ⟨a.Call.Name.toArray⟩, .bool a.Call.On] 29] w14 := H
      refine st (ldAggR (some 13) 29 (⟨g1, 0, none⟩) [.int .i64 a.Do, .int .i64 a.Len, .int .u64 (a.Sum.toNat : Int), .slice A11 a.Bytes.length c11, .int .i64 a.Crash.After, .slice A12 a.Crash.Torn.length c12, .int .i64 a.Call.Do, .int .i64 a.Call.Ino, .int .i64 a.Call.A, .int .i64 a.Call.B, .string ⟨a.Call.Name.toArray⟩, .bool a.Call.On] (by kernel_rfl) (by kernel_rfl) (H.cellsB 3 rfl (by rfl)) ?_)
      refine st (stAggS none 29 2 g2 0 [.int .i64 a.Do, .int .i64 a.Len, .int .u64 (a.Sum.toNat : Int), .slice A11 a.Bytes.length c11, .int .i64 a.Crash.After, .slice A12 a.Crash.Torn.length c12, .int .i64 a.Call.Do, .int .i64 a.Call.Ino, .int .i64 a.Call.A, .int .i64 a.Call.B, .string ⟨a.Call.Name.toArray⟩, .bool a.Call.On] [.int .i64 0, .int .i64 0, .int .u64 0, .slice none 0 0, .int .i64 0, .slice none 0 0, .int .i64 0, .int .i64 0, .int .i64 0, .int .i64 0, .string ⟨([] : List UInt8).toArray⟩, .bool false] [.int .i64 a.Do, .int .i64 a.Len, .int .u64 (a.Sum.toNat : Int), .slice A11 a.Bytes.length c11, .int .i64 a.Crash.After, .slice A12 a.Crash.Torn.length c12, .int .i64 a.Call.Do, .int .i64 a.Call.Ino, .int .i64 a.Call.A, .int .i64 a.Call.B, .string ⟨a.Call.Name.toArray⟩, .bool a.Call.On] 29 H rfl (by kernel_rfl) (by kernel_rfl) (by rfl) (of_decide_eq_true rfl) rfl ?_)
      intro w15 H
      refine seg 1 [.co [1, 1, 1]] [(2, .pointer (some (⟨g2, 0, none⟩)))] (by kernel_rfl) ?_
      obtain ⟨mf17, hsub17, hsf17, H⟩ := H.fixR 1 rfl
      obtain ⟨mf18, hsub18, hsf18, H⟩ := H.fixR 0 rfl
      refine retC [.agg #[.int .i64 a.Do, .int .i64 a.Len, .int .u64 (a.Sum.toNat : Int), .slice A11 a.Bytes.length c11, .int .i64 a.Crash.After, .slice A12 a.Crash.Torn.length c12, .int .i64 a.Call.Do, .int .i64 a.Call.Ino, .int .i64 a.Call.A, .int .i64 a.Call.B, .string ⟨a.Call.Name.toArray⟩, .bool a.Call.On]] (by kernel_rfl) ⟨⟨_, rfl, ldv_agg 29 (⟨g2, 0, none⟩) [.int .i64 a.Do, .int .i64 a.Len, .int .u64 (a.Sum.toNat : Int), .slice A11 a.Bytes.length c11, .int .i64 a.Crash.After, .slice A12 a.Crash.Torn.length c12, .int .i64 a.Call.Do, .int .i64 a.Call.Ino, .int .i64 a.Call.A, .int .i64 a.Call.B, .string ⟨a.Call.Name.toArray⟩, .bool a.Call.On] (by kernel_rfl) (H.cellsB 0 rfl (by rfl))⟩, trivial⟩ ?_
      have hret := (Option.some.inj hf)
      subst hret
      exact ⟨_, rfl, A11, c11, A12, c12, mf18, rfl, (St.takeN 0 H), (hsf17.mono hsub18), hsf18, l0_10⟩
    · refine (ldR (some 8) 23 (⟨g1, 5, none⟩) (.slice A0_5 a.Crash.Torn.length c0_5) (by kernel_rfl) (by kernel_rfl) (H.cellB 1 rfl rfl) ?_)
      refine stD2 (i := 2) (by kernel_rfl) ⟨H.has, H.blk 0 rfl⟩ (cloneS laysC (some 5) 17 5 A0_3 c0_3 a.Bytes rfl rfl H s0_3 (of_decide_eq_true hc3) Tryd.call17 (by kernel_rfl) ?_)
      intro A19 c19 w19 H
      refine segD2 hst [7] [0, 3, 4, 1, 5, 2, 7] [(1, .pointer (some (⟨g1, 0, none⟩))), (2, .pointer (some (⟨g2, 0, none⟩))), (5, .slice A19 a.Bytes.length c19), (8, .slice A0_5 a.Crash.Torn.length c0_5), (10, .pointer (some (⟨g1, 3, none⟩)))] (by kernel_rfl) ?_
      refine stD2 (i := 6) (by kernel_rfl) ⟨H.has, H.blk 1 rfl⟩ (cloneS laysC (some 9) 17 5 A0_5 c0_5 a.Crash.Torn rfl rfl H s0_5 (of_decide_eq_true hc5) Tryd.call17 (by kernel_rfl) ?_)
      intro A20 c20 w20 H
      refine stD2 (i := 8) (by kernel_rfl) ⟨H.has, H.blk 2 rfl⟩ (stS none 23 3 g1 3 (.slice A19 a.Bytes.length c19) [.int .i64 a.Do, .int .i64 a.Len, .int .u64 (a.Sum.toNat : Int), .slice A0_3 a.Bytes.length c0_3, .int .i64 a.Crash.After, .slice A0_5 a.Crash.Torn.length c0_5, .int .i64 a.Call.Do, .int .i64 a.Call.Ino, .int .i64 a.Call.A, .int .i64 a.Call.B, .string ⟨a.Call.Name.toArray⟩, .bool a.Call.On] 29 H rfl (by kernel_rfl) (by kernel_rfl) rfl (of_decide_eq_true rfl) ?_)
      intro w21 H
      refine segD2 hst [9, 10] [0, 3, 4, 1, 5, 2, 7, 6, 8, 9, 10] [(1, .pointer (some (⟨g1, 0, none⟩))), (2, .pointer (some (⟨g2, 0, none⟩))), (9, .slice A20 a.Crash.Torn.length c20), (12, .pointer (some (⟨g1, 5, none⟩)))] (by kernel_rfl) ?_
      replace H : St w noF m m [rowI rU8 5 A20 c20 a.Crash.Torn, rowI rU8 5 A19 c19 a.Bytes, blkI g2 [.int .i64 0, .int .i64 0, .int .u64 0, .slice none 0 0, .int .i64 0, .slice none 0 0, .int .i64 0, .int .i64 0, .int .i64 0, .int .i64 0, .string ⟨([] : List UInt8).toArray⟩, .bool false] 29, blkI g1 [.int .i64 a.Do, .int .i64 a.Len, .int .u64 (a.Sum.toNat : Int), .slice A19 a.Bytes.length c19, .int .i64 a.Crash.After, .slice A0_5 a.Crash.Torn.length c0_5, .int .i64 a.Call.Do, .int .i64 a.Call.Ino, .int .i64 a.Call.A, .int .i64 a.Call.B, .string ⟨a.Call.Name.toArray⟩, .bool a.Call.On] 29] w21 := H
      refine stD2 (i := 11) (by kernel_rfl) ⟨H.has, H.blk 2 rfl⟩ (stS none 23 3 g1 5 (.slice A20 a.Crash.Torn.length c20) [.int .i64 a.Do, .int .i64 a.Len, .int .u64 (a.Sum.toNat : Int), .slice A19 a.Bytes.length c19, .int .i64 a.Crash.After, .slice A0_5 a.Crash.Torn.length c0_5, .int .i64 a.Call.Do, .int .i64 a.Call.Ino, .int .i64 a.Call.A, .int .i64 a.Call.B, .string ⟨a.Call.Name.toArray⟩, .bool a.Call.On] 29 H rfl (by kernel_rfl) (by kernel_rfl) rfl (of_decide_eq_true rfl) ?_)
      intro w22 H
      refine endD2 (by kernel_rfl) ⟨H.has, H.blk 2 rfl⟩ ?_
      refine seg 2 [.op [1, 1, 0] 0, .co [1, 1, 1]] [(1, .pointer (some (⟨g1, 0, none⟩))), (2, .pointer (some (⟨g2, 0, none⟩)))] (by kernel_rfl) ?_
      refine st (ldAggR (some 13) 29 (⟨g1, 0, none⟩) [.int .i64 a.Do, .int .i64 a.Len, .int .u64 (a.Sum.toNat : Int), .slice A19 a.Bytes.length c19, .int .i64 a.Crash.After, .slice A20 a.Crash.Torn.length c20, .int .i64 a.Call.Do, .int .i64 a.Call.Ino, .int .i64 a.Call.A, .int .i64 a.Call.B, .string ⟨a.Call.Name.toArray⟩, .bool a.Call.On] (by kernel_rfl) (by kernel_rfl) (H.cellsB 3 rfl (by rfl)) ?_)
      refine st (stAggS none 29 2 g2 0 [.int .i64 a.Do, .int .i64 a.Len, .int .u64 (a.Sum.toNat : Int), .slice A19 a.Bytes.length c19, .int .i64 a.Crash.After, .slice A20 a.Crash.Torn.length c20, .int .i64 a.Call.Do, .int .i64 a.Call.Ino, .int .i64 a.Call.A, .int .i64 a.Call.B, .string ⟨a.Call.Name.toArray⟩, .bool a.Call.On] [.int .i64 0, .int .i64 0, .int .u64 0, .slice none 0 0, .int .i64 0, .slice none 0 0, .int .i64 0, .int .i64 0, .int .i64 0, .int .i64 0, .string ⟨([] : List UInt8).toArray⟩, .bool false] [.int .i64 a.Do, .int .i64 a.Len, .int .u64 (a.Sum.toNat : Int), .slice A19 a.Bytes.length c19, .int .i64 a.Crash.After, .slice A20 a.Crash.Torn.length c20, .int .i64 a.Call.Do, .int .i64 a.Call.Ino, .int .i64 a.Call.A, .int .i64 a.Call.B, .string ⟨a.Call.Name.toArray⟩, .bool a.Call.On] 29 H rfl (by kernel_rfl) (by kernel_rfl) (by rfl) (of_decide_eq_true rfl) rfl ?_)
      intro w23 H
      refine seg 1 [.co [1, 1, 1]] [(2, .pointer (some (⟨g2, 0, none⟩)))] (by kernel_rfl) ?_
      obtain ⟨mf24, hsub24, hsf24, H⟩ := H.fixR 1 rfl
      obtain ⟨mf25, hsub25, hsf25, H⟩ := H.fixR 0 rfl
      refine retC [.agg #[.int .i64 a.Do, .int .i64 a.Len, .int .u64 (a.Sum.toNat : Int), .slice A19 a.Bytes.length c19, .int .i64 a.Crash.After, .slice A20 a.Crash.Torn.length c20, .int .i64 a.Call.Do, .int .i64 a.Call.Ino, .int .i64 a.Call.A, .int .i64 a.Call.B, .string ⟨a.Call.Name.toArray⟩, .bool a.Call.On]] (by kernel_rfl) ⟨⟨_, rfl, ldv_agg 29 (⟨g2, 0, none⟩) [.int .i64 a.Do, .int .i64 a.Len, .int .u64 (a.Sum.toNat : Int), .slice A19 a.Bytes.length c19, .int .i64 a.Crash.After, .slice A20 a.Crash.Torn.length c20, .int .i64 a.Call.Do, .int .i64 a.Call.Ino, .int .i64 a.Call.A, .int .i64 a.Call.B, .string ⟨a.Call.Name.toArray⟩, .bool a.Call.On] (by kernel_rfl) (H.cellsB 0 rfl (by rfl))⟩, trivial⟩ ?_
      have hret := (Option.some.inj hf)
      subst hret
      exact ⟨_, rfl, A19, c19, A20, c20, mf25, rfl, (St.takeN 0 H), (hsf24.mono hsub25), hsf25, l0_10⟩
  · refine (ldR (some 8) 23 (⟨g1, 5, none⟩) (.slice A0_5 a.Crash.Torn.length c0_5) (by kernel_rfl) (by kernel_rfl) (H.cellB 1 rfl rfl) ?_)
    refine stD2 (i := 1) (by kernel_rfl) ⟨H.has, H.blk 0 rfl⟩ (ldR (some 4) 23 (⟨g1, 3, none⟩) (.slice A0_3 a.Bytes.length c0_3) (by kernel_rfl) (by kernel_rfl) (H.cellB 1 rfl rfl) ?_)
    refine stD2 (i := 2) (by kernel_rfl) ⟨H.has, H.blk 0 rfl⟩ (cloneS laysC (some 5) 17 5 A0_3 c0_3 a.Bytes rfl rfl H s0_3 (of_decide_eq_true hc3) Tryd.call17 (by kernel_rfl) ?_)
    intro A26 c26 w26 H
    refine segD2 hst [7] [0, 3, 4, 5, 1, 2, 7] [(1, .pointer (some (⟨g1, 0, none⟩))), (2, .pointer (some (⟨g2, 0, none⟩))), (5, .slice A26 a.Bytes.length c26), (8, .slice A0_5 a.Crash.Torn.length c0_5), (10, .pointer (some (⟨g1, 3, none⟩)))] (by kernel_rfl) ?_
    refine stD2 (i := 6) (by kernel_rfl) ⟨H.has, H.blk 1 rfl⟩ (cloneS laysC (some 9) 17 5 A0_5 c0_5 a.Crash.Torn rfl rfl H s0_5 (of_decide_eq_true hc5) Tryd.call17 (by kernel_rfl) ?_)
    intro A27 c27 w27 H
    replace H : St w noF m m [rowI rU8 5 A27 c27 a.Crash.Torn, rowI rU8 5 A26 c26 a.Bytes, blkI g2 [.int .i64 0, .int .i64 0, .int .u64 0, .slice none 0 0, .int .i64 0, .slice none 0 0, .int .i64 0, .int .i64 0, .int .i64 0, .int .i64 0, .string ⟨([] : List UInt8).toArray⟩, .bool false] 29, blkI g1 [.int .i64 a.Do, .int .i64 a.Len, .int .u64 (a.Sum.toNat : Int), .slice A0_3 a.Bytes.length c0_3, .int .i64 a.Crash.After, .slice A0_5 a.Crash.Torn.length c0_5, .int .i64 a.Call.Do, .int .i64 a.Call.Ino, .int .i64 a.Call.A, .int .i64 a.Call.B, .string ⟨a.Call.Name.toArray⟩, .bool a.Call.On] 29] w27 := H
    refine stD2 (i := 8) (by kernel_rfl) ⟨H.has, H.blk 2 rfl⟩ (stS none 23 3 g1 3 (.slice A26 a.Bytes.length c26) [.int .i64 a.Do, .int .i64 a.Len, .int .u64 (a.Sum.toNat : Int), .slice A0_3 a.Bytes.length c0_3, .int .i64 a.Crash.After, .slice A0_5 a.Crash.Torn.length c0_5, .int .i64 a.Call.Do, .int .i64 a.Call.Ino, .int .i64 a.Call.A, .int .i64 a.Call.B, .string ⟨a.Call.Name.toArray⟩, .bool a.Call.On] 29 H rfl (by kernel_rfl) (by kernel_rfl) rfl (of_decide_eq_true rfl) ?_)
    intro w28 H
    refine segD2 hst [9, 10] [0, 3, 4, 5, 1, 2, 7, 6, 8, 9, 10] [(1, .pointer (some (⟨g1, 0, none⟩))), (2, .pointer (some (⟨g2, 0, none⟩))), (9, .slice A27 a.Crash.Torn.length c27), (12, .pointer (some (⟨g1, 5, none⟩)))] (by kernel_rfl) ?_
    refine stD2 (i := 11) (by kernel_rfl) ⟨H.has, H.blk 2 rfl⟩ (stS none 23 3 g1 5 (.slice A27 a.Crash.Torn.length c27) [.int .i64 a.Do, .int .i64 a.Len, .int .u64 (a.Sum.toNat : Int), .slice A26 a.Bytes.length c26, .int .i64 a.Crash.After, .slice A0_5 a.Crash.Torn.length c0_5, .int .i64 a.Call.Do, .int .i64 a.Call.Ino, .int .i64 a.Call.A, .int .i64 a.Call.B, .string ⟨a.Call.Name.toArray⟩, .bool a.Call.On] 29 H rfl (by kernel_rfl) (by kernel_rfl) rfl (of_decide_eq_true rfl) ?_)
    intro w29 H
    refine endD2 (by kernel_rfl) ⟨H.has, H.blk 2 rfl⟩ ?_
    refine seg 2 [.op [1, 1, 0] 0, .co [1, 1, 1]] [(1, .pointer (some (⟨g1, 0, none⟩))), (2, .pointer (some (⟨g2, 0, none⟩)))] (by kernel_rfl) ?_
    refine st (ldAggR (some 13) 29 (⟨g1, 0, none⟩) [.int .i64 a.Do, .int .i64 a.Len, .int .u64 (a.Sum.toNat : Int), .slice A26 a.Bytes.length c26, .int .i64 a.Crash.After, .slice A27 a.Crash.Torn.length c27, .int .i64 a.Call.Do, .int .i64 a.Call.Ino, .int .i64 a.Call.A, .int .i64 a.Call.B, .string ⟨a.Call.Name.toArray⟩, .bool a.Call.On] (by kernel_rfl) (by kernel_rfl) (H.cellsB 3 rfl (by rfl)) ?_)
    refine st (stAggS none 29 2 g2 0 [.int .i64 a.Do, .int .i64 a.Len, .int .u64 (a.Sum.toNat : Int), .slice A26 a.Bytes.length c26, .int .i64 a.Crash.After, .slice A27 a.Crash.Torn.length c27, .int .i64 a.Call.Do, .int .i64 a.Call.Ino, .int .i64 a.Call.A, .int .i64 a.Call.B, .string ⟨a.Call.Name.toArray⟩, .bool a.Call.On] [.int .i64 0, .int .i64 0, .int .u64 0, .slice none 0 0, .int .i64 0, .slice none 0 0, .int .i64 0, .int .i64 0, .int .i64 0, .int .i64 0, .string ⟨([] : List UInt8).toArray⟩, .bool false] [.int .i64 a.Do, .int .i64 a.Len, .int .u64 (a.Sum.toNat : Int), .slice A26 a.Bytes.length c26, .int .i64 a.Crash.After, .slice A27 a.Crash.Torn.length c27, .int .i64 a.Call.Do, .int .i64 a.Call.Ino, .int .i64 a.Call.A, .int .i64 a.Call.B, .string ⟨a.Call.Name.toArray⟩, .bool a.Call.On] 29 H rfl (by kernel_rfl) (by kernel_rfl) (by rfl) (of_decide_eq_true rfl) rfl ?_)
    intro w30 H
    refine seg 1 [.co [1, 1, 1]] [(2, .pointer (some (⟨g2, 0, none⟩)))] (by kernel_rfl) ?_
    obtain ⟨mf31, hsub31, hsf31, H⟩ := H.fixR 1 rfl
    obtain ⟨mf33, hsub33, hsf33, H⟩ := H.fixR 0 rfl
    refine retC [.agg #[.int .i64 a.Do, .int .i64 a.Len, .int .u64 (a.Sum.toNat : Int), .slice A26 a.Bytes.length c26, .int .i64 a.Crash.After, .slice A27 a.Crash.Torn.length c27, .int .i64 a.Call.Do, .int .i64 a.Call.Ino, .int .i64 a.Call.A, .int .i64 a.Call.B, .string ⟨a.Call.Name.toArray⟩, .bool a.Call.On]] (by kernel_rfl) ⟨⟨_, rfl, ldv_agg 29 (⟨g2, 0, none⟩) [.int .i64 a.Do, .int .i64 a.Len, .int .u64 (a.Sum.toNat : Int), .slice A26 a.Bytes.length c26, .int .i64 a.Crash.After, .slice A27 a.Crash.Torn.length c27, .int .i64 a.Call.Do, .int .i64 a.Call.Ino, .int .i64 a.Call.A, .int .i64 a.Call.B, .string ⟨a.Call.Name.toArray⟩, .bool a.Call.On] (by kernel_rfl) (H.cellsB 0 rfl (by rfl))⟩, trivial⟩ ?_
    have hret := (Option.some.inj hf)
    subst hret
    exact ⟨_, rfl, A26, c26, A27, c27, mf33, rfl, (St.takeN 0 H), (hsf31.mono hsub33), hsf33, l0_10⟩
theorem script_named_c {m : Mem} {w : World} (hm : Has m w) (do_ : Int) :
    Calls Tryd.prog 20 #[.int .i64 do_] w fun e w' => ∃ v, e = .returned v ∧ v = .bool (script_named do_) ∧ Ex w w' := by
  generalize hf : script_named do_ = r
  unfold script_named at hf
  have H := St.start0 hm
  refine callsR Tryd.func20 (by kernel_rfl) (by kernel_rfl) ?_
  refine seg 9 [.op [1, 0] 3, .co [1, 1]] [(0, .int .i64 do_), (5, .bool (do_ == 1))] (by kernel_rfl) ?_
  rcases condT hf with ⟨hb3, hf⟩ | ⟨hb3, hf⟩
  · rw [hb3]
    refine seg 9 [.co [1, 1]] [(2, .bool true)] (by kernel_rfl) ?_
    refine retR [2] [.bool true] (by kernel_rfl) (by kernel_rfl) (by kernel_rfl) ?_
    have hret := hf
    subst hret
    exact ⟨_, rfl, rfl, H.scalar⟩
  · rw [hb3]
    refine seg 4 [.op [1, 0] 7, .co [1, 1]] [(0, .int .i64 do_), (9, .bool (do_ == 7))] (by kernel_rfl) ?_
    rcases condT hf with ⟨hb4, hf⟩ | ⟨hb4, hf⟩
    · rw [hb4]
      refine seg 5 [.co [1, 1]] [(2, .bool true)] (by kernel_rfl) ?_
      refine retR [2] [.bool true] (by kernel_rfl) (by kernel_rfl) (by kernel_rfl) ?_
      have hret := hf
      subst hret
      exact ⟨_, rfl, rfl, H.scalar⟩
    · rw [hb4]
      refine seg 5 [.co [1, 1]] [(2, .bool (do_ == 8))] (by kernel_rfl) ?_
      refine retR [2] [.bool (do_ == 8)] (by kernel_rfl) (by kernel_rfl) (by kernel_rfl) ?_
      obtain rfl : (do_ == 8) = r := hf
      exact ⟨_, rfl, rfl, H.scalar⟩
theorem script_Plain_c {m : Mem} {w : World} (hm : Has m w) (a : TApiAct) (A0_3 : Option Addr) (c0_3 : Nat) (s0_3 : SlI rU8 m A0_3 c0_3 a.Bytes) (A0_5 : Option Addr) (c0_5 : Nat) (s0_5 : SlI rU8 m A0_5 c0_5 a.Crash.Torn) (l0_10 : a.Call.Name.length ≤ 9223372036854775807) {r : TApiAct} (hf : script_Plain a = some r) :
    Calls Tryd.prog 8 #[.agg #[.int .i64 a.Do, .int .i64 a.Len, .int .u64 (a.Sum.toNat : Int), .slice A0_3 a.Bytes.length c0_3, .int .i64 a.Crash.After, .slice A0_5 a.Crash.Torn.length c0_5, .int .i64 a.Call.Do, .int .i64 a.Call.Ino, .int .i64 a.Call.A, .int .i64 a.Call.B, .string ⟨a.Call.Name.toArray⟩, .bool a.Call.On]] w fun e w' => ∃ v, e = .returned v ∧ ∃ Az_0_3 : Option Addr, ∃ cz_0_3 : Nat, ∃ Az_0_5 : Option Addr, ∃ cz_0_5 : Nat, ∃ m' : Mem, v = .agg #[.int .i64 r.Do, .int .i64 r.Len, .int .u64 (r.Sum.toNat : Int), .slice Az_0_3 r.Bytes.length cz_0_3, .int .i64 r.Crash.After, .slice Az_0_5 r.Crash.Torn.length cz_0_5, .int .i64 r.Call.Do, .int .i64 r.Call.Ino, .int .i64 r.Call.A, .int .i64 r.Call.B, .string ⟨r.Call.Name.toArray⟩, .bool r.Call.On] ∧ St w noF m m' [] w' ∧ SlI rU8 m' Az_0_3 cz_0_3 r.Bytes ∧ SlI rU8 m' Az_0_5 cz_0_5 r.Crash.Torn ∧ r.Call.Name.length ≤ 9223372036854775807 := by
  unfold script_Plain at hf
  have H := St.start0 hm
  refine callsR Tryd.func8 (by kernel_rfl) (by kernel_rfl) ?_
  refine seg 2 [.op [0] 0, .co [1]] [(0, .agg #[.int .i64 a.Do, .int .i64 a.Len, .int .u64 (a.Sum.toNat : Int), .slice A0_3 a.Bytes.length c0_3, .int .i64 a.Crash.After, .slice A0_5 a.Crash.Torn.length c0_5, .int .i64 a.Call.Do, .int .i64 a.Call.Ino, .int .i64 a.Call.A, .int .i64 a.Call.B, .string ⟨a.Call.Name.toArray⟩, .bool a.Call.On])] (by kernel_rfl) ?_
  refine st (newS (some 1) (fun g => .pointer (some ⟨g, 0, none⟩)) [.int .i64 a.Do, .int .i64 a.Len, .int .u64 (a.Sum.toNat : Int), .slice A0_3 a.Bytes.length c0_3, .int .i64 a.Crash.After, .slice A0_5 a.Crash.Torn.length c0_5, .int .i64 a.Call.Do, .int .i64 a.Call.Ino, .int .i64 a.Call.A, .int .i64 a.Call.B, .string ⟨a.Call.Name.toArray⟩, .bool a.Call.On] 29 H (by kernel_rfl) ?_)
  intro g1 w1 H
  refine st (newS (some 2) (fun g => .pointer (some ⟨g, 0, none⟩)) [.int .i64 0, .int .i64 0, .int .u64 0, .slice none 0 0, .int .i64 0, .slice none 0 0, .int .i64 0, .int .i64 0, .int .i64 0, .int .i64 0, .string ⟨([] : List UInt8).toArray⟩, .bool false] 29 H (by kernel_rfl) ?_)
  intro g2 w2 H
  refine seg 4 [.op [1, 0] 1, .co [1, 1]] [(1, .pointer (some (⟨g1, 0, none⟩))), (2, .pointer (some (⟨g2, 0, none⟩))), (5, .pointer (some (⟨g1, 0, none⟩)))] (by kernel_rfl) ?_
  refine st (ldR (some 6) 3 (⟨g1, 0, none⟩) (.int .i64 a.Do) (by kernel_rfl) (by kernel_rfl) (H.cellB 1 rfl rfl) ?_)
  refine seg 1 [.op [1, 0] 3, .co [1, 1]] [(1, .pointer (some (⟨g1, 0, none⟩))), (2, .pointer (some (⟨g2, 0, none⟩))), (7, .agg #[.int .i64 a.Do, .int .i64 0, .int .u64 0, .slice none 0 0, .int .i64 0, .slice none 0 0, .int .i64 0, .int .i64 0, .int .i64 0, .int .i64 0, .string ⟨([] : List UInt8).toArray⟩, .bool false])] (by kernel_rfl) ?_
  refine st (newS (some 3) (fun g => .pointer (some ⟨g, 0, none⟩)) [.int .i64 0, .int .i64 0, .int .u64 0, .slice none 0 0, .int .i64 0, .slice none 0 0, .int .i64 0, .int .i64 0, .int .i64 0, .int .i64 0, .string ⟨([] : List UInt8).toArray⟩, .bool false] 29 H (by kernel_rfl) ?_)
  intro g3 w3 H
  refine st (stAggS none 29 0 g3 0 [.int .i64 a.Do, .int .i64 0, .int .u64 0, .slice none 0 0, .int .i64 0, .slice none 0 0, .int .i64 0, .int .i64 0, .int .i64 0, .int .i64 0, .string ⟨([] : List UInt8).toArray⟩, .bool false] [.int .i64 0, .int .i64 0, .int .u64 0, .slice none 0 0, .int .i64 0, .slice none 0 0, .int .i64 0, .int .i64 0, .int .i64 0, .int .i64 0, .string ⟨([] : List UInt8).toArray⟩, .bool false] [.int .i64 a.Do, .int .i64 0, .int .u64 0, .slice none 0 0, .int .i64 0, .slice none 0 0, .int .i64 0, .int .i64 0, .int .i64 0, .int .i64 0, .string ⟨([] : List UInt8).toArray⟩, .bool false] 29 H rfl (by kernel_rfl) (by kernel_rfl) (by rfl) (of_decide_eq_true rfl) rfl ?_)
  intro w4 H
  refine seg 5 [.op [1, 1, 0, 0] 1, .co [1, 1, 0, 1], .co [1, 1, 1]] [(1, .pointer (some (⟨g1, 0, none⟩))), (2, .pointer (some (⟨g2, 0, none⟩))), (3, .pointer (some (⟨g3, 0, none⟩))), (8, .pointer (some (⟨g1, 0, none⟩)))] (by kernel_rfl) ?_
  replace H : St w noF m m [blkI g3 [.int .i64 a.Do, .int .i64 0, .int .u64 0, .slice none 0 0, .int .i64 0, .slice none 0 0, .int .i64 0, .int .i64 0, .int .i64 0, .int .i64 0, .string ⟨([] : List UInt8).toArray⟩, .bool false] 29, blkI g2 [.int .i64 0, .int .i64 0, .int .u64 0, .slice none 0 0, .int .i64 0, .slice none 0 0, .int .i64 0, .int .i64 0, .int .i64 0, .int .i64 0, .string ⟨([] : List UInt8).toArray⟩, .bool false] 29, blkI g1 [.int .i64 a.Do, .int .i64 a.Len, .int .u64 (a.Sum.toNat : Int), .slice A0_3 a.Bytes.length c0_3, .int .i64 a.Crash.After, .slice A0_5 a.Crash.Torn.length c0_5, .int .i64 a.Call.Do, .int .i64 a.Call.Ino, .int .i64 a.Call.A, .int .i64 a.Call.B, .string ⟨a.Call.Name.toArray⟩, .bool a.Call.On] 29] w4 := H
  refine st (ldR (some 9) 3 (⟨g1, 0, none⟩) (.int .i64 a.Do) (by kernel_rfl) (by kernel_rfl) (H.cellB 2 rfl rfl) ?_)
  refine seg 7 [.co [1, 1, 0, 1, 0, 1], .bl 0, .co [1, 1, 1]] [(1, .pointer (some (⟨g1, 0, none⟩))), (2, .pointer (some (⟨g2, 0, none⟩))), (3, .pointer (some (⟨g3, 0, none⟩))), (9, .int .i64 a.Do), (12, .bool (a.Do == 1))] (by kernel_rfl) ?_
  rcases condT hf with ⟨hb244, hf⟩ | ⟨hb244, hf⟩
  · rw [hb244]
    refine seg 1 [.co [1, 1, 0, 1, 0, 1, 0], .bl 0, .co [1, 1, 1]] [(1, .pointer (some (⟨g1, 0, none⟩))), (2, .pointer (some (⟨g2, 0, none⟩))), (3, .pointer (some (⟨g3, 0, none⟩)))] (by kernel_rfl) ?_
    have hst : statB (bodyOf Tryd.f8) [1, 1, 0, 1, 0, 1, 0] = true := by kernel_rfl
    refine drawS (fun w' => Has m w' ∧ w'.heap[g2]? = some (.cells [.int .i64 0, .int .i64 0, .int .u64 0, .slice none 0 0, .int .i64 0, .slice none 0 0, .int .i64 0, .int .i64 0, .int .i64 0, .int .i64 0, .string ⟨([] : List UInt8).toArray⟩, .bool false].toArray 29 (0, 0)) ∧ w'.heap[g1]? = some (.cells [.int .i64 a.Do, .int .i64 a.Len, .int .u64 (a.Sum.toNat : Int), .slice A0_3 a.Bytes.length c0_3, .int .i64 a.Crash.After, .slice A0_5 a.Crash.Torn.length c0_5, .int .i64 a.Call.Do, .int .i64 a.Call.Ino, .int .i64 a.Call.A, .int .i64 a.Call.B, .string ⟨a.Call.Name.toArray⟩, .bool a.Call.On].toArray 29 (0, 0))) H (by kernel_rfl) (by kernel_rfl) ?_
    intro w247 H
    refine segD2 hst [0, 2] [0, 2] [(2, .pointer (some (⟨g2, 0, none⟩))), (3, .pointer (some (⟨g3, 0, none⟩))), (14, .pointer (some (⟨g1, 1, none⟩))), (16, .pointer (some (⟨g1, 2, none⟩)))] (by kernel_rfl) ?_
    refine takeD2 (i := 1) (d := (some 15)) (s := vS (Instr.loadAt 3 (.pointer (some (⟨g1, 1, none⟩))))) (v := (.int .i64 a.Len)) hst (by kernel_rfl) (by kernel_rfl) (fun w' hw' => ld_run _ _ _ (by kernel_rfl) (blk_cell hw'.2.2 rfl)) ?_
    refine segD2 hst [4] [0, 2, 1, 4] [(2, .pointer (some (⟨g2, 0, none⟩))), (3, .pointer (some (⟨g3, 0, none⟩))), (15, .int .i64 a.Len), (16, .pointer (some (⟨g1, 2, none⟩))), (18, .pointer (some (⟨g3, 1, none⟩)))] (by kernel_rfl) ?_
    refine takeD2 (i := 3) (d := (some 17)) (s := vS (Instr.loadAt 22 (.pointer (some (⟨g1, 2, none⟩))))) (v := (.int .u64 (a.Sum.toNat : Int))) hst (by kernel_rfl) (by kernel_rfl) (fun w' hw' => ld_run _ _ _ (by kernel_rfl) (blk_cell hw'.2.2 rfl)) ?_
    refine stD2 (i := 5) (by kernel_rfl) ⟨H.has, H.blk 1 rfl, H.blk 2 rfl⟩ (stS none 3 0 g3 1 (.int .i64 a.Len) [.int .i64 a.Do, .int .i64 0, .int .u64 0, .slice none 0 0, .int .i64 0, .slice none 0 0, .int .i64 0, .int .i64 0, .int .i64 0, .int .i64 0, .string ⟨([] : List UInt8).toArray⟩, .bool false] 29 H rfl (by kernel_rfl) (by kernel_rfl) rfl (of_decide_eq_true rfl) ?_)
    intro w248 H
    refine segD2 hst [6] [0, 2, 1, 4, 3, 5, 6] [(2, .pointer (some (⟨g2, 0, none⟩))), (3, .pointer (some (⟨g3, 0, none⟩))), (17, .int .u64 (a.Sum.toNat : Int)), (19, .pointer (some (⟨g3, 2, none⟩)))] (by kernel_rfl) ?_
    replace H : St w noF m m [blkI g3 [.int .i64 a.Do, .int .i64 a.Len, .int .u64 0, .slice none 0 0, .int .i64 0, .slice none 0 0, .int .i64 0, .int .i64 0, .int .i64 0, .int .i64 0, .string ⟨([] : List UInt8).toArray⟩, .bool false] 29, blkI g2 [.int .i64 0, .int .i64 0, .int .u64 0, .slice none 0 0, .int .i64 0, .slice none 0 0, .int .i64 0, .int .i64 0, .int .i64 0, .int .i64 0, .string ⟨([] : List UInt8).toArray⟩, .bool false] 29, blkI g1 [.int .i64 a.Do, .int .i64 a.Len, .int .u64 (a.Sum.toNat : Int), .slice A0_3 a.Bytes.length c0_3, .int .i64 a.Crash.After, .slice A0_5 a.Crash.Torn.length c0_5, .int .i64 a.Call.Do, .int .i64 a.Call.Ino, .int .i64 a.Call.A, .int .i64 a.Call.B, .string ⟨a.Call.Name.toArray⟩, .bool a.Call.On] 29] w248 := H
    refine stD2 (i := 7) (by kernel_rfl) ⟨H.has, H.blk 1 rfl, H.blk 2 rfl⟩ (stS none 22 0 g3 2 (.int .u64 (a.Sum.toNat : Int)) [.int .i64 a.Do, .int .i64 a.Len, .int .u64 0, .slice none 0 0, .int .i64 0, .slice none 0 0, .int .i64 0, .int .i64 0, .int .i64 0, .int .i64 0, .string ⟨([] : List UInt8).toArray⟩, .bool false] 29 H rfl (by kernel_rfl) (by kernel_rfl) rfl (of_decide_eq_true rfl) ?_)
    intro w249 H
    refine endD2 (by kernel_rfl) ⟨H.has, H.blk 1 rfl, H.blk 2 rfl⟩ ?_
    refine seg 3 [.op [1, 1, 1, 0] 0, .co [1, 1, 1, 1]] [(2, .pointer (some (⟨g2, 0, none⟩))), (3, .pointer (some (⟨g3, 0, none⟩)))] (by kernel_rfl) ?_
    refine st (ldAggR (some 89) 29 (⟨g3, 0, none⟩) [.int .i64 a.Do, .int .i64 a.Len, .int .u64 (a.Sum.toNat : Int), .slice none 0 0, .int .i64 0, .slice none 0 0, .int .i64 0, .int .i64 0, .int .i64 0, .int .i64 0, .string ⟨([] : List UInt8).toArray⟩, .bool false] (by kernel_rfl) (by kernel_rfl) (H.cellsB 0 rfl (by rfl)) ?_)
    refine st (stAggS none 29 1 g2 0 [.int .i64 a.Do, .int .i64 a.Len, .int .u64 (a.Sum.toNat : Int), .slice none 0 0, .int .i64 0, .slice none 0 0, .int .i64 0, .int .i64 0, .int .i64 0, .int .i64 0, .string ⟨([] : List UInt8).toArray⟩, .bool false] [.int .i64 0, .int .i64 0, .int .u64 0, .slice none 0 0, .int .i64 0, .slice none 0 0, .int .i64 0, .int .i64 0, .int .i64 0, .int .i64 0, .string ⟨([] : List UInt8).toArray⟩, .bool false] [.int .i64 a.Do, .int .i64 a.Len, .int .u64 (a.Sum.toNat : Int), .slice none 0 0, .int .i64 0, .slice none 0 0, .int .i64 0, .int .i64 0, .int .i64 0, .int .i64 0, .string ⟨([] : List UInt8).toArray⟩, .bool false] 29 H rfl (by kernel_rfl) (by kernel_rfl) (by rfl) (of_decide_eq_true rfl) rfl ?_)
    intro w250 H
    refine seg 1 [.co [1, 1, 1, 1]] [(2, .pointer (some (⟨g2, 0, none⟩)))] (by kernel_rfl) ?_
    refine retC [.agg #[.int .i64 a.Do, .int .i64 a.Len, .int .u64 (a.Sum.toNat : Int), .slice none 0 0, .int .i64 0, .slice none 0 0, .int .i64 0, .int .i64 0, .int .i64 0, .int .i64 0, .string ⟨([] : List UInt8).toArray⟩, .bool false]] (by kernel_rfl) ⟨⟨_, rfl, ldv_agg 29 (⟨g2, 0, none⟩) [.int .i64 a.Do, .int .i64 a.Len, .int .u64 (a.Sum.toNat : Int), .slice none 0 0, .int .i64 0, .slice none 0 0, .int .i64 0, .int .i64 0, .int .i64 0, .int .i64 0, .string ⟨([] : List UInt8).toArray⟩, .bool false] (by kernel_rfl) (H.cellsB 1 rfl (by rfl))⟩, trivial⟩ ?_
    obtain rfl : ({ Do := a.Do, Len := a.Len, Sum := a.Sum, Bytes := [], Crash := ({ After := 0, Torn := [] } : TApiCrash), Call := ({ Do := 0, Ino := 0, A := 0, B := 0, Name := ([] : List UInt8), On := false } : TApiCall) } : TApiAct) = r := (Option.some.inj hf)
    exact ⟨_, rfl, none, 0, none, 0, m, rfl, (St.takeN 0 H), (SlI.nil _ _), (SlI.nil _ _), (Nat.le_of_ble_eq_true rfl)⟩
  · rw [hb244]
    refine seg 6 [.co [1, 1, 0, 1, 0, 1, 1, 1], .bl 0, .co [1, 1, 1]] [(1, .pointer (some (⟨g1, 0, none⟩))), (2, .pointer (some (⟨g2, 0, none⟩))), (3, .pointer (some (⟨g3, 0, none⟩))), (9, .int .i64 a.Do), (20, .bool (a.Do == 2))] (by kernel_rfl) ?_
    obtain ⟨y288, hp288, hfl288, hfr288⟩ := bndE hf
    refine joinR 0 (fun (x : (List UInt8) × Int × (List UInt8) × Int × Int × Int × Int × (List UInt8) × Bool × Option Addr × Nat × Option Addr × Nat × Mem) => [(2, .pointer (some (⟨g2, 0, none⟩))), (3, .pointer (some (⟨g3, 0, none⟩)))]) (fun (x : (List UInt8) × Int × (List UInt8) × Int × Int × Int × Int × (List UInt8) × Bool × Option Addr × Nat × Option Addr × Nat × Mem) (wj288 : World) => y288 = .inl (x.1, x.2.1, x.2.2.1, x.2.2.2.1, x.2.2.2.2.1, x.2.2.2.2.2.1, x.2.2.2.2.2.2.1, x.2.2.2.2.2.2.2.1, x.2.2.2.2.2.2.2.2.1) ∧ St w noF m x.2.2.2.2.2.2.2.2.2.2.2.2.2 [blkI g2 [.int .i64 0, .int .i64 0, .int .u64 0, .slice none 0 0, .int .i64 0, .slice none 0 0, .int .i64 0, .int .i64 0, .int .i64 0, .int .i64 0, .string ⟨([] : List UInt8).toArray⟩, .bool false] 29, blkI g3 [.int .i64 a.Do, .int .i64 0, .int .u64 0, .slice (x.2.2.2.2.2.2.2.2.2.1) x.1.length (x.2.2.2.2.2.2.2.2.2.2.1), .int .i64 x.2.1, .slice (x.2.2.2.2.2.2.2.2.2.2.2.1) x.2.2.1.length (x.2.2.2.2.2.2.2.2.2.2.2.2.1), .int .i64 x.2.2.2.1, .int .i64 x.2.2.2.2.1, .int .i64 x.2.2.2.2.2.1, .int .i64 x.2.2.2.2.2.2.1, .string ⟨x.2.2.2.2.2.2.2.1.toArray⟩, .bool x.2.2.2.2.2.2.2.2.1] 29, rowI rU8 5 (x.2.2.2.2.2.2.2.2.2.1) (x.2.2.2.2.2.2.2.2.2.2.1) x.1, rowI rU8 5 (x.2.2.2.2.2.2.2.2.2.2.2.1) (x.2.2.2.2.2.2.2.2.2.2.2.2.1) x.2.2.1] wj288 ∧ Sub m x.2.2.2.2.2.2.2.2.2.2.2.2.2 ∧ x.2.2.2.2.2.2.2.1.length ≤ 9223372036854775807) (by kernel_rfl) ?_ ?_
    · rcases condT hp288 with ⟨hb290, hp288⟩ | ⟨hb290, hp288⟩
      · rw [hb290]
        refine seg 3 [.op [1, 1, 0, 1, 0, 1, 1, 1, 0] 1, .le 0, .bl 0, .co [1, 1, 1]] [(2, .pointer (some (⟨g2, 0, none⟩))), (3, .pointer (some (⟨g3, 0, none⟩))), (22, .pointer (some (⟨g1, 3, none⟩)))] (by kernel_rfl) ?_
        replace H : St w noF m m [blkI g3 [.int .i64 a.Do, .int .i64 0, .int .u64 0, .slice none 0 0, .int .i64 0, .slice none 0 0, .int .i64 0, .int .i64 0, .int .i64 0, .int .i64 0, .string ⟨([] : List UInt8).toArray⟩, .bool false] 29, blkI g2 [.int .i64 0, .int .i64 0, .int .u64 0, .slice none 0 0, .int .i64 0, .slice none 0 0, .int .i64 0, .int .i64 0, .int .i64 0, .int .i64 0, .string ⟨([] : List UInt8).toArray⟩, .bool false] 29, blkI g1 [.int .i64 a.Do, .int .i64 a.Len, .int .u64 (a.Sum.toNat : Int), .slice A0_3 a.Bytes.length c0_3, .int .i64 a.Crash.After, .slice A0_5 a.Crash.Torn.length c0_5, .int .i64 a.Call.Do, .int .i64 a.Call.Ino, .int .i64 a.Call.A, .int .i64 a.Call.B, .string ⟨a.Call.Name.toArray⟩, .bool a.Call.On] 29] w4 := H
        refine st (ldR (some 23) 23 (⟨g1, 3, none⟩) (.slice A0_3 a.Bytes.length c0_3) (by kernel_rfl) (by kernel_rfl) (H.cellB 2 rfl rfl) ?_)
        obtain ⟨hc291, hp288⟩ := chkE hp288
        refine st (cloneS laysC (some 24) 17 5 A0_3 c0_3 a.Bytes rfl rfl H s0_3 (of_decide_eq_true hc291) Tryd.call17 (by kernel_rfl) ?_)
        intro A292 c292 w292 H
        refine seg 1 [.op [1, 1, 0, 1, 0, 1, 1, 1, 0] 4, .le 0, .bl 0, .co [1, 1, 1]] [(2, .pointer (some (⟨g2, 0, none⟩))), (3, .pointer (some (⟨g3, 0, none⟩))), (24, .slice A292 a.Bytes.length c292), (25, .pointer (some (⟨g3, 3, none⟩)))] (by kernel_rfl) ?_
        refine st (stS none 23 1 g3 3 (.slice A292 a.Bytes.length c292) [.int .i64 a.Do, .int .i64 0, .int .u64 0, .slice none 0 0, .int .i64 0, .slice none 0 0, .int .i64 0, .int .i64 0, .int .i64 0, .int .i64 0, .string ⟨([] : List UInt8).toArray⟩, .bool false] 29 H rfl (by kernel_rfl) (by kernel_rfl) rfl (of_decide_eq_true rfl) ?_)
        intro w293 H
        refine seg 1 [.le 0, .bl 0, .co [1, 1, 1]] [(2, .pointer (some (⟨g2, 0, none⟩))), (3, .pointer (some (⟨g3, 0, none⟩)))] (by kernel_rfl) ?_
        have H := H.nilR rU8 5
        refine leJ (a.Bytes, 0, [], 0, 0, 0, 0, ([] : List UInt8), false, A292, c292, none, 0, m) ⟨(Option.some.inj hp288).symm, (St.takeN 4 (((H.pull 1 rfl).pull 2 rfl).pull 3 rfl)), (Sub.refl _), (Nat.le_of_ble_eq_true rfl)⟩ (by kernel_rfl)
      · rw [hb290]
        refine seg 6 [.co [1, 1, 0, 1, 0, 1, 1, 1, 1, 1], .le 0, .bl 0, .co [1, 1, 1]] [(1, .pointer (some (⟨g1, 0, none⟩))), (2, .pointer (some (⟨g2, 0, none⟩))), (3, .pointer (some (⟨g3, 0, none⟩))), (9, .int .i64 a.Do), (26, .bool (a.Do == 5))] (by kernel_rfl) ?_
        rcases condT hp288 with ⟨hb294, hp288⟩ | ⟨hb294, hp288⟩
        · rw [hb294]
          refine seg 1 [.co [1, 1, 0, 1, 0, 1, 1, 1, 1, 1, 0], .le 0, .bl 0, .co [1, 1, 1]] [(1, .pointer (some (⟨g1, 0, none⟩))), (2, .pointer (some (⟨g2, 0, none⟩))), (3, .pointer (some (⟨g3, 0, none⟩)))] (by kernel_rfl) ?_
          obtain ⟨hc295, hp288⟩ := chkE hp288
          have hst : statB (bodyOf Tryd.f8) [1, 1, 0, 1, 0, 1, 1, 1, 1, 1, 0] = true := by kernel_rfl
          refine drawS (fun w' => Has m w' ∧ w'.heap[g2]? = some (.cells [.int .i64 0, .int .i64 0, .int .u64 0, .slice none 0 0, .int .i64 0, .slice none 0 0, .int .i64 0, .int .i64 0, .int .i64 0, .int .i64 0, .string ⟨([] : List UInt8).toArray⟩, .bool false].toArray 29 (0, 0)) ∧ w'.heap[g1]? = some (.cells [.int .i64 a.Do, .int .i64 a.Len, .int .u64 (a.Sum.toNat : Int), .slice A0_3 a.Bytes.length c0_3, .int .i64 a.Crash.After, .slice A0_5 a.Crash.Torn.length c0_5, .int .i64 a.Call.Do, .int .i64 a.Call.Ino, .int .i64 a.Call.A, .int .i64 a.Call.B, .string ⟨a.Call.Name.toArray⟩, .bool a.Call.On].toArray 29 (0, 0))) H (by kernel_rfl) (by kernel_rfl) ?_
          intro w298 H
          refine segD2 hst [0, 1, 3, 4] [0, 1, 3, 4] [(2, .pointer (some (⟨g2, 0, none⟩))), (3, .pointer (some (⟨g3, 0, none⟩))), (29, .pointer (some (⟨g1, 4, none⟩))), (32, .pointer (some (⟨g1, 5, none⟩)))] (by kernel_rfl) ?_
          refine takeD2 (i := 2) (d := (some 30)) (s := vS (Instr.loadAt 3 (.pointer (some (⟨g1, 4, none⟩))))) (v := (.int .i64 a.Crash.After)) hst (by kernel_rfl) (by kernel_rfl) (fun w' hw' => ld_run _ _ _ (by kernel_rfl) (blk_cell hw'.2.2 rfl)) ?_
          replace H : St w noF m m [blkI g3 [.int .i64 a.Do, .int .i64 0, .int .u64 0, .slice none 0 0, .int .i64 0, .slice none 0 0, .int .i64 0, .int .i64 0, .int .i64 0, .int .i64 0, .string ⟨([] : List UInt8).toArray⟩, .bool false] 29, blkI g2 [.int .i64 0, .int .i64 0, .int .u64 0, .slice none 0 0, .int .i64 0, .slice none 0 0, .int .i64 0, .int .i64 0, .int .i64 0, .int .i64 0, .string ⟨([] : List UInt8).toArray⟩, .bool false] 29, blkI g1 [.int .i64 a.Do, .int .i64 a.Len, .int .u64 (a.Sum.toNat : Int), .slice A0_3 a.Bytes.length c0_3, .int .i64 a.Crash.After, .slice A0_5 a.Crash.Torn.length c0_5, .int .i64 a.Call.Do, .int .i64 a.Call.Ino, .int .i64 a.Call.A, .int .i64 a.Call.B, .string ⟨a.Call.Name.toArray⟩, .bool a.Call.On] 29] w298 := H
          refine stD2 (i := 5) (by kernel_rfl) ⟨H.has, H.blk 1 rfl, H.blk 2 rfl⟩ (ldR (some 33) 23 (⟨g1, 5, none⟩) (.slice A0_5 a.Crash.Torn.length c0_5) (by kernel_rfl) (by kernel_rfl) (H.cellB 2 rfl rfl) ?_)
          refine stD2 (i := 6) (by kernel_rfl) ⟨H.has, H.blk 1 rfl, H.blk 2 rfl⟩ (cloneS laysC (some 34) 17 5 A0_5 c0_5 a.Crash.Torn rfl rfl H s0_5 (of_decide_eq_true hc295) Tryd.call17 (by kernel_rfl) ?_)
          intro A299 c299 w299 H
          refine segD2 hst [7, 8] [0, 1, 3, 4, 2, 5, 6, 7, 8] [(2, .pointer (some (⟨g2, 0, none⟩))), (3, .pointer (some (⟨g3, 0, none⟩))), (35, .agg #[.int .i64 a.Crash.After, .slice A299 a.Crash.Torn.length c299]), (36, .pointer (some (⟨g3, 4, none⟩)))] (by kernel_rfl) ?_
          refine stD2 (i := 9) (by kernel_rfl) ⟨H.has, H.blk 2 rfl, H.blk 3 rfl⟩ (stAggS none 25 1 g3 4 [.int .i64 a.Crash.After, .slice A299 a.Crash.Torn.length c299] [.int .i64 a.Do, .int .i64 0, .int .u64 0, .slice none 0 0, .int .i64 0, .slice none 0 0, .int .i64 0, .int .i64 0, .int .i64 0, .int .i64 0, .string ⟨([] : List UInt8).toArray⟩, .bool false] [.int .i64 a.Do, .int .i64 0, .int .u64 0, .slice none 0 0, .int .i64 a.Crash.After, .slice A299 a.Crash.Torn.length c299, .int .i64 0, .int .i64 0, .int .i64 0, .int .i64 0, .string ⟨([] : List UInt8).toArray⟩, .bool false] 29 H rfl (by kernel_rfl) (by kernel_rfl) (by rfl) (of_decide_eq_true rfl) rfl ?_)
          intro w300 H
          refine endD2 (by kernel_rfl) ⟨H.has, H.blk 2 rfl, H.blk 3 rfl⟩ ?_
          have H := H.nilR rU8 5
          refine leJ ([], a.Crash.After, a.Crash.Torn, 0, 0, 0, 0, ([] : List UInt8), false, none, 0, A299, c299, m) ⟨(Option.some.inj hp288).symm, (St.takeN 4 ((((H.pull 1 rfl).pull 1 rfl).pull 2 rfl).pull 3 rfl)), (Sub.refl _), (Nat.le_of_ble_eq_true rfl)⟩ (by kernel_rfl)
        · rw [hb294]
          refine seg 7 [.co [1, 1, 0, 1, 0, 1, 1, 1, 1, 1, 1, 0, 1], .co [1, 1, 0, 1, 0, 1, 1, 1, 1, 1, 1, 1], .le 0, .bl 0, .co [1, 1, 1]] [(1, .pointer (some (⟨g1, 0, none⟩))), (2, .pointer (some (⟨g2, 0, none⟩))), (3, .pointer (some (⟨g3, 0, none⟩))), (9, .int .i64 a.Do), (37, .bool (a.Do == 3))] (by kernel_rfl) ?_
          rcases condT hp288 with ⟨hb301, hp288⟩ | ⟨hb301, hp288⟩
          · rw [hb301]
            refine seg 4 [.le 0, .bl 0, .co [1, 1, 1]] [(2, .pointer (some (⟨g2, 0, none⟩))), (3, .pointer (some (⟨g3, 0, none⟩)))] (by kernel_rfl) ?_
            have H := H.nilR rU8 5
            have H := H.nilR rU8 5
            refine leJ ([], 0, [], 0, 0, 0, 0, ([] : List UInt8), false, none, 0, none, 0, m) ⟨(Option.some.inj hp288).symm, (St.takeN 4 ((((H.pull 1 rfl).pull 1 rfl).pull 2 rfl).pull 3 rfl)), (Sub.refl _), (Nat.le_of_ble_eq_true rfl)⟩ (by kernel_rfl)
          · rw [hb301]
            refine seg 6 [.co [1, 1, 0, 1, 0, 1, 1, 1, 1, 1, 1, 0, 1, 1, 1], .co [1, 1, 0, 1, 0, 1, 1, 1, 1, 1, 1, 1], .le 0, .bl 0, .co [1, 1, 1]] [(1, .pointer (some (⟨g1, 0, none⟩))), (2, .pointer (some (⟨g2, 0, none⟩))), (3, .pointer (some (⟨g3, 0, none⟩))), (9, .int .i64 a.Do), (37, .bool (a.Do == 4))] (by kernel_rfl) ?_
            rcases condT hp288 with ⟨hb302, hp288⟩ | ⟨hb302, hp288⟩
            · rw [hb302]
              refine seg 4 [.le 0, .bl 0, .co [1, 1, 1]] [(2, .pointer (some (⟨g2, 0, none⟩))), (3, .pointer (some (⟨g3, 0, none⟩)))] (by kernel_rfl) ?_
              have H := H.nilR rU8 5
              have H := H.nilR rU8 5
              refine leJ ([], 0, [], 0, 0, 0, 0, ([] : List UInt8), false, none, 0, none, 0, m) ⟨(Option.some.inj hp288).symm, (St.takeN 4 ((((H.pull 1 rfl).pull 1 rfl).pull 2 rfl).pull 3 rfl)), (Sub.refl _), (Nat.le_of_ble_eq_true rfl)⟩ (by kernel_rfl)
            · rw [hb302]
              refine seg 5 [.co [1, 1, 0, 1, 0, 1, 1, 1, 1, 1, 1, 1], .le 0, .bl 0, .co [1, 1, 1]] [(1, .pointer (some (⟨g1, 0, none⟩))), (2, .pointer (some (⟨g2, 0, none⟩))), (3, .pointer (some (⟨g3, 0, none⟩))), (9, .int .i64 a.Do), (37, .bool (a.Do == 6))] (by kernel_rfl) ?_
              rcases condT hp288 with ⟨hb303, hp288⟩ | ⟨hb303, hp288⟩
              · rw [hb303]
                refine seg 2 [.le 0, .bl 0, .co [1, 1, 1]] [(2, .pointer (some (⟨g2, 0, none⟩))), (3, .pointer (some (⟨g3, 0, none⟩)))] (by kernel_rfl) ?_
                have H := H.nilR rU8 5
                have H := H.nilR rU8 5
                refine leJ ([], 0, [], 0, 0, 0, 0, ([] : List UInt8), false, none, 0, none, 0, m) ⟨(Option.some.inj hp288).symm, (St.takeN 4 ((((H.pull 1 rfl).pull 1 rfl).pull 2 rfl).pull 3 rfl)), (Sub.refl _), (Nat.le_of_ble_eq_true rfl)⟩ (by kernel_rfl)
              · rw [hb303]
                refine seg 6 [.co [1, 1, 0, 1, 0, 1, 1, 1, 1, 1, 1, 1, 1, 1], .le 0, .bl 0, .co [1, 1, 1]] [(1, .pointer (some (⟨g1, 0, none⟩))), (2, .pointer (some (⟨g2, 0, none⟩))), (3, .pointer (some (⟨g3, 0, none⟩))), (41, .bool (a.Do == 7))] (by kernel_rfl) ?_
                rcases condT hp288 with ⟨hb304, hp288⟩ | ⟨hb304, hp288⟩
                · rw [hb304]
                  refine seg 4 [.op [1, 1, 0, 1, 0, 1, 1, 1, 1, 1, 1, 1, 1, 1, 0, 0] 1, .co [1, 1, 0, 1, 0, 1, 1, 1, 1, 1, 1, 1, 1, 1, 0, 1], .le 0, .bl 0, .co [1, 1, 1]] [(1, .pointer (some (⟨g1, 0, none⟩))), (2, .pointer (some (⟨g2, 0, none⟩))), (3, .pointer (some (⟨g3, 0, none⟩))), (43, .pointer (some (⟨g1, 6, none⟩)))] (by kernel_rfl) ?_
                  refine st (ldAggR (some 44) 27 (⟨g1, 6, none⟩) [.int .i64 a.Call.Do, .int .i64 a.Call.Ino, .int .i64 a.Call.A, .int .i64 a.Call.B, .string ⟨a.Call.Name.toArray⟩, .bool a.Call.On] (by kernel_rfl) (by kernel_rfl) (H.cellsB 2 rfl (by rfl)) ?_)
                  refine st (newS (some 4) (fun g => .pointer (some ⟨g, 0, none⟩)) [.int .i64 0, .int .i64 0, .int .i64 0, .int .i64 0, .string ⟨([] : List UInt8).toArray⟩, .bool false] 27 H (by kernel_rfl) ?_)
                  intro g305 w305 H
                  refine st (stAggS none 27 0 g305 0 [.int .i64 a.Call.Do, .int .i64 a.Call.Ino, .int .i64 a.Call.A, .int .i64 a.Call.B, .string ⟨a.Call.Name.toArray⟩, .bool a.Call.On] [.int .i64 0, .int .i64 0, .int .i64 0, .int .i64 0, .string ⟨([] : List UInt8).toArray⟩, .bool false] [.int .i64 a.Call.Do, .int .i64 a.Call.Ino, .int .i64 a.Call.A, .int .i64 a.Call.B, .string ⟨a.Call.Name.toArray⟩, .bool a.Call.On] 27 H rfl (by kernel_rfl) (by kernel_rfl) (by rfl) (of_decide_eq_true rfl) rfl ?_)
                  intro w306 H
                  refine seg 5 [.op [1, 1, 0, 1, 0, 1, 1, 1, 1, 1, 1, 1, 1, 1, 0, 1, 0, 0] 1, .co [1, 1, 0, 1, 0, 1, 1, 1, 1, 1, 1, 1, 1, 1, 0, 1, 0, 1], .co [1, 1, 0, 1, 0, 1, 1, 1, 1, 1, 1, 1, 1, 1, 0, 1, 1], .le 0, .bl 0, .co [1, 1, 1]] [(1, .pointer (some (⟨g1, 0, none⟩))), (2, .pointer (some (⟨g2, 0, none⟩))), (3, .pointer (some (⟨g3, 0, none⟩))), (4, .pointer (some (⟨g305, 0, none⟩))), (45, .pointer (some (⟨g305, 0, none⟩)))] (by kernel_rfl) ?_
                  replace H : St w noF m m [blkI g305 [.int .i64 a.Call.Do, .int .i64 a.Call.Ino, .int .i64 a.Call.A, .int .i64 a.Call.B, .string ⟨a.Call.Name.toArray⟩, .bool a.Call.On] 27, blkI g3 [.int .i64 a.Do, .int .i64 0, .int .u64 0, .slice none 0 0, .int .i64 0, .slice none 0 0, .int .i64 0, .int .i64 0, .int .i64 0, .int .i64 0, .string ⟨([] : List UInt8).toArray⟩, .bool false] 29, blkI g2 [.int .i64 0, .int .i64 0, .int .u64 0, .slice none 0 0, .int .i64 0, .slice none 0 0, .int .i64 0, .int .i64 0, .int .i64 0, .int .i64 0, .string ⟨([] : List UInt8).toArray⟩, .bool false] 29, blkI g1 [.int .i64 a.Do, .int .i64 a.Len, .int .u64 (a.Sum.toNat : Int), .slice A0_3 a.Bytes.length c0_3, .int .i64 a.Crash.After, .slice A0_5 a.Crash.Torn.length c0_5, .int .i64 a.Call.Do, .int .i64 a.Call.Ino, .int .i64 a.Call.A, .int .i64 a.Call.B, .string ⟨a.Call.Name.toArray⟩, .bool a.Call.On] 29] w306 := H
                  refine st (ldR (some 46) 3 (⟨g305, 0, none⟩) (.int .i64 a.Call.Do) (by kernel_rfl) (by kernel_rfl) (H.cellB 0 rfl rfl) ?_)
                  refine seg 2 [.op [1, 1, 0, 1, 0, 1, 1, 1, 1, 1, 1, 1, 1, 1, 0, 1, 0, 0] 4, .co [1, 1, 0, 1, 0, 1, 1, 1, 1, 1, 1, 1, 1, 1, 0, 1, 0, 1], .co [1, 1, 0, 1, 0, 1, 1, 1, 1, 1, 1, 1, 1, 1, 0, 1, 1], .le 0, .bl 0, .co [1, 1, 1]] [(1, .pointer (some (⟨g1, 0, none⟩))), (2, .pointer (some (⟨g2, 0, none⟩))), (3, .pointer (some (⟨g3, 0, none⟩))), (4, .pointer (some (⟨g305, 0, none⟩))), (48, .bool (decide (a.Call.Do < 1)))] (by kernel_rfl) ?_
                  rcases condT hp288 with ⟨hb307, hp288⟩ | ⟨hb307, hp288⟩
                  · rw [hb307]
                    have p307 := of_decide_eq_true hb307
                    refine seg 8 [.op [1, 1, 0, 1, 0, 1, 1, 1, 1, 1, 1, 1, 1, 1, 0, 1, 0, 1, 0, 0] 0, .co [1, 1, 0, 1, 0, 1, 1, 1, 1, 1, 1, 1, 1, 1, 0, 1, 0, 1, 0, 1], .co [1, 1, 0, 1, 0, 1, 1, 1, 1, 1, 1, 1, 1, 1, 0, 1, 1], .le 0, .bl 0, .co [1, 1, 1]] [(1, .pointer (some (⟨g1, 0, none⟩))), (2, .pointer (some (⟨g2, 0, none⟩)))] (by kernel_rfl) ?_
                    refine st (ldAggR (some 53) 29 (⟨g1, 0, none⟩) [.int .i64 a.Do, .int .i64 a.Len, .int .u64 (a.Sum.toNat : Int), .slice A0_3 a.Bytes.length c0_3, .int .i64 a.Crash.After, .slice A0_5 a.Crash.Torn.length c0_5, .int .i64 a.Call.Do, .int .i64 a.Call.Ino, .int .i64 a.Call.A, .int .i64 a.Call.B, .string ⟨a.Call.Name.toArray⟩, .bool a.Call.On] (by kernel_rfl) (by kernel_rfl) (H.cellsB 3 rfl (by rfl)) ?_)
                    obtain ⟨whole, h_whole, hp288⟩ := bindE hp288
                    refine st (callR (some 54) 18 #[.agg #[.int .i64 a.Do, .int .i64 a.Len, .int .u64 (a.Sum.toNat : Int), .slice A0_3 a.Bytes.length c0_3, .int .i64 a.Crash.After, .slice A0_5 a.Crash.Torn.length c0_5, .int .i64 a.Call.Do, .int .i64 a.Call.Ino, .int .i64 a.Call.A, .int .i64 a.Call.B, .string ⟨a.Call.Name.toArray⟩, .bool a.Call.On]] Tryd.call18 (script_whole_c H.has a A0_3 c0_3 s0_3 A0_5 c0_5 s0_5 l0_10 h_whole) (by kernel_rfl) ?_)
                    rintro _ w308 ⟨A308_0_3, c308_0_3, A308_0_5, c308_0_5, mk308, rfl, hS308, hs308_0, hs308_1, hl308_0⟩
                    have hsub308 := hS308.sub
                    replace H := H.call0 hS308
                    refine st (stAggS none 29 2 g2 0 [.int .i64 whole.Do, .int .i64 whole.Len, .int .u64 (whole.Sum.toNat : Int), .slice A308_0_3 whole.Bytes.length c308_0_3, .int .i64 whole.Crash.After, .slice A308_0_5 whole.Crash.Torn.length c308_0_5, .int .i64 whole.Call.Do, .int .i64 whole.Call.Ino, .int .i64 whole.Call.A, .int .i64 whole.Call.B, .string ⟨whole.Call.Name.toArray⟩, .bool whole.Call.On] [.int .i64 0, .int .i64 0, .int .u64 0, .slice none 0 0, .int .i64 0, .slice none 0 0, .int .i64 0, .int .i64 0, .int .i64 0, .int .i64 0, .string ⟨([] : List UInt8).toArray⟩, .bool false] [.int .i64 whole.Do, .int .i64 whole.Len, .int .u64 (whole.Sum.toNat : Int), .slice A308_0_3 whole.Bytes.length c308_0_3, .int .i64 whole.Crash.After, .slice A308_0_5 whole.Crash.Torn.length c308_0_5, .int .i64 whole.Call.Do, .int .i64 whole.Call.Ino, .int .i64 whole.Call.A, .int .i64 whole.Call.B, .string ⟨whole.Call.Name.toArray⟩, .bool whole.Call.On] 29 H rfl (by kernel_rfl) (by kernel_rfl) (by rfl) (of_decide_eq_true rfl) rfl ?_)
                    intro w309 H
                    refine seg 1 [.co [1, 1, 0, 1, 0, 1, 1, 1, 1, 1, 1, 1, 1, 1, 0, 1, 0, 1, 0, 1], .co [1, 1, 0, 1, 0, 1, 1, 1, 1, 1, 1, 1, 1, 1, 0, 1, 1], .le 0, .bl 0, .co [1, 1, 1]] [(2, .pointer (some (⟨g2, 0, none⟩)))] (by kernel_rfl) ?_
                    refine retC [.agg #[.int .i64 whole.Do, .int .i64 whole.Len, .int .u64 (whole.Sum.toNat : Int), .slice A308_0_3 whole.Bytes.length c308_0_3, .int .i64 whole.Crash.After, .slice A308_0_5 whole.Crash.Torn.length c308_0_5, .int .i64 whole.Call.Do, .int .i64 whole.Call.Ino, .int .i64 whole.Call.A, .int .i64 whole.Call.B, .string ⟨whole.Call.Name.toArray⟩, .bool whole.Call.On]] (by kernel_rfl) ⟨⟨_, rfl, ldv_agg 29 (⟨g2, 0, none⟩) [.int .i64 whole.Do, .int .i64 whole.Len, .int .u64 (whole.Sum.toNat : Int), .slice A308_0_3 whole.Bytes.length c308_0_3, .int .i64 whole.Crash.After, .slice A308_0_5 whole.Crash.Torn.length c308_0_5, .int .i64 whole.Call.Do, .int .i64 whole.Call.Ino, .int .i64 whole.Call.A, .int .i64 whole.Call.B, .string ⟨whole.Call.Name.toArray⟩, .bool whole.Call.On] (by kernel_rfl) (H.cellsB 2 rfl (by rfl))⟩, trivial⟩ ?_
                    have hret := (hfr288 _ (Option.some.inj hp288).symm)
                    subst hret
                    exact ⟨_, rfl, A308_0_3, c308_0_3, A308_0_5, c308_0_5, mk308, rfl, (St.takeN 0 H), hs308_0, hs308_1, hl308_0⟩
                  · rw [hb307]
                    have p307 := of_decide_eq_false hb307
                    refine seg 1 [.op [1, 1, 0, 1, 0, 1, 1, 1, 1, 1, 1, 1, 1, 1, 0, 1, 0, 0] 5, .co [1, 1, 0, 1, 0, 1, 1, 1, 1, 1, 1, 1, 1, 1, 0, 1, 0, 1], .co [1, 1, 0, 1, 0, 1, 1, 1, 1, 1, 1, 1, 1, 1, 0, 1, 1], .le 0, .bl 0, .co [1, 1, 1]] [(1, .pointer (some (⟨g1, 0, none⟩))), (2, .pointer (some (⟨g2, 0, none⟩))), (3, .pointer (some (⟨g3, 0, none⟩))), (4, .pointer (some (⟨g305, 0, none⟩))), (48, .bool false), (49, .pointer (some (⟨g305, 0, none⟩)))] (by kernel_rfl) ?_
                    refine st (ldR (some 50) 3 (⟨g305, 0, none⟩) (.int .i64 a.Call.Do) (by kernel_rfl) (by kernel_rfl) (H.cellB 0 rfl rfl) ?_)
                    refine seg 3 [.co [1, 1, 0, 1, 0, 1, 1, 1, 1, 1, 1, 1, 1, 1, 0, 1, 0, 1], .co [1, 1, 0, 1, 0, 1, 1, 1, 1, 1, 1, 1, 1, 1, 0, 1, 1], .le 0, .bl 0, .co [1, 1, 1]] [(1, .pointer (some (⟨g1, 0, none⟩))), (2, .pointer (some (⟨g2, 0, none⟩))), (3, .pointer (some (⟨g3, 0, none⟩))), (4, .pointer (some (⟨g305, 0, none⟩))), (52, .bool (decide (a.Call.Do > 8)))] (by kernel_rfl) ?_
                    rcases condT hp288 with ⟨hb310, hp288⟩ | ⟨hb310, hp288⟩
                    · rw [hb310]
                      have p310 := of_decide_eq_true hb310
                      refine seg 3 [.op [1, 1, 0, 1, 0, 1, 1, 1, 1, 1, 1, 1, 1, 1, 0, 1, 0, 1, 0, 0] 0, .co [1, 1, 0, 1, 0, 1, 1, 1, 1, 1, 1, 1, 1, 1, 0, 1, 0, 1, 0, 1], .co [1, 1, 0, 1, 0, 1, 1, 1, 1, 1, 1, 1, 1, 1, 0, 1, 1], .le 0, .bl 0, .co [1, 1, 1]] [(1, .pointer (some (⟨g1, 0, none⟩))), (2, .pointer (some (⟨g2, 0, none⟩)))] (by kernel_rfl) ?_
                      refine st (ldAggR (some 53) 29 (⟨g1, 0, none⟩) [.int .i64 a.Do, .int .i64 a.Len, .int .u64 (a.Sum.toNat : Int), .slice A0_3 a.Bytes.length c0_3, .int .i64 a.Crash.After, .slice A0_5 a.Crash.Torn.length c0_5, .int .i64 a.Call.Do, .int .i64 a.Call.Ino, .int .i64 a.Call.A, .int .i64 a.Call.B, .string ⟨a.Call.Name.toArray⟩, .bool a.Call.On] (by kernel_rfl) (by kernel_rfl) (H.cellsB 3 rfl (by rfl)) ?_)
                      obtain ⟨whole1, h_whole1, hp288⟩ := bindE hp288
                      refine st (callR (some 54) 18 #[.agg #[.int .i64 a.Do, .int .i64 a.Len, .int .u64 (a.Sum.toNat : Int), .slice A0_3 a.Bytes.length c0_3, .int .i64 a.Crash.After, .slice A0_5 a.Crash.Torn.length c0_5, .int .i64 a.Call.Do, .int .i64 a.Call.Ino, .int .i64 a.Call.A, .int .i64 a.Call.B, .string ⟨a.Call.Name.toArray⟩, .bool a.Call.On]] Tryd.call18 (script_whole_c H.has a A0_3 c0_3 s0_3 A0_5 c0_5 s0_5 l0_10 h_whole1) (by kernel_rfl) ?_)
                      rintro _ w311 ⟨A311_0_3, c311_0_3, A311_0_5, c311_0_5, mk311, rfl, hS311, hs311_0, hs311_1, hl311_0⟩
                      have hsub311 := hS311.sub
                      replace H := H.call0 hS311
                      refine st (stAggS none 29 2 g2 0 [.int .i64 whole1.Do, .int .i64 whole1.Len, .int .u64 (whole1.Sum.toNat : Int), .slice A311_0_3 whole1.Bytes.length c311_0_3, .int .i64 whole1.Crash.After, .slice A311_0_5 whole1.Crash.Torn.length c311_0_5, .int .i64 whole1.Call.Do, .int .i64 whole1.Call.Ino, .int .i64 whole1.Call.A, .int .i64 whole1.Call.B, .string ⟨whole1.Call.Name.toArray⟩, .bool whole1.Call.On] [.int .i64 0, .int .i64 0, .int .u64 0, .slice none 0 0, .int .i64 0, .slice none 0 0, .int .i64 0, .int .i64 0, .int .i64 0, .int .i64 0, .string ⟨([] : List UInt8).toArray⟩, .bool false] [.int .i64 whole1.Do, .int .i64 whole1.Len, .int .u64 (whole1.Sum.toNat : Int), .slice A311_0_3 whole1.Bytes.length c311_0_3, .int .i64 whole1.Crash.After, .slice A311_0_5 whole1.Crash.Torn.length c311_0_5, .int .i64 whole1.Call.Do, .int .i64 whole1.Call.Ino, .int .i64 whole1.Call.A, .int .i64 whole1.Call.B, .string ⟨whole1.Call.Name.toArray⟩, .bool whole1.Call.On] 29 H rfl (by kernel_rfl) (by kernel_rfl) (by rfl) (of_decide_eq_true rfl) rfl ?_)
                      intro w312 H
                      refine seg 1 [.co [1, 1, 0, 1, 0, 1, 1, 1, 1, 1, 1, 1, 1, 1, 0, 1, 0, 1, 0, 1], .co [1, 1, 0, 1, 0, 1, 1, 1, 1, 1, 1, 1, 1, 1, 0, 1, 1], .le 0, .bl 0, .co [1, 1, 1]] [(2, .pointer (some (⟨g2, 0, none⟩)))] (by kernel_rfl) ?_
                      refine retC [.agg #[.int .i64 whole1.Do, .int .i64 whole1.Len, .int .u64 (whole1.Sum.toNat : Int), .slice A311_0_3 whole1.Bytes.length c311_0_3, .int .i64 whole1.Crash.After, .slice A311_0_5 whole1.Crash.Torn.length c311_0_5, .int .i64 whole1.Call.Do, .int .i64 whole1.Call.Ino, .int .i64 whole1.Call.A, .int .i64 whole1.Call.B, .string ⟨whole1.Call.Name.toArray⟩, .bool whole1.Call.On]] (by kernel_rfl) ⟨⟨_, rfl, ldv_agg 29 (⟨g2, 0, none⟩) [.int .i64 whole1.Do, .int .i64 whole1.Len, .int .u64 (whole1.Sum.toNat : Int), .slice A311_0_3 whole1.Bytes.length c311_0_3, .int .i64 whole1.Crash.After, .slice A311_0_5 whole1.Crash.Torn.length c311_0_5, .int .i64 whole1.Call.Do, .int .i64 whole1.Call.Ino, .int .i64 whole1.Call.A, .int .i64 whole1.Call.B, .string ⟨whole1.Call.Name.toArray⟩, .bool whole1.Call.On] (by kernel_rfl) (H.cellsB 2 rfl (by rfl))⟩, trivial⟩ ?_
                      have hret := (hfr288 _ (Option.some.inj hp288).symm)
                      subst hret
                      exact ⟨_, rfl, A311_0_3, c311_0_3, A311_0_5, c311_0_5, mk311, rfl, (St.takeN 0 H), hs311_0, hs311_1, hl311_0⟩
                    · rw [hb310]
                      have p310 := of_decide_eq_false hb310
                      refine seg 5 [.op [1, 1, 0, 1, 0, 1, 1, 1, 1, 1, 1, 1, 1, 1, 0, 1, 1, 0] 1, .co [1, 1, 0, 1, 0, 1, 1, 1, 1, 1, 1, 1, 1, 1, 0, 1, 1, 1], .le 0, .bl 0, .co [1, 1, 1]] [(2, .pointer (some (⟨g2, 0, none⟩))), (3, .pointer (some (⟨g3, 0, none⟩))), (4, .pointer (some (⟨g305, 0, none⟩))), (55, .pointer (some (⟨g305, 0, none⟩)))] (by kernel_rfl) ?_
                      replace H : St w noF m m [blkI g305 [.int .i64 a.Call.Do, .int .i64 a.Call.Ino, .int .i64 a.Call.A, .int .i64 a.Call.B, .string ⟨a.Call.Name.toArray⟩, .bool a.Call.On] 27, blkI g3 [.int .i64 a.Do, .int .i64 0, .int .u64 0, .slice none 0 0, .int .i64 0, .slice none 0 0, .int .i64 0, .int .i64 0, .int .i64 0, .int .i64 0, .string ⟨([] : List UInt8).toArray⟩, .bool false] 29, blkI g2 [.int .i64 0, .int .i64 0, .int .u64 0, .slice none 0 0, .int .i64 0, .slice none 0 0, .int .i64 0, .int .i64 0, .int .i64 0, .int .i64 0, .string ⟨([] : List UInt8).toArray⟩, .bool false] 29] w306 := (H.drop 3 rfl)
                      refine st (ldR (some 56) 3 (⟨g305, 0, none⟩) (.int .i64 a.Call.Do) (by kernel_rfl) (by kernel_rfl) (H.cellB 0 rfl rfl) ?_)
                      refine seg 1 [.op [1, 1, 0, 1, 0, 1, 1, 1, 1, 1, 1, 1, 1, 1, 0, 1, 1, 0] 3, .co [1, 1, 0, 1, 0, 1, 1, 1, 1, 1, 1, 1, 1, 1, 0, 1, 1, 1], .le 0, .bl 0, .co [1, 1, 1]] [(2, .pointer (some (⟨g2, 0, none⟩))), (3, .pointer (some (⟨g3, 0, none⟩))), (4, .pointer (some (⟨g305, 0, none⟩))), (56, .int .i64 a.Call.Do), (57, .pointer (some (⟨g305, 1, none⟩)))] (by kernel_rfl) ?_
                      refine st (ldR (some 58) 3 (⟨g305, 1, none⟩) (.int .i64 a.Call.Ino) (by kernel_rfl) (by kernel_rfl) (H.cellB 0 rfl rfl) ?_)
                      refine seg 2 [.op [1, 1, 0, 1, 0, 1, 1, 1, 1, 1, 1, 1, 1, 1, 0, 1, 1, 0] 6, .co [1, 1, 0, 1, 0, 1, 1, 1, 1, 1, 1, 1, 1, 1, 0, 1, 1, 1], .le 0, .bl 0, .co [1, 1, 1]] [(2, .pointer (some (⟨g2, 0, none⟩))), (3, .pointer (some (⟨g3, 0, none⟩))), (4, .pointer (some (⟨g305, 0, none⟩))), (59, .agg #[.int .i64 a.Call.Do, .int .i64 a.Call.Ino, .int .i64 0, .int .i64 0, .string ⟨([] : List UInt8).toArray⟩, .bool false]), (60, .pointer (some (⟨g3, 6, none⟩)))] (by kernel_rfl) ?_
                      refine st (stAggS none 27 1 g3 6 [.int .i64 a.Call.Do, .int .i64 a.Call.Ino, .int .i64 0, .int .i64 0, .string ⟨([] : List UInt8).toArray⟩, .bool false] [.int .i64 a.Do, .int .i64 0, .int .u64 0, .slice none 0 0, .int .i64 0, .slice none 0 0, .int .i64 0, .int .i64 0, .int .i64 0, .int .i64 0, .string ⟨([] : List UInt8).toArray⟩, .bool false] [.int .i64 a.Do, .int .i64 0, .int .u64 0, .slice none 0 0, .int .i64 0, .slice none 0 0, .int .i64 a.Call.Do, .int .i64 a.Call.Ino, .int .i64 0, .int .i64 0, .string ⟨([] : List UInt8).toArray⟩, .bool false] 29 H rfl (by kernel_rfl) (by kernel_rfl) (by rfl) (of_decide_eq_true rfl) rfl ?_)
                      intro w313 H
                      refine seg 4 [.op [1, 1, 0, 1, 0, 1, 1, 1, 1, 1, 1, 1, 1, 1, 0, 1, 1, 1, 0, 0] 0, .co [1, 1, 0, 1, 0, 1, 1, 1, 1, 1, 1, 1, 1, 1, 0, 1, 1, 1, 0, 1], .co [1, 1, 0, 1, 0, 1, 1, 1, 1, 1, 1, 1, 1, 1, 0, 1, 1, 1, 1], .le 0, .bl 0, .co [1, 1, 1]] [(2, .pointer (some (⟨g2, 0, none⟩))), (3, .pointer (some (⟨g3, 0, none⟩))), (4, .pointer (some (⟨g305, 0, none⟩)))] (by kernel_rfl) ?_
                      refine st (ldAggR (some 61) 27 (⟨g305, 0, none⟩) [.int .i64 a.Call.Do, .int .i64 a.Call.Ino, .int .i64 a.Call.A, .int .i64 a.Call.B, .string ⟨a.Call.Name.toArray⟩, .bool a.Call.On] (by kernel_rfl) (by kernel_rfl) (H.cellsB 0 rfl (by rfl)) ?_)
                      refine st (callR (some 62) 19 #[.agg #[.int .i64 a.Call.Do, .int .i64 a.Call.Ino, .int .i64 a.Call.A, .int .i64 a.Call.B, .string ⟨a.Call.Name.toArray⟩, .bool a.Call.On]] Tryd.call19 (script_numbers_c H.has a.Call l0_10) (by kernel_rfl) ?_)
                      rintro _ w314 ⟨A314_0, c314_0, mk314, rfl, hS314⟩
                      have hsub314 := hS314.sub
                      replace H := H.call0 hS314
                      refine seg 3 [.co [1, 1, 0, 1, 0, 1, 1, 1, 1, 1, 1, 1, 1, 1, 0, 1, 1, 1, 0, 1], .co [1, 1, 0, 1, 0, 1, 1, 1, 1, 1, 1, 1, 1, 1, 0, 1, 1, 1, 1], .le 0, .bl 0, .co [1, 1, 1]] [(2, .pointer (some (⟨g2, 0, none⟩))), (3, .pointer (some (⟨g3, 0, none⟩))), (4, .pointer (some (⟨g305, 0, none⟩))), (64, .bool (((script_numbers a.Call).length : Int) == 3))] (by kernel_rfl) ?_
                      obtain ⟨y318, hp318, hp288⟩ := ltE hp288
                      refine joinR 1 (fun (x : Int × Int) => [(2, .pointer (some (⟨g2, 0, none⟩))), (3, .pointer (some (⟨g3, 0, none⟩))), (4, .pointer (some (⟨g305, 0, none⟩)))]) (fun (x : Int × Int) (wj318 : World) => y318 = (x.1, x.2) ∧ St w noF m mk314 [blkI g2 [.int .i64 0, .int .i64 0, .int .u64 0, .slice none 0 0, .int .i64 0, .slice none 0 0, .int .i64 0, .int .i64 0, .int .i64 0, .int .i64 0, .string ⟨([] : List UInt8).toArray⟩, .bool false] 29, blkI g3 [.int .i64 a.Do, .int .i64 0, .int .u64 0, .slice none 0 0, .int .i64 0, .slice none 0 0, .int .i64 a.Call.Do, .int .i64 a.Call.Ino, .int .i64 x.1, .int .i64 x.2, .string ⟨([] : List UInt8).toArray⟩, .bool false] 29, blkI g305 [.int .i64 a.Call.Do, .int .i64 a.Call.Ino, .int .i64 a.Call.A, .int .i64 a.Call.B, .string ⟨a.Call.Name.toArray⟩, .bool a.Call.On] 27] wj318) (by kernel_rfl) ?_ ?_
                      · rcases condT hp318 with ⟨hb320, hp318⟩ | ⟨hb320, hp318⟩
                        · rw [hb320]
                          refine seg 1 [.co [1, 1, 0, 1, 0, 1, 1, 1, 1, 1, 1, 1, 1, 1, 0, 1, 1, 1, 0, 1, 0], .le 1, .co [1, 1, 0, 1, 0, 1, 1, 1, 1, 1, 1, 1, 1, 1, 0, 1, 1, 1, 1], .le 0, .bl 0, .co [1, 1, 1]] [(2, .pointer (some (⟨g2, 0, none⟩))), (3, .pointer (some (⟨g3, 0, none⟩))), (4, .pointer (some (⟨g305, 0, none⟩)))] (by kernel_rfl) ?_
                          have hst : statB (bodyOf Tryd.f8) [1, 1, 0, 1, 0, 1, 1, 1, 1, 1, 1, 1, 1, 1, 0, 1, 1, 1, 0, 1, 0] = true := by kernel_rfl
                          refine drawS (fun w' => Has mk314 w' ∧ w'.heap[g305]? = some (.cells [.int .i64 a.Call.Do, .int .i64 a.Call.Ino, .int .i64 a.Call.A, .int .i64 a.Call.B, .string ⟨a.Call.Name.toArray⟩, .bool a.Call.On].toArray 27 (0, 0)) ∧ w'.heap[g2]? = some (.cells [.int .i64 0, .int .i64 0, .int .u64 0, .slice none 0 0, .int .i64 0, .slice none 0 0, .int .i64 0, .int .i64 0, .int .i64 0, .int .i64 0, .string ⟨([] : List UInt8).toArray⟩, .bool false].toArray 29 (0, 0))) H (by kernel_rfl) (by kernel_rfl) ?_
                          intro w323 H
                          refine segD2 hst [0, 2] [0, 2] [(2, .pointer (some (⟨g2, 0, none⟩))), (3, .pointer (some (⟨g3, 0, none⟩))), (4, .pointer (some (⟨g305, 0, none⟩))), (65, .pointer (some (⟨g305, 2, none⟩))), (67, .pointer (some (⟨g305, 3, none⟩)))] (by kernel_rfl) ?_
                          refine takeD2 (i := 1) (d := (some 66)) (s := vS (Instr.loadAt 3 (.pointer (some (⟨g305, 2, none⟩))))) (v := (.int .i64 a.Call.A)) hst (by kernel_rfl) (by kernel_rfl) (fun w' hw' => ld_run _ _ _ (by kernel_rfl) (blk_cell hw'.2.1 rfl)) ?_
                          refine segD2 hst [4, 5] [0, 2, 1, 4, 5] [(2, .pointer (some (⟨g2, 0, none⟩))), (3, .pointer (some (⟨g3, 0, none⟩))), (4, .pointer (some (⟨g305, 0, none⟩))), (66, .int .i64 a.Call.A), (67, .pointer (some (⟨g305, 3, none⟩))), (70, .pointer (some (⟨g3, 8, none⟩)))] (by kernel_rfl) ?_
                          refine takeD2 (i := 3) (d := (some 68)) (s := vS (Instr.loadAt 3 (.pointer (some (⟨g305, 3, none⟩))))) (v := (.int .i64 a.Call.B)) hst (by kernel_rfl) (by kernel_rfl) (fun w' hw' => ld_run _ _ _ (by kernel_rfl) (blk_cell hw'.2.1 rfl)) ?_
                          replace H : St w noF m mk314 [blkI g305 [.int .i64 a.Call.Do, .int .i64 a.Call.Ino, .int .i64 a.Call.A, .int .i64 a.Call.B, .string ⟨a.Call.Name.toArray⟩, .bool a.Call.On] 27, blkI g3 [.int .i64 a.Do, .int .i64 0, .int .u64 0, .slice none 0 0, .int .i64 0, .slice none 0 0, .int .i64 a.Call.Do, .int .i64 a.Call.Ino, .int .i64 0, .int .i64 0, .string ⟨([] : List UInt8).toArray⟩, .bool false] 29, blkI g2 [.int .i64 0, .int .i64 0, .int .u64 0, .slice none 0 0, .int .i64 0, .slice none 0 0, .int .i64 0, .int .i64 0, .int .i64 0, .int .i64 0, .string ⟨([] : List UInt8).toArray⟩, .bool false] 29] w323 := (H.drop 0 rfl)
                          refine stD2 (i := 6) (by kernel_rfl) ⟨H.has, H.blk 0 rfl, H.blk 2 rfl⟩ (stS none 3 1 g3 8 (.int .i64 a.Call.A) [.int .i64 a.Do, .int .i64 0, .int .u64 0, .slice none 0 0, .int .i64 0, .slice none 0 0, .int .i64 a.Call.Do, .int .i64 a.Call.Ino, .int .i64 0, .int .i64 0, .string ⟨([] : List UInt8).toArray⟩, .bool false] 29 H rfl (by kernel_rfl) (by kernel_rfl) rfl (of_decide_eq_true rfl) ?_)
                          intro w324 H
                          refine segD2 hst [7, 8] [0, 2, 1, 4, 5, 3, 6, 7, 8] [(2, .pointer (some (⟨g2, 0, none⟩))), (3, .pointer (some (⟨g3, 0, none⟩))), (4, .pointer (some (⟨g305, 0, none⟩))), (68, .int .i64 a.Call.B), (72, .pointer (some (⟨g3, 9, none⟩)))] (by kernel_rfl) ?_
                          refine stD2 (i := 9) (by kernel_rfl) ⟨H.has, H.blk 0 rfl, H.blk 2 rfl⟩ (stS none 3 1 g3 9 (.int .i64 a.Call.B) [.int .i64 a.Do, .int .i64 0, .int .u64 0, .slice none 0 0, .int .i64 0, .slice none 0 0, .int .i64 a.Call.Do, .int .i64 a.Call.Ino, .int .i64 a.Call.A, .int .i64 0, .string ⟨([] : List UInt8).toArray⟩, .bool false] 29 H rfl (by kernel_rfl) (by kernel_rfl) rfl (of_decide_eq_true rfl) ?_)
                          intro w325 H
                          refine endD2 (by kernel_rfl) ⟨H.has, H.blk 0 rfl, H.blk 2 rfl⟩ ?_
                          refine leJ (a.Call.A, a.Call.B) ⟨hp318.symm, ((H.pull 1 rfl).pull 2 rfl)⟩ (by kernel_rfl)
                        · rw [hb320]
                          refine seg 2 [.le 1, .co [1, 1, 0, 1, 0, 1, 1, 1, 1, 1, 1, 1, 1, 1, 0, 1, 1, 1, 1], .le 0, .bl 0, .co [1, 1, 1]] [(2, .pointer (some (⟨g2, 0, none⟩))), (3, .pointer (some (⟨g3, 0, none⟩))), (4, .pointer (some (⟨g305, 0, none⟩)))] (by kernel_rfl) ?_
                          refine leJ (0, 0) ⟨hp318.symm, (St.takeN 3 (((H.pull 1 rfl).pull 2 rfl).pull 3 rfl))⟩ (by kernel_rfl)
                      rintro ⟨A, B_⟩ wj318 ⟨hy318, H⟩
                      try dsimp only at hy318
                      try dsimp only at H
                      rw [hy318] at hp288
                      try dsimp only at hp288
                      refine seg 4 [.op [1, 1, 0, 1, 0, 1, 1, 1, 1, 1, 1, 1, 1, 1, 0, 1, 1, 1, 1, 0, 0] 1, .co [1, 1, 0, 1, 0, 1, 1, 1, 1, 1, 1, 1, 1, 1, 0, 1, 1, 1, 1, 0, 1], .co [1, 1, 0, 1, 0, 1, 1, 1, 1, 1, 1, 1, 1, 1, 0, 1, 1, 1, 1, 1], .le 0, .bl 0, .co [1, 1, 1]] [(2, .pointer (some (⟨g2, 0, none⟩))), (3, .pointer (some (⟨g3, 0, none⟩))), (4, .pointer (some (⟨g305, 0, none⟩))), (73, .pointer (some (⟨g305, 0, none⟩)))] (by kernel_rfl) ?_
                      refine st (ldR (some 74) 3 (⟨g305, 0, none⟩) (.int .i64 a.Call.Do) (by kernel_rfl) (by kernel_rfl) (H.cellB 2 rfl rfl) ?_)
                      refine st (callR (some 75) 20 #[.int .i64 a.Call.Do] Tryd.call20 (script_named_c H.has a.Call.Do) (by kernel_rfl) ?_)
                      rintro _ w326 ⟨rfl, hx326⟩
                      replace H := H.ex hx326
                      refine seg 1 [.co [1, 1, 0, 1, 0, 1, 1, 1, 1, 1, 1, 1, 1, 1, 0, 1, 1, 1, 1, 0, 1], .co [1, 1, 0, 1, 0, 1, 1, 1, 1, 1, 1, 1, 1, 1, 0, 1, 1, 1, 1, 1], .le 0, .bl 0, .co [1, 1, 1]] [(2, .pointer (some (⟨g2, 0, none⟩))), (3, .pointer (some (⟨g3, 0, none⟩))), (4, .pointer (some (⟨g305, 0, none⟩))), (75, .bool (script_named a.Call.Do))] (by kernel_rfl) ?_
                      rcases condT hp288 with ⟨hb327, hp288⟩ | ⟨hb327, hp288⟩
                      · rw [hb327]
                        refine seg 3 [.op [1, 1, 0, 1, 0, 1, 1, 1, 1, 1, 1, 1, 1, 1, 0, 1, 1, 1, 1, 0, 1, 0] 1, .co [1, 1, 0, 1, 0, 1, 1, 1, 1, 1, 1, 1, 1, 1, 0, 1, 1, 1, 1, 1], .le 0, .bl 0, .co [1, 1, 1]] [(2, .pointer (some (⟨g2, 0, none⟩))), (3, .pointer (some (⟨g3, 0, none⟩))), (4, .pointer (some (⟨g305, 0, none⟩))), (76, .pointer (some (⟨g305, 4, none⟩)))] (by kernel_rfl) ?_
                        refine st (ldR (some 77) 9 (⟨g305, 4, none⟩) (.string ⟨a.Call.Name.toArray⟩) (by kernel_rfl) (by kernel_rfl) (H.cellB 2 rfl rfl) ?_)
                        refine seg 2 [.op [1, 1, 0, 1, 0, 1, 1, 1, 1, 1, 1, 1, 1, 1, 0, 1, 1, 1, 1, 0, 1, 0] 4, .co [1, 1, 0, 1, 0, 1, 1, 1, 1, 1, 1, 1, 1, 1, 0, 1, 1, 1, 1, 1], .le 0, .bl 0, .co [1, 1, 1]] [(2, .pointer (some (⟨g2, 0, none⟩))), (3, .pointer (some (⟨g3, 0, none⟩))), (4, .pointer (some (⟨g305, 0, none⟩))), (77, .string ⟨a.Call.Name.toArray⟩), (79, .pointer (some (⟨g3, 10, none⟩)))] (by kernel_rfl) ?_
                        refine st (stS none 9 1 g3 10 (.string ⟨a.Call.Name.toArray⟩) [.int .i64 a.Do, .int .i64 0, .int .u64 0, .slice none 0 0, .int .i64 0, .slice none 0 0, .int .i64 a.Call.Do, .int .i64 a.Call.Ino, .int .i64 A, .int .i64 B_, .string ⟨([] : List UInt8).toArray⟩, .bool false] 29 H rfl (by kernel_rfl) (by kernel_rfl) rfl (of_decide_eq_true rfl) ?_)
                        intro w328 H
                        refine seg 3 [.op [1, 1, 0, 1, 0, 1, 1, 1, 1, 1, 1, 1, 1, 1, 0, 1, 1, 1, 1, 1] 1, .le 0, .bl 0, .co [1, 1, 1]] [(2, .pointer (some (⟨g2, 0, none⟩))), (3, .pointer (some (⟨g3, 0, none⟩))), (4, .pointer (some (⟨g305, 0, none⟩))), (80, .pointer (some (⟨g305, 0, none⟩)))] (by kernel_rfl) ?_
                        replace H : St w noF m mk314 [blkI g2 [.int .i64 0, .int .i64 0, .int .u64 0, .slice none 0 0, .int .i64 0, .slice none 0 0, .int .i64 0, .int .i64 0, .int .i64 0, .int .i64 0, .string ⟨([] : List UInt8).toArray⟩, .bool false] 29, blkI g3 [.int .i64 a.Do, .int .i64 0, .int .u64 0, .slice none 0 0, .int .i64 0, .slice none 0 0, .int .i64 a.Call.Do, .int .i64 a.Call.Ino, .int .i64 A, .int .i64 B_, .string ⟨a.Call.Name.toArray⟩, .bool false] 29, blkI g305 [.int .i64 a.Call.Do, .int .i64 a.Call.Ino, .int .i64 a.Call.A, .int .i64 a.Call.B, .string ⟨a.Call.Name.toArray⟩, .bool a.Call.On] 27] w328 := H
                        refine st (ldR (some 81) 3 (⟨g305, 0, none⟩) (.int .i64 a.Call.Do) (by kernel_rfl) (by kernel_rfl) (H.cellB 2 rfl rfl) ?_)
                        refine seg 2 [.op [1, 1, 0, 1, 0, 1, 1, 1, 1, 1, 1, 1, 1, 1, 0, 1, 1, 1, 1, 1] 4, .le 0, .bl 0, .co [1, 1, 1]] [(2, .pointer (some (⟨g2, 0, none⟩))), (3, .pointer (some (⟨g3, 0, none⟩))), (4, .pointer (some (⟨g305, 0, none⟩))), (83, .bool (a.Call.Do == 8))] (by kernel_rfl) ?_
                        rcases condT hp288 with ⟨hb329, hp288⟩ | ⟨hb329, hp288⟩
                        · rw [hb329]
                          refine seg 1 [.op [1, 1, 0, 1, 0, 1, 1, 1, 1, 1, 1, 1, 1, 1, 0, 1, 1, 1, 1, 1] 5, .le 0, .bl 0, .co [1, 1, 1]] [(2, .pointer (some (⟨g2, 0, none⟩))), (3, .pointer (some (⟨g3, 0, none⟩))), (83, .bool true), (84, .pointer (some (⟨g305, 5, none⟩)))] (by kernel_rfl) ?_
                          refine st (ldR (some 85) 4 (⟨g305, 5, none⟩) (.bool a.Call.On) (by kernel_rfl) (by kernel_rfl) (H.cellB 2 rfl rfl) ?_)
                          refine seg 3 [.op [1, 1, 0, 1, 0, 1, 1, 1, 1, 1, 1, 1, 1, 1, 0, 1, 1, 1, 1, 1] 9, .le 0, .bl 0, .co [1, 1, 1]] [(2, .pointer (some (⟨g2, 0, none⟩))), (3, .pointer (some (⟨g3, 0, none⟩))), (86, .bool a.Call.On), (88, .pointer (some (⟨g3, 11, none⟩)))] (by kernel_rfl) ?_
                          refine st (stS none 4 1 g3 11 (.bool a.Call.On) [.int .i64 a.Do, .int .i64 0, .int .u64 0, .slice none 0 0, .int .i64 0, .slice none 0 0, .int .i64 a.Call.Do, .int .i64 a.Call.Ino, .int .i64 A, .int .i64 B_, .string ⟨a.Call.Name.toArray⟩, .bool false] 29 H rfl (by kernel_rfl) (by kernel_rfl) rfl (of_decide_eq_true rfl) ?_)
                          intro w330 H
                          refine seg 1 [.le 0, .bl 0, .co [1, 1, 1]] [(2, .pointer (some (⟨g2, 0, none⟩))), (3, .pointer (some (⟨g3, 0, none⟩)))] (by kernel_rfl) ?_
                          have H := H.nilR rU8 5
                          have H := H.nilR rU8 5
                          refine leJ ([], 0, [], a.Call.Do, a.Call.Ino, A, B_, a.Call.Name, a.Call.On, none, 0, none, 0, mk314) ⟨(Option.some.inj hp288).symm, (St.takeN 4 ((((H.pull 1 rfl).pull 1 rfl).pull 3 rfl).pull 3 rfl)), hsub314, l0_10⟩ (by kernel_rfl)
                        · rw [hb329]
                          refine seg 5 [.op [1, 1, 0, 1, 0, 1, 1, 1, 1, 1, 1, 1, 1, 1, 0, 1, 1, 1, 1, 1] 9, .le 0, .bl 0, .co [1, 1, 1]] [(2, .pointer (some (⟨g2, 0, none⟩))), (3, .pointer (some (⟨g3, 0, none⟩))), (86, .bool false), (88, .pointer (some (⟨g3, 11, none⟩)))] (by kernel_rfl) ?_
                          refine st (stS none 4 1 g3 11 (.bool false) [.int .i64 a.Do, .int .i64 0, .int .u64 0, .slice none 0 0, .int .i64 0, .slice none 0 0, .int .i64 a.Call.Do, .int .i64 a.Call.Ino, .int .i64 A, .int .i64 B_, .string ⟨a.Call.Name.toArray⟩, .bool false] 29 H rfl (by kernel_rfl) (by kernel_rfl) rfl (of_decide_eq_true rfl) ?_)
                          intro w331 H
                          refine seg 1 [.le 0, .bl 0, .co [1, 1, 1]] [(2, .pointer (some (⟨g2, 0, none⟩))), (3, .pointer (some (⟨g3, 0, none⟩)))] (by kernel_rfl) ?_
                          have H := H.nilR rU8 5
                          have H := H.nilR rU8 5
                          refine leJ ([], 0, [], a.Call.Do, a.Call.Ino, A, B_, a.Call.Name, false, none, 0, none, 0, mk314) ⟨(Option.some.inj hp288).symm, (St.takeN 4 ((((H.pull 1 rfl).pull 1 rfl).pull 3 rfl).pull 3 rfl)), hsub314, l0_10⟩ (by kernel_rfl)
                      · rw [hb327]
                        refine seg 4 [.op [1, 1, 0, 1, 0, 1, 1, 1, 1, 1, 1, 1, 1, 1, 0, 1, 1, 1, 1, 1] 1, .le 0, .bl 0, .co [1, 1, 1]] [(2, .pointer (some (⟨g2, 0, none⟩))), (3, .pointer (some (⟨g3, 0, none⟩))), (4, .pointer (some (⟨g305, 0, none⟩))), (80, .pointer (some (⟨g305, 0, none⟩)))] (by kernel_rfl) ?_
                        refine st (ldR (some 81) 3 (⟨g305, 0, none⟩) (.int .i64 a.Call.Do) (by kernel_rfl) (by kernel_rfl) (H.cellB 2 rfl rfl) ?_)
                        refine seg 2 [.op [1, 1, 0, 1, 0, 1, 1, 1, 1, 1, 1, 1, 1, 1, 0, 1, 1, 1, 1, 1] 4, .le 0, .bl 0, .co [1, 1, 1]] [(2, .pointer (some (⟨g2, 0, none⟩))), (3, .pointer (some (⟨g3, 0, none⟩))), (4, .pointer (some (⟨g305, 0, none⟩))), (83, .bool (a.Call.Do == 8))] (by kernel_rfl) ?_
                        rcases condT hp288 with ⟨hb332, hp288⟩ | ⟨hb332, hp288⟩
                        · rw [hb332]
                          refine seg 1 [.op [1, 1, 0, 1, 0, 1, 1, 1, 1, 1, 1, 1, 1, 1, 0, 1, 1, 1, 1, 1] 5, .le 0, .bl 0, .co [1, 1, 1]] [(2, .pointer (some (⟨g2, 0, none⟩))), (3, .pointer (some (⟨g3, 0, none⟩))), (83, .bool true), (84, .pointer (some (⟨g305, 5, none⟩)))] (by kernel_rfl) ?_
                          refine st (ldR (some 85) 4 (⟨g305, 5, none⟩) (.bool a.Call.On) (by kernel_rfl) (by kernel_rfl) (H.cellB 2 rfl rfl) ?_)
                          refine seg 3 [.op [1, 1, 0, 1, 0, 1, 1, 1, 1, 1, 1, 1, 1, 1, 0, 1, 1, 1, 1, 1] 9, .le 0, .bl 0, .co [1, 1, 1]] [(2, .pointer (some (⟨g2, 0, none⟩))), (3, .pointer (some (⟨g3, 0, none⟩))), (86, .bool a.Call.On), (88, .pointer (some (⟨g3, 11, none⟩)))] (by kernel_rfl) ?_
                          refine st (stS none 4 1 g3 11 (.bool a.Call.On) [.int .i64 a.Do, .int .i64 0, .int .u64 0, .slice none 0 0, .int .i64 0, .slice none 0 0, .int .i64 a.Call.Do, .int .i64 a.Call.Ino, .int .i64 A, .int .i64 B_, .string ⟨([] : List UInt8).toArray⟩, .bool false] 29 H rfl (by kernel_rfl) (by kernel_rfl) rfl (of_decide_eq_true rfl) ?_)
                          intro w333 H
                          refine seg 1 [.le 0, .bl 0, .co [1, 1, 1]] [(2, .pointer (some (⟨g2, 0, none⟩))), (3, .pointer (some (⟨g3, 0, none⟩)))] (by kernel_rfl) ?_
                          have H := H.nilR rU8 5
                          have H := H.nilR rU8 5
                          refine leJ ([], 0, [], a.Call.Do, a.Call.Ino, A, B_, ([] : List UInt8), a.Call.On, none, 0, none, 0, mk314) ⟨(Option.some.inj hp288).symm, (St.takeN 4 ((((H.pull 1 rfl).pull 1 rfl).pull 3 rfl).pull 3 rfl)), hsub314, (Nat.le_of_ble_eq_true rfl)⟩ (by kernel_rfl)
                        · rw [hb332]
                          refine seg 5 [.op [1, 1, 0, 1, 0, 1, 1, 1, 1, 1, 1, 1, 1, 1, 0, 1, 1, 1, 1, 1] 9, .le 0, .bl 0, .co [1, 1, 1]] [(2, .pointer (some (⟨g2, 0, none⟩))), (3, .pointer (some (⟨g3, 0, none⟩))), (86, .bool false), (88, .pointer (some (⟨g3, 11, none⟩)))] (by kernel_rfl) ?_
                          refine st (stS none 4 1 g3 11 (.bool false) [.int .i64 a.Do, .int .i64 0, .int .u64 0, .slice none 0 0, .int .i64 0, .slice none 0 0, .int .i64 a.Call.Do, .int .i64 a.Call.Ino, .int .i64 A, .int .i64 B_, .string ⟨([] : List UInt8).toArray⟩, .bool false] 29 H rfl (by kernel_rfl) (by kernel_rfl) rfl (of_decide_eq_true rfl) ?_)
                          intro w334 H
                          refine seg 1 [.le 0, .bl 0, .co [1, 1, 1]] [(2, .pointer (some (⟨g2, 0, none⟩))), (3, .pointer (some (⟨g3, 0, none⟩)))] (by kernel_rfl) ?_
                          have H := H.nilR rU8 5
                          have H := H.nilR rU8 5
                          refine leJ ([], 0, [], a.Call.Do, a.Call.Ino, A, B_, ([] : List UInt8), false, none, 0, none, 0, mk314) ⟨(Option.some.inj hp288).symm, (St.takeN 4 ((((H.pull 1 rfl).pull 1 rfl).pull 3 rfl).pull 3 rfl)), hsub314, (Nat.le_of_ble_eq_true rfl)⟩ (by kernel_rfl)
                · rw [hb304]
                  refine seg 3 [.op [1, 1, 0, 1, 0, 1, 1, 1, 1, 1, 1, 1, 1, 1, 1, 0] 0, .co [1, 1, 0, 1, 0, 1, 1, 1, 1, 1, 1, 1, 1, 1, 1, 1], .le 0, .bl 0, .co [1, 1, 1]] [(1, .pointer (some (⟨g1, 0, none⟩))), (2, .pointer (some (⟨g2, 0, none⟩)))] (by kernel_rfl) ?_
                  replace H : St w noF m m [blkI g2 [.int .i64 0, .int .i64 0, .int .u64 0, .slice none 0 0, .int .i64 0, .slice none 0 0, .int .i64 0, .int .i64 0, .int .i64 0, .int .i64 0, .string ⟨([] : List UInt8).toArray⟩, .bool false] 29, blkI g1 [.int .i64 a.Do, .int .i64 a.Len, .int .u64 (a.Sum.toNat : Int), .slice A0_3 a.Bytes.length c0_3, .int .i64 a.Crash.After, .slice A0_5 a.Crash.Torn.length c0_5, .int .i64 a.Call.Do, .int .i64 a.Call.Ino, .int .i64 a.Call.A, .int .i64 a.Call.B, .string ⟨a.Call.Name.toArray⟩, .bool a.Call.On] 29] w4 := (H.drop 0 rfl)
                  refine st (ldAggR (some 10) 29 (⟨g1, 0, none⟩) [.int .i64 a.Do, .int .i64 a.Len, .int .u64 (a.Sum.toNat : Int), .slice A0_3 a.Bytes.length c0_3, .int .i64 a.Crash.After, .slice A0_5 a.Crash.Torn.length c0_5, .int .i64 a.Call.Do, .int .i64 a.Call.Ino, .int .i64 a.Call.A, .int .i64 a.Call.B, .string ⟨a.Call.Name.toArray⟩, .bool a.Call.On] (by kernel_rfl) (by kernel_rfl) (H.cellsB 1 rfl (by rfl)) ?_)
                  obtain ⟨whole2, h_whole2, hp288⟩ := bindE hp288
                  refine st (callR (some 11) 18 #[.agg #[.int .i64 a.Do, .int .i64 a.Len, .int .u64 (a.Sum.toNat : Int), .slice A0_3 a.Bytes.length c0_3, .int .i64 a.Crash.After, .slice A0_5 a.Crash.Torn.length c0_5, .int .i64 a.Call.Do, .int .i64 a.Call.Ino, .int .i64 a.Call.A, .int .i64 a.Call.B, .string ⟨a.Call.Name.toArray⟩, .bool a.Call.On]] Tryd.call18 (script_whole_c H.has a A0_3 c0_3 s0_3 A0_5 c0_5 s0_5 l0_10 h_whole2) (by kernel_rfl) ?_)
                  rintro _ w335 ⟨A335_0_3, c335_0_3, A335_0_5, c335_0_5, mk335, rfl, hS335, hs335_0, hs335_1, hl335_0⟩
                  have hsub335 := hS335.sub
                  replace H := H.call0 hS335
                  refine st (stAggS none 29 0 g2 0 [.int .i64 whole2.Do, .int .i64 whole2.Len, .int .u64 (whole2.Sum.toNat : Int), .slice A335_0_3 whole2.Bytes.length c335_0_3, .int .i64 whole2.Crash.After, .slice A335_0_5 whole2.Crash.Torn.length c335_0_5, .int .i64 whole2.Call.Do, .int .i64 whole2.Call.Ino, .int .i64 whole2.Call.A, .int .i64 whole2.Call.B, .string ⟨whole2.Call.Name.toArray⟩, .bool whole2.Call.On] [.int .i64 0, .int .i64 0, .int .u64 0, .slice none 0 0, .int .i64 0, .slice none 0 0, .int .i64 0, .int .i64 0, .int .i64 0, .int .i64 0, .string ⟨([] : List UInt8).toArray⟩, .bool false] [.int .i64 whole2.Do, .int .i64 whole2.Len, .int .u64 (whole2.Sum.toNat : Int), .slice A335_0_3 whole2.Bytes.length c335_0_3, .int .i64 whole2.Crash.After, .slice A335_0_5 whole2.Crash.Torn.length c335_0_5, .int .i64 whole2.Call.Do, .int .i64 whole2.Call.Ino, .int .i64 whole2.Call.A, .int .i64 whole2.Call.B, .string ⟨whole2.Call.Name.toArray⟩, .bool whole2.Call.On] 29 H rfl (by kernel_rfl) (by kernel_rfl) (by rfl) (of_decide_eq_true rfl) rfl ?_)
                  intro w336 H
                  refine seg 1 [.co [1, 1, 0, 1, 0, 1, 1, 1, 1, 1, 1, 1, 1, 1, 1, 1], .le 0, .bl 0, .co [1, 1, 1]] [(2, .pointer (some (⟨g2, 0, none⟩)))] (by kernel_rfl) ?_
                  refine retC [.agg #[.int .i64 whole2.Do, .int .i64 whole2.Len, .int .u64 (whole2.Sum.toNat : Int), .slice A335_0_3 whole2.Bytes.length c335_0_3, .int .i64 whole2.Crash.After, .slice A335_0_5 whole2.Crash.Torn.length c335_0_5, .int .i64 whole2.Call.Do, .int .i64 whole2.Call.Ino, .int .i64 whole2.Call.A, .int .i64 whole2.Call.B, .string ⟨whole2.Call.Name.toArray⟩, .bool whole2.Call.On]] (by kernel_rfl) ⟨⟨_, rfl, ldv_agg 29 (⟨g2, 0, none⟩) [.int .i64 whole2.Do, .int .i64 whole2.Len, .int .u64 (whole2.Sum.toNat : Int), .slice A335_0_3 whole2.Bytes.length c335_0_3, .int .i64 whole2.Crash.After, .slice A335_0_5 whole2.Crash.Torn.length c335_0_5, .int .i64 whole2.Call.Do, .int .i64 whole2.Call.Ino, .int .i64 whole2.Call.A, .int .i64 whole2.Call.B, .string ⟨whole2.Call.Name.toArray⟩, .bool whole2.Call.On] (by kernel_rfl) (H.cellsB 0 rfl (by rfl))⟩, trivial⟩ ?_
                  have hret := (hfr288 _ (Option.some.inj hp288).symm)
                  subst hret
                  exact ⟨_, rfl, A335_0_3, c335_0_3, A335_0_5, c335_0_5, mk335, rfl, (St.takeN 0 H), hs335_0, hs335_1, hl335_0⟩
    rintro ⟨Bytes, After, Torn, Do, Ino, A, B_, Name, On, A_1_289, c_2_289, A_3_289, c_4_289, mm289⟩ wj288 ⟨hy288, H, hsub289, hl289_0⟩
    try dsimp only at hy288
    try dsimp only at H
    try dsimp only at hsub289
    try dsimp only at hl289_0
    have hf := hfl288 _ hy288
    try dsimp only at hf
    refine seg 3 [.op [1, 1, 1, 0] 0, .co [1, 1, 1, 1]] [(2, .pointer (some (⟨g2, 0, none⟩))), (3, .pointer (some (⟨g3, 0, none⟩)))] (by kernel_rfl) ?_
    refine st (ldAggR (some 89) 29 (⟨g3, 0, none⟩) [.int .i64 a.Do, .int .i64 0, .int .u64 0, .slice A_1_289 Bytes.length c_2_289, .int .i64 After, .slice A_3_289 Torn.length c_4_289, .int .i64 Do, .int .i64 Ino, .int .i64 A, .int .i64 B_, .string ⟨Name.toArray⟩, .bool On] (by kernel_rfl) (by kernel_rfl) (H.cellsB 1 rfl (by rfl)) ?_)
    refine st (stAggS none 29 0 g2 0 [.int .i64 a.Do, .int .i64 0, .int .u64 0, .slice A_1_289 Bytes.length c_2_289, .int .i64 After, .slice A_3_289 Torn.length c_4_289, .int .i64 Do, .int .i64 Ino, .int .i64 A, .int .i64 B_, .string ⟨Name.toArray⟩, .bool On] [.int .i64 0, .int .i64 0, .int .u64 0, .slice none 0 0, .int .i64 0, .slice none 0 0, .int .i64 0, .int .i64 0, .int .i64 0, .int .i64 0, .string ⟨([] : List UInt8).toArray⟩, .bool false] [.int .i64 a.Do, .int .i64 0, .int .u64 0, .slice A_1_289 Bytes.length c_2_289, .int .i64 After, .slice A_3_289 Torn.length c_4_289, .int .i64 Do, .int .i64 Ino, .int .i64 A, .int .i64 B_, .string ⟨Name.toArray⟩, .bool On] 29 H rfl (by kernel_rfl) (by kernel_rfl) (by rfl) (of_decide_eq_true rfl) rfl ?_)
    intro w337 H
    refine seg 1 [.co [1, 1, 1, 1]] [(2, .pointer (some (⟨g2, 0, none⟩)))] (by kernel_rfl) ?_
    obtain ⟨mf338, hsub338, hsf338, H⟩ := H.fixR 2 rfl
    obtain ⟨mf339, hsub339, hsf339, H⟩ := H.fixR 2 rfl
    refine retC [.agg #[.int .i64 a.Do, .int .i64 0, .int .u64 0, .slice A_1_289 Bytes.length c_2_289, .int .i64 After, .slice A_3_289 Torn.length c_4_289, .int .i64 Do, .int .i64 Ino, .int .i64 A, .int .i64 B_, .string ⟨Name.toArray⟩, .bool On]] (by kernel_rfl) ⟨⟨_, rfl, ldv_agg 29 (⟨g2, 0, none⟩) [.int .i64 a.Do, .int .i64 0, .int .u64 0, .slice A_1_289 Bytes.length c_2_289, .int .i64 After, .slice A_3_289 Torn.length c_4_289, .int .i64 Do, .int .i64 Ino, .int .i64 A, .int .i64 B_, .string ⟨Name.toArray⟩, .bool On] (by kernel_rfl) (H.cellsB 0 rfl (by rfl))⟩, trivial⟩ ?_
    obtain rfl : ({ Do := a.Do, Len := 0, Sum := (0 : UInt64), Bytes := Bytes, Crash := ({ After := After, Torn := Torn } : TApiCrash), Call := ({ Do := Do, Ino := Ino, A := A, B := B_, Name := Name, On := On } : TApiCall) } : TApiAct) = r := (Option.some.inj hf)
    exact ⟨_, rfl, A_1_289, c_2_289, A_3_289, c_4_289, mf339, rfl, (St.takeN 0 H), (hsf338.mono hsub339), hsf339, hl289_0⟩
theorem script_actWords_c {m : Mem} {w : World} (hm : Has m w) :
    Calls Tryd.prog 33 #[] w fun e w' => ∃ v, e = .returned v ∧ ∃ Az_0 : Option Addr, ∃ cz_0 : Nat, ∃ m' : Mem, v = .slice Az_0 script_actWords.length cz_0 ∧ St w noF m m' [rowI rStr 9 Az_0 cz_0 script_actWords] w' := by
  generalize hf : script_actWords = r
  unfold script_actWords at hf
  have H := St.start0 hm
  refine callsR Tryd.func33 (by kernel_rfl) (by kernel_rfl) ?_
  refine seg 6 [.op [1, 0] 0, .co [1, 1]] [] (by kernel_rfl) ?_
  refine st (newS (some 1) (fun g => .slice (some ⟨g, 0, none⟩) 7 7) [.string ⟨([] : List UInt8).toArray⟩, .string ⟨([98, 101, 103, 105, 110] : List UInt8).toArray⟩, .string ⟨([99, 104, 117, 110, 107] : List UInt8).toArray⟩, .string ⟨([102, 105, 110, 105, 115, 104] : List UInt8).toArray⟩, .string ⟨([97, 98, 111, 114, 116] : List UInt8).toArray⟩, .string ⟨([97, 114, 109] : List UInt8).toArray⟩, .string ⟨([114, 101, 98, 111, 111, 116] : List UInt8).toArray⟩] 9 H (by kernel_rfl) ?_)
  intro g1 w1 H
  refine seg 2 [.co [1, 1]] [(0, .slice (some ⟨g1, 0, none⟩) 7 7)] (by kernel_rfl) ?_
  have H := H.toRow (r := rStr) (l := [([] : List UInt8), ([98, 101, 103, 105, 110] : List UInt8), ([99, 104, 117, 110, 107] : List UInt8), ([102, 105, 110, 105, 115, 104] : List UInt8), ([97, 98, 111, 114, 116] : List UInt8), ([97, 114, 109] : List UInt8), ([114, 101, 98, 111, 111, 116] : List UInt8)]) 0 rfl (Rows.cons (cs := [.string ⟨([] : List UInt8).toArray⟩]) ⟨rfl, (Nat.le_of_ble_eq_true rfl)⟩ (Rows.cons (cs := [.string ⟨([98, 101, 103, 105, 110] : List UInt8).toArray⟩]) ⟨rfl, (Nat.le_of_ble_eq_true rfl)⟩ (Rows.cons (cs := [.string ⟨([99, 104, 117, 110, 107] : List UInt8).toArray⟩]) ⟨rfl, (Nat.le_of_ble_eq_true rfl)⟩ (Rows.cons (cs := [.string ⟨([102, 105, 110, 105, 115, 104] : List UInt8).toArray⟩]) ⟨rfl, (Nat.le_of_ble_eq_true rfl)⟩ (Rows.cons (cs := [.string ⟨([97, 98, 111, 114, 116] : List UInt8).toArray⟩]) ⟨rfl, (Nat.le_of_ble_eq_true rfl)⟩ (Rows.cons (cs := [.string ⟨([97, 114, 109] : List UInt8).toArray⟩]) ⟨rfl, (Nat.le_of_ble_eq_true rfl)⟩ (Rows.cons (cs := [.string ⟨([114, 101, 98, 111, 111, 116] : List UInt8).toArray⟩]) ⟨rfl, (Nat.le_of_ble_eq_true rfl)⟩ Rows.nil))))))) (Nat.le_of_ble_eq_true rfl)
  refine retR [0] [.slice (some ⟨g1, 0, none⟩) 7 7] (by kernel_rfl) (by kernel_rfl) (by kernel_rfl) ?_
  obtain rfl : [([] : List UInt8), ([98, 101, 103, 105, 110] : List UInt8), ([99, 104, 117, 110, 107] : List UInt8), ([102, 105, 110, 105, 115, 104] : List UInt8), ([97, 98, 111, 114, 116] : List UInt8), ([97, 114, 109] : List UInt8), ([114, 101, 98, 111, 111, 116] : List UInt8)] = r := hf
  exact ⟨_, rfl, (some ⟨g1, 0, none⟩), 7, m, rfl, H⟩
theorem internal_strconv_small_c {m : Mem} {w : World} (hm : Has m w) (i : Int) {r : (List UInt8)} (hf : internal_strconv_small i = some r) :
    Calls Tryd.prog 70 #[.int .i64 i] w fun e w' => ∃ v, e = .returned v ∧ v = .string ⟨r.toArray⟩ ∧ Ex w w' ∧ r.length ≤ 9223372036854775807 := by
  unfold internal_strconv_small at hf
  have H := St.start0 hm
  refine callsR Tryd.func70 (by kernel_rfl) (by kernel_rfl) ?_
  refine seg 10 [.co [1, 0, 1], .co [1, 1]] [(0, .int .i64 i), (4, .bool (decide (i < 10)))] (by kernel_rfl) ?_
  rcases condT hf with ⟨hb3, hf⟩ | ⟨hb3, hf⟩
  · rw [hb3]
    have p3 := of_decide_eq_true hb3
    refine seg 6 [.op [1, 0, 1, 0, 0] 3, .co [1, 0, 1, 0, 1], .co [1, 1]] [(5, .int .i64 i), (7, .int .i64 (IntKind.i64.wrap (i + 1)))] (by kernel_rfl) ?_
    obtain ⟨y_, h_y_, hf⟩ := bindE hf
    refine st (sstrS (some 8) 9 ([48, 49, 50, 51, 52, 53, 54, 55, 56, 57, 97, 98, 99, 100, 101, 102, 103, 104, 105, 106, 107, 108, 109, 110, 111, 112, 113, 114, 115, 116, 117, 118, 119, 120, 121, 122] : List UInt8) y_ (some (.int .i64 i)) (some (.int .i64 (IntKind.i64.wrap (i + 1)))) i (IntKind.i64.wrap (i + 1)) (by kernel_rfl) (by kernel_rfl) (.inr ⟨_, rfl⟩) (.inr ⟨_, rfl⟩) h_y_ ?_)
    have hl4 : y_.length ≤ 9223372036854775807 := Nat.le_trans (slc_le h_y_) (Nat.le_of_ble_eq_true rfl)
    refine seg 2 [.co [1, 0, 1, 0, 1], .co [1, 1]] [(2, .string ⟨y_.toArray⟩)] (by kernel_rfl) ?_
    refine retR [2] [.string ⟨y_.toArray⟩] (by kernel_rfl) (by kernel_rfl) (by kernel_rfl) ?_
    have hret := (Option.some.inj hf)
    subst hret
    exact ⟨_, rfl, rfl, H.scalar, hl4⟩
  · rw [hb3]
    have p3 := of_decide_eq_false hb3
    refine seg 9 [.op [1, 1, 0] 5, .co [1, 1, 1]] [(10, .int .i64 (IntKind.i64.wrap (i * 2))), (13, .int .i64 (IntKind.i64.wrap ((IntKind.i64.wrap (i * 2)) + 2)))] (by kernel_rfl) ?_
    obtain ⟨y_1, h_y_1, hf⟩ := bindE hf
    refine st (sstrS (some 14) 9 ([48, 48, 48, 49, 48, 50, 48, 51, 48, 52, 48, 53, 48, 54, 48, 55, 48, 56, 48, 57, 49, 48, 49, 49, 49, 50, 49, 51, 49, 52, 49, 53, 49, 54, 49, 55, 49, 56, 49, 57, 50, 48, 50, 49, 50, 50, 50, 51, 50, 52, 50, 53, 50, 54, 50, 55, 50, 56, 50, 57, 51, 48, 51, 49, 51, 50, 51, 51, 51, 52, 51, 53, 51, 54, 51, 55, 51, 56, 51, 57, 52, 48, 52, 49, 52, 50, 52, 51, 52, 52, 52, 53, 52, 54, 52, 55, 52, 56, 52, 57, 53, 48, 53, 49, 53, 50, 53, 51, 53, 52, 53, 53, 53, 54, 53, 55, 53, 56, 53, 57, 54, 48, 54, 49, 54, 50, 54, 51, 54, 52, 54, 53, 54, 54, 54, 55, 54, 56, 54, 57, 55, 48, 55, 49, 55, 50, 55, 51, 55, 52, 55, 53, 55, 54, 55, 55, 55, 56, 55, 57, 56, 48, 56, 49, 56, 50, 56, 51, 56, 52, 56, 53, 56, 54, 56, 55, 56, 56, 56, 57, 57, 48, 57, 49, 57, 50, 57, 51, 57, 52, 57, 53, 57, 54, 57, 55, 57, 56, 57, 57] : List UInt8) y_1 (some (.int .i64 (IntKind.i64.wrap (i * 2)))) (some (.int .i64 (IntKind.i64.wrap ((IntKind.i64.wrap (i * 2)) + 2)))) (IntKind.i64.wrap (i * 2)) (IntKind.i64.wrap ((IntKind.i64.wrap (i * 2)) + 2)) (by kernel_rfl) (by kernel_rfl) (.inr ⟨_, rfl⟩) (.inr ⟨_, rfl⟩) h_y_1 ?_)
    have hl5 : y_1.length ≤ 9223372036854775807 := Nat.le_trans (slc_le h_y_1) (Nat.le_of_ble_eq_true rfl)
    refine seg 2 [.co [1, 1, 1]] [(2, .string ⟨y_1.toArray⟩)] (by kernel_rfl) ?_
    refine retR [2] [.string ⟨y_1.toArray⟩] (by kernel_rfl) (by kernel_rfl) (by kernel_rfl) ?_
    have hret := (Option.some.inj hf)
    subst hret
    exact ⟨_, rfl, rfl, H.scalar, hl5⟩
theorem math_bits_Len64_c {m : Mem} {w : World} (hm : Has m w) (x_ : UInt64) {r : Int} (hf : math_bits_Len64 x_ = some r) :
    Calls Tryd.prog 81 #[.int .u64 (x_.toNat : Int)] w fun e w' => ∃ v, e = .returned v ∧ v = .int .i64 r ∧ Ex w w' := by
  unfold math_bits_Len64 at hf
  have H := St.start0 hm
  refine callsR Tryd.func81 (by kernel_rfl) (by kernel_rfl) ?_
  refine seg 10 [.co [1, 0, 1], .co [1, 1]] [(0, .int .u64 (x_.toNat : Int)), (2, .int .i64 0), (4, .bool (decide ((x_.toNat : Int) ≥ 4294967296)))] (by kernel_rfl) ?_
  rcases condT hf with ⟨hb9, hf⟩ | ⟨hb9, hf⟩
  · rw [hb9]
    have p9 := of_decide_eq_true hb9
    refine seg 4 [.op [1, 0, 1, 0, 0] 1, .co [1, 0, 1, 0, 1], .co [1, 1]] [(5, .int .u64 (x_.toNat : Int))] (by kernel_rfl) ?_
    refine st (runR (by kernel_rfl : fetch _ _ _ _ _ = some ((some 6), vS (Op.shift .shr .u64 (x_.toNat : Int) .u64 32))) (shr64_run _ _ (by decide)) ?_)
    refine seg 11 [.co [1, 1, 0, 1], .co [1, 1, 1]] [(0, .int .u64 ((shr64 x_ 32).toNat : Int)), (2, .int .i64 32), (8, .bool (decide (((shr64 x_ 32).toNat : Int) ≥ 65536)))] (by kernel_rfl) ?_
    rcases condT hf with ⟨hb10, hf⟩ | ⟨hb10, hf⟩
    · rw [hb10]
      have p10 := of_decide_eq_true hb10
      refine seg 4 [.op [1, 1, 0, 1, 0, 0] 1, .co [1, 1, 0, 1, 0, 1], .co [1, 1, 1]] [(2, .int .i64 32), (9, .int .u64 ((shr64 x_ 32).toNat : Int))] (by kernel_rfl) ?_
      refine st (runR (by kernel_rfl : fetch _ _ _ _ _ = some ((some 10), vS (Op.shift .shr .u64 ((shr64 x_ 32).toNat : Int) .u64 16))) (shr64_run _ _ (by decide)) ?_)
      refine seg 13 [.co [1, 1, 1, 0, 1], .co [1, 1, 1, 1]] [(0, .int .u64 ((shr64 (shr64 x_ 32) 16).toNat : Int)), (2, .int .i64 48), (14, .bool (decide (((shr64 (shr64 x_ 32) 16).toNat : Int) ≥ 256)))] (by kernel_rfl) ?_
      rcases condT hf with ⟨hb11, hf⟩ | ⟨hb11, hf⟩
      · rw [hb11]
        have p11 := of_decide_eq_true hb11
        refine seg 4 [.op [1, 1, 1, 0, 1, 0, 0] 1, .co [1, 1, 1, 0, 1, 0, 1], .co [1, 1, 1, 1]] [(2, .int .i64 48), (15, .int .u64 ((shr64 (shr64 x_ 32) 16).toNat : Int))] (by kernel_rfl) ?_
        refine st (runR (by kernel_rfl : fetch _ _ _ _ _ = some ((some 16), vS (Op.shift .shr .u64 ((shr64 (shr64 x_ 32) 16).toNat : Int) .u64 8))) (shr64_run _ _ (by decide)) ?_)
        refine seg 12 [.op [1, 1, 1, 1, 0] 3, .co [1, 1, 1, 1, 1]] [(19, .int .i64 56), (21, .int .u8 (IntKind.u8.wrap ((shr64 (shr64 (shr64 x_ 32) 16) 8).toNat : Int)))] (by kernel_rfl) ?_
        rw [q8_u64 (shr64 (shr64 (shr64 x_ 32) 16) 8)]
        obtain ⟨c, h_c, hf⟩ := bindE hf
        refine st (strS (some 22) 9 ([0, 1, 2, 2, 3, 3, 3, 3, 4, 4, 4, 4, 4, 4, 4, 4, 5, 5, 5, 5, 5, 5, 5, 5, 5, 5, 5, 5, 5, 5, 5, 5, 6, 6, 6, 6, 6, 6, 6, 6, 6, 6, 6, 6, 6, 6, 6, 6, 6, 6, 6, 6, 6, 6, 6, 6, 6, 6, 6, 6, 6, 6, 6, 6, 7, 7, 7, 7, 7, 7, 7, 7, 7, 7, 7, 7, 7, 7, 7, 7, 7, 7, 7, 7, 7, 7, 7, 7, 7, 7, 7, 7, 7, 7, 7, 7, 7, 7, 7, 7, 7, 7, 7, 7, 7, 7, 7, 7, 7, 7, 7, 7, 7, 7, 7, 7, 7, 7, 7, 7, 7, 7, 7, 7, 7, 7, 7, 7, 8, 8, 8, 8, 8, 8, 8, 8, 8, 8, 8, 8, 8, 8, 8, 8, 8, 8, 8, 8, 8, 8, 8, 8, 8, 8, 8, 8, 8, 8, 8, 8, 8, 8, 8, 8, 8, 8, 8, 8, 8, 8, 8, 8, 8, 8, 8, 8, 8, 8, 8, 8, 8, 8, 8, 8, 8, 8, 8, 8, 8, 8, 8, 8, 8, 8, 8, 8, 8, 8, 8, 8, 8, 8, 8, 8, 8, 8, 8, 8, 8, 8, 8, 8, 8, 8, 8, 8, 8, 8, 8, 8, 8, 8, 8, 8, 8, 8, 8, 8, 8, 8, 8, 8, 8, 8, 8, 8, 8, 8, 8, 8, 8, 8, 8, 8, 8, 8, 8, 8, 8, 8, 8, 8, 8, 8, 8, 8] : List UInt8) .u8 (((shr64 (shr64 (shr64 x_ 32) 16) 8).toUInt8).toNat : Int) c (by kernel_rfl) (by kernel_rfl) h_c ?_)
        refine seg 4 [.co [1, 1, 1, 1, 1]] [(2, .int .i64 (IntKind.i64.wrap (56 + (IntKind.i64.wrap (c.toNat : Int)))))] (by kernel_rfl) ?_
        have := c.toNat_lt
        rw [show IntKind.i64.wrap (c.toNat : Int) = (c.toNat : Int) from w64 (by omega)]
        have := c.toNat_lt
        rw [show IntKind.i64.wrap (56 + (c.toNat : Int)) = (56 + (c.toNat : Int)) from w64 (by omega)]
        refine retR [2] [.int .i64 (56 + (c.toNat : Int))] (by kernel_rfl) (by kernel_rfl) (by kernel_rfl) ?_
        obtain rfl : (56 + (c.toNat : Int)) = r := (Option.some.inj hf)
        exact ⟨_, rfl, rfl, H.scalar⟩
      · rw [hb11]
        have p11 := of_decide_eq_false hb11
        refine seg 7 [.op [1, 1, 1, 1, 0] 3, .co [1, 1, 1, 1, 1]] [(19, .int .i64 48), (21, .int .u8 (IntKind.u8.wrap ((shr64 (shr64 x_ 32) 16).toNat : Int)))] (by kernel_rfl) ?_
        rw [q8_u64 (shr64 (shr64 x_ 32) 16)]
        obtain ⟨c1, h_c1, hf⟩ := bindE hf
        refine st (strS (some 22) 9 ([0, 1, 2, 2, 3, 3, 3, 3, 4, 4, 4, 4, 4, 4, 4, 4, 5, 5, 5, 5, 5, 5, 5, 5, 5, 5, 5, 5, 5, 5, 5, 5, 6, 6, 6, 6, 6, 6, 6, 6, 6, 6, 6, 6, 6, 6, 6, 6, 6, 6, 6, 6, 6, 6, 6, 6, 6, 6, 6, 6, 6, 6, 6, 6, 7, 7, 7, 7, 7, 7, 7, 7, 7, 7, 7, 7, 7, 7, 7, 7, 7, 7, 7, 7, 7, 7, 7, 7, 7, 7, 7, 7, 7, 7, 7, 7, 7, 7, 7, 7, 7, 7, 7, 7, 7, 7, 7, 7, 7, 7, 7, 7, 7, 7, 7, 7, 7, 7, 7, 7, 7, 7, 7, 7, 7, 7, 7, 7, 8, 8, 8, 8, 8, 8, 8, 8, 8, 8, 8, 8, 8, 8, 8, 8, 8, 8, 8, 8, 8, 8, 8, 8, 8, 8, 8, 8, 8, 8, 8, 8, 8, 8, 8, 8, 8, 8, 8, 8, 8, 8, 8, 8, 8, 8, 8, 8, 8, 8, 8, 8, 8, 8, 8, 8, 8, 8, 8, 8, 8, 8, 8, 8, 8, 8, 8, 8, 8, 8, 8, 8, 8, 8, 8, 8, 8, 8, 8, 8, 8, 8, 8, 8, 8, 8, 8, 8, 8, 8, 8, 8, 8, 8, 8, 8, 8, 8, 8, 8, 8, 8, 8, 8, 8, 8, 8, 8, 8, 8, 8, 8, 8, 8, 8, 8, 8, 8, 8, 8, 8, 8, 8, 8, 8, 8, 8, 8] : List UInt8) .u8 (((shr64 (shr64 x_ 32) 16).toUInt8).toNat : Int) c1 (by kernel_rfl) (by kernel_rfl) h_c1 ?_)
        refine seg 4 [.co [1, 1, 1, 1, 1]] [(2, .int .i64 (IntKind.i64.wrap (48 + (IntKind.i64.wrap (c1.toNat : Int)))))] (by kernel_rfl) ?_
        have := c1.toNat_lt
        rw [show IntKind.i64.wrap (c1.toNat : Int) = (c1.toNat : Int) from w64 (by omega)]
        have := c1.toNat_lt
        rw [show IntKind.i64.wrap (48 + (c1.toNat : Int)) = (48 + (c1.toNat : Int)) from w64 (by omega)]
        refine retR [2] [.int .i64 (48 + (c1.toNat : Int))] (by kernel_rfl) (by kernel_rfl) (by kernel_rfl) ?_
        obtain rfl : (48 + (c1.toNat : Int)) = r := (Option.some.inj hf)
        exact ⟨_, rfl, rfl, H.scalar⟩
    · rw [hb10]
      have p10 := of_decide_eq_false hb10
      refine seg 8 [.co [1, 1, 1, 0, 1], .co [1, 1, 1, 1]] [(0, .int .u64 ((shr64 x_ 32).toNat : Int)), (2, .int .i64 32), (14, .bool (decide (((shr64 x_ 32).toNat : Int) ≥ 256)))] (by kernel_rfl) ?_
      rcases condT hf with ⟨hb12, hf⟩ | ⟨hb12, hf⟩
      · rw [hb12]
        have p12 := of_decide_eq_true hb12
        refine seg 4 [.op [1, 1, 1, 0, 1, 0, 0] 1, .co [1, 1, 1, 0, 1, 0, 1], .co [1, 1, 1, 1]] [(2, .int .i64 32), (15, .int .u64 ((shr64 x_ 32).toNat : Int))] (by kernel_rfl) ?_
        refine st (runR (by kernel_rfl : fetch _ _ _ _ _ = some ((some 16), vS (Op.shift .shr .u64 ((shr64 x_ 32).toNat : Int) .u64 8))) (shr64_run _ _ (by decide)) ?_)
        refine seg 12 [.op [1, 1, 1, 1, 0] 3, .co [1, 1, 1, 1, 1]] [(19, .int .i64 40), (21, .int .u8 (IntKind.u8.wrap ((shr64 (shr64 x_ 32) 8).toNat : Int)))] (by kernel_rfl) ?_
        rw [q8_u64 (shr64 (shr64 x_ 32) 8)]
        obtain ⟨c2, h_c2, hf⟩ := bindE hf
        refine st (strS (some 22) 9 ([0, 1, 2, 2, 3, 3, 3, 3, 4, 4, 4, 4, 4, 4, 4, 4, 5, 5, 5, 5, 5, 5, 5, 5, 5, 5, 5, 5, 5, 5, 5, 5, 6, 6, 6, 6, 6, 6, 6, 6, 6, 6, 6, 6, 6, 6, 6, 6, 6, 6, 6, 6, 6, 6, 6, 6, 6, 6, 6, 6, 6, 6, 6, 6, 7, 7, 7, 7, 7, 7, 7, 7, 7, 7, 7, 7, 7, 7, 7, 7, 7, 7, 7, 7, 7, 7, 7, 7, 7, 7, 7, 7, 7, 7, 7, 7, 7, 7, 7, 7, 7, 7, 7, 7, 7, 7, 7, 7, 7, 7, 7, 7, 7, 7, 7, 7, 7, 7, 7, 7, 7, 7, 7, 7, 7, 7, 7, 7, 8, 8, 8, 8, 8, 8, 8, 8, 8, 8, 8, 8, 8, 8, 8, 8, 8, 8, 8, 8, 8, 8, 8, 8, 8, 8, 8, 8, 8, 8, 8, 8, 8, 8, 8, 8, 8, 8, 8, 8, 8, 8, 8, 8, 8, 8, 8, 8, 8, 8, 8, 8, 8, 8, 8, 8, 8, 8, 8, 8, 8, 8, 8, 8, 8, 8, 8, 8, 8, 8, 8, 8, 8, 8, 8, 8, 8, 8, 8, 8, 8, 8, 8, 8, 8, 8, 8, 8, 8, 8, 8, 8, 8, 8, 8, 8, 8, 8, 8, 8, 8, 8, 8, 8, 8, 8, 8, 8, 8, 8, 8, 8, 8, 8, 8, 8, 8, 8, 8, 8, 8, 8, 8, 8, 8, 8, 8, 8] : List UInt8) .u8 (((shr64 (shr64 x_ 32) 8).toUInt8).toNat : Int) c2 (by kernel_rfl) (by kernel_rfl) h_c2 ?_)
        refine seg 4 [.co [1, 1, 1, 1, 1]] [(2, .int .i64 (IntKind.i64.wrap (40 + (IntKind.i64.wrap (c2.toNat : Int)))))] (by kernel_rfl) ?_
        have := c2.toNat_lt
        rw [show IntKind.i64.wrap (c2.toNat : Int) = (c2.toNat : Int) from w64 (by omega)]
        have := c2.toNat_lt
        rw [show IntKind.i64.wrap (40 + (c2.toNat : Int)) = (40 + (c2.toNat : Int)) from w64 (by omega)]
        refine retR [2] [.int .i64 (40 + (c2.toNat : Int))] (by kernel_rfl) (by kernel_rfl) (by kernel_rfl) ?_
        obtain rfl : (40 + (c2.toNat : Int)) = r := (Option.some.inj hf)
        exact ⟨_, rfl, rfl, H.scalar⟩
      · rw [hb12]
        have p12 := of_decide_eq_false hb12
        refine seg 7 [.op [1, 1, 1, 1, 0] 3, .co [1, 1, 1, 1, 1]] [(19, .int .i64 32), (21, .int .u8 (IntKind.u8.wrap ((shr64 x_ 32).toNat : Int)))] (by kernel_rfl) ?_
        rw [q8_u64 (shr64 x_ 32)]
        obtain ⟨c3, h_c3, hf⟩ := bindE hf
        refine st (strS (some 22) 9 ([0, 1, 2, 2, 3, 3, 3, 3, 4, 4, 4, 4, 4, 4, 4, 4, 5, 5, 5, 5, 5, 5, 5, 5, 5, 5, 5, 5, 5, 5, 5, 5, 6, 6, 6, 6, 6, 6, 6, 6, 6, 6, 6, 6, 6, 6, 6, 6, 6, 6, 6, 6, 6, 6, 6, 6, 6, 6, 6, 6, 6, 6, 6, 6, 7, 7, 7, 7, 7, 7, 7, 7, 7, 7, 7, 7, 7, 7, 7, 7, 7, 7, 7, 7, 7, 7, 7, 7, 7, 7, 7, 7, 7, 7, 7, 7, 7, 7, 7, 7, 7, 7, 7, 7, 7, 7, 7, 7, 7, 7, 7, 7, 7, 7, 7, 7, 7, 7, 7, 7, 7, 7, 7, 7, 7, 7, 7, 7, 8, 8, 8, 8, 8, 8, 8, 8, 8, 8, 8, 8, 8, 8, 8, 8, 8, 8, 8, 8, 8, 8, 8, 8, 8, 8, 8, 8, 8, 8, 8, 8, 8, 8, 8, 8, 8, 8, 8, 8, 8, 8, 8, 8, 8, 8, 8, 8, 8, 8, 8, 8, 8, 8, 8, 8, 8, 8, 8, 8, 8, 8, 8, 8, 8, 8, 8, 8, 8, 8, 8, 8, 8, 8, 8, 8, 8, 8, 8, 8, 8, 8, 8, 8, 8, 8, 8, 8, 8, 8, 8, 8, 8, 8, 8, 8, 8, 8, 8, 8, 8, 8, 8, 8, 8, 8, 8, 8, 8, 8, 8, 8, 8, 8, 8, 8, 8, 8, 8, 8, 8, 8, 8, 8, 8, 8, 8, 8] : List UInt8) .u8 (((shr64 x_ 32).toUInt8).toNat : Int) c3 (by kernel_rfl) (by kernel_rfl) h_c3 ?_)
        refine seg 4 [.co [1, 1, 1, 1, 1]] [(2, .int .i64 (IntKind.i64.wrap (32 + (IntKind.i64.wrap (c3.toNat : Int)))))] (by kernel_rfl) ?_
        have := c3.toNat_lt
        rw [show IntKind.i64.wrap (c3.toNat : Int) = (c3.toNat : Int) from w64 (by omega)]
        have := c3.toNat_lt
        rw [show IntKind.i64.wrap (32 + (c3.toNat : Int)) = (32 + (c3.toNat : Int)) from w64 (by omega)]
        refine retR [2] [.int .i64 (32 + (c3.toNat : Int))] (by kernel_rfl) (by kernel_rfl) (by kernel_rfl) ?_
        obtain rfl : (32 + (c3.toNat : Int)) = r := (Option.some.inj hf)
        exact ⟨_, rfl, rfl, H.scalar⟩
  · rw [hb9]
    have p9 := of_decide_eq_false hb9
    refine seg 8 [.co [1, 1, 0, 1], .co [1, 1, 1]] [(0, .int .u64 (x_.toNat : Int)), (2, .int .i64 0), (8, .bool (decide ((x_.toNat : Int) ≥ 65536)))] (by kernel_rfl) ?_
    rcases condT hf with ⟨hb13, hf⟩ | ⟨hb13, hf⟩
    · rw [hb13]
      have p13 := of_decide_eq_true hb13
      refine seg 4 [.op [1, 1, 0, 1, 0, 0] 1, .co [1, 1, 0, 1, 0, 1], .co [1, 1, 1]] [(2, .int .i64 0), (9, .int .u64 (x_.toNat : Int))] (by kernel_rfl) ?_
      refine st (runR (by kernel_rfl : fetch _ _ _ _ _ = some ((some 10), vS (Op.shift .shr .u64 (x_.toNat : Int) .u64 16))) (shr64_run _ _ (by decide)) ?_)
      refine seg 13 [.co [1, 1, 1, 0, 1], .co [1, 1, 1, 1]] [(0, .int .u64 ((shr64 x_ 16).toNat : Int)), (2, .int .i64 16), (14, .bool (decide (((shr64 x_ 16).toNat : Int) ≥ 256)))] (by kernel_rfl) ?_
      rcases condT hf with ⟨hb14, hf⟩ | ⟨hb14, hf⟩
      · rw [hb14]
        have p14 := of_decide_eq_true hb14
        refine seg 4 [.op [1, 1, 1, 0, 1, 0, 0] 1, .co [1, 1, 1, 0, 1, 0, 1], .co [1, 1, 1, 1]] [(2, .int .i64 16), (15, .int .u64 ((shr64 x_ 16).toNat : Int))] (by kernel_rfl) ?_
        refine st (runR (by kernel_rfl : fetch _ _ _ _ _ = some ((some 16), vS (Op.shift .shr .u64 ((shr64 x_ 16).toNat : Int) .u64 8))) (shr64_run _ _ (by decide)) ?_)
        refine seg 12 [.op [1, 1, 1, 1, 0] 3, .co [1, 1, 1, 1, 1]] [(19, .int .i64 24), (21, .int .u8 (IntKind.u8.wrap ((shr64 (shr64 x_ 16) 8).toNat : Int)))] (by kernel_rfl) ?_
        rw [q8_u64 (shr64 (shr64 x_ 16) 8)]
        obtain ⟨c4, h_c4, hf⟩ := bindE hf
        refine st (strS (some 22) 9 ([0, 1, 2, 2, 3, 3, 3, 3, 4, 4, 4, 4, 4, 4, 4, 4, 5, 5, 5, 5, 5, 5, 5, 5, 5, 5, 5, 5, 5, 5, 5, 5, 6, 6, 6, 6, 6, 6, 6, 6, 6, 6, 6, 6, 6, 6, 6, 6, 6, 6, 6, 6, 6, 6, 6, 6, 6, 6, 6, 6, 6, 6, 6, 6, 7, 7, 7, 7, 7, 7, 7, 7, 7, 7, 7, 7, 7, 7, 7, 7, 7, 7, 7, 7, 7, 7, 7, 7, 7, 7, 7, 7, 7, 7, 7, 7, 7, 7, 7, 7, 7, 7, 7, 7, 7, 7, 7, 7, 7, 7, 7, 7, 7, 7, 7, 7, 7, 7, 7, 7, 7, 7, 7, 7, 7, 7, 7, 7, 8, 8, 8, 8, 8, 8, 8, 8, 8, 8, 8, 8, 8, 8, 8, 8, 8, 8, 8, 8, 8, 8, 8, 8, 8, 8, 8, 8, 8, 8, 8, 8, 8, 8, 8, 8, 8, 8, 8, 8, 8, 8, 8, 8, 8, 8, 8, 8, 8, 8, 8, 8, 8, 8, 8, 8, 8, 8, 8, 8, 8, 8, 8, 8, 8, 8, 8, 8, 8, 8, 8, 8, 8, 8, 8, 8, 8, 8, 8, 8, 8, 8, 8, 8, 8, 8, 8, 8, 8, 8, 8, 8, 8, 8, 8, 8, 8, 8, 8, 8, 8, 8, 8, 8, 8, 8, 8, 8, 8, 8, 8, 8, 8, 8, 8, 8, 8, 8, 8, 8, 8, 8, 8, 8, 8, 8, 8, 8] : List UInt8) .u8 (((shr64 (shr64 x_ 16) 8).toUInt8).toNat : Int) c4 (by kernel_rfl) (by kernel_rfl) h_c4 ?_)
        refine seg 4 [.co [1, 1, 1, 1, 1]] [(2, .int .i64 (IntKind.i64.wrap (24 + (IntKind.i64.wrap (c4.toNat : Int)))))] (by kernel_rfl) ?_
        have := c4.toNat_lt
        rw [show IntKind.i64.wrap (c4.toNat : Int) = (c4.toNat : Int) from w64 (by omega)]
        have := c4.toNat_lt
        rw [show IntKind.i64.wrap (24 + (c4.toNat : Int)) = (24 + (c4.toNat : Int)) from w64 (by omega)]
        refine retR [2] [.int .i64 (24 + (c4.toNat : Int))] (by kernel_rfl) (by kernel_rfl) (by kernel_rfl) ?_
        obtain rfl : (24 + (c4.toNat : Int)) = r := (Option.some.inj hf)
        exact ⟨_, rfl, rfl, H.scalar⟩
      · rw [hb14]
        have p14 := of_decide_eq_false hb14
        refine seg 7 [.op [1, 1, 1, 1, 0] 3, .co [1, 1, 1, 1, 1]] [(19, .int .i64 16), (21, .int .u8 (IntKind.u8.wrap ((shr64 x_ 16).toNat : Int)))] (by kernel_rfl) ?_
        rw [q8_u64 (shr64 x_ 16)]
        obtain ⟨c5, h_c5, hf⟩ := bindE hf
        refine st (strS (some 22) 9 ([0, 1, 2, 2, 3, 3, 3, 3, 4, 4, 4, 4, 4, 4, 4, 4, 5, 5, 5, 5, 5, 5, 5, 5, 5, 5, 5, 5, 5, 5, 5, 5, 6, 6, 6, 6, 6, 6, 6, 6, 6, 6, 6, 6, 6, 6, 6, 6, 6, 6, 6, 6, 6, 6, 6, 6, 6, 6, 6, 6, 6, 6, 6, 6, 7, 7, 7, 7, 7, 7, 7, 7, 7, 7, 7, 7, 7, 7, 7, 7, 7, 7, 7, 7, 7, 7, 7, 7, 7, 7, 7, 7, 7, 7, 7, 7, 7, 7, 7, 7, 7, 7, 7, 7, 7, 7, 7, 7, 7, 7, 7, 7, 7, 7, 7, 7, 7, 7, 7, 7, 7, 7, 7, 7, 7, 7, 7, 7, 8, 8, 8, 8, 8, 8, 8, 8, 8, 8, 8, 8, 8, 8, 8, 8, 8, 8, 8, 8, 8, 8, 8, 8, 8, 8, 8, 8, 8, 8, 8, 8, 8, 8, 8, 8, 8, 8, 8, 8, 8, 8, 8, 8, 8, 8, 8, 8, 8, 8, 8, 8, 8, 8, 8, 8, 8, 8, 8, 8, 8, 8, 8, 8, 8, 8, 8, 8, 8, 8, 8, 8, 8, 8, 8, 8, 8, 8, 8, 8, 8, 8, 8, 8, 8, 8, 8, 8, 8, 8, 8, 8, 8, 8, 8, 8, 8, 8, 8, 8, 8, 8, 8, 8, 8, 8, 8, 8, 8, 8, 8, 8, 8, 8, 8, 8, 8, 8, 8, 8, 8, 8, 8, 8, 8, 8, 8, 8] : List UInt8) .u8 (((shr64 x_ 16).toUInt8).toNat : Int) c5 (by kernel_rfl) (by kernel_rfl) h_c5 ?_)
        refine seg 4 [.co [1, 1, 1, 1, 1]] [(2, .int .i64 (IntKind.i64.wrap (16 + (IntKind.i64.wrap (c5.toNat : Int)))))] (by kernel_rfl) ?_
        have := c5.toNat_lt
        rw [show IntKind.i64.wrap (c5.toNat : Int) = (c5.toNat : Int) from w64 (by omega)]
        have := c5.toNat_lt
        rw [show IntKind.i64.wrap (16 + (c5.toNat : Int)) = (16 + (c5.toNat : Int)) from w64 (by omega)]
        refine retR [2] [.int .i64 (16 + (c5.toNat : Int))] (by kernel_rfl) (by kernel_rfl) (by kernel_rfl) ?_
        obtain rfl : (16 + (c5.toNat : Int)) = r := (Option.some.inj hf)
        exact ⟨_, rfl, rfl, H.scalar⟩
    · rw [hb13]
      have p13 := of_decide_eq_false hb13
      refine seg 8 [.co [1, 1, 1, 0, 1], .co [1, 1, 1, 1]] [(0, .int .u64 (x_.toNat : Int)), (2, .int .i64 0), (14, .bool (decide ((x_.toNat : Int) ≥ 256)))] (by kernel_rfl) ?_
      rcases condT hf with ⟨hb15, hf⟩ | ⟨hb15, hf⟩
      · rw [hb15]
        have p15 := of_decide_eq_true hb15
        refine seg 4 [.op [1, 1, 1, 0, 1, 0, 0] 1, .co [1, 1, 1, 0, 1, 0, 1], .co [1, 1, 1, 1]] [(2, .int .i64 0), (15, .int .u64 (x_.toNat : Int))] (by kernel_rfl) ?_
        refine st (runR (by kernel_rfl : fetch _ _ _ _ _ = some ((some 16), vS (Op.shift .shr .u64 (x_.toNat : Int) .u64 8))) (shr64_run _ _ (by decide)) ?_)
        refine seg 12 [.op [1, 1, 1, 1, 0] 3, .co [1, 1, 1, 1, 1]] [(19, .int .i64 8), (21, .int .u8 (IntKind.u8.wrap ((shr64 x_ 8).toNat : Int)))] (by kernel_rfl) ?_
        rw [q8_u64 (shr64 x_ 8)]
        obtain ⟨c6, h_c6, hf⟩ := bindE hf
        refine st (strS (some 22) 9 ([0, 1, 2, 2, 3, 3, 3, 3, 4, 4, 4, 4, 4, 4, 4, 4, 5, 5, 5, 5, 5, 5, 5, 5, 5, 5, 5, 5, 5, 5, 5, 5, 6, 6, 6, 6, 6, 6, 6, 6, 6, 6, 6, 6, 6, 6, 6, 6, 6, 6, 6, 6, 6, 6, 6, 6, 6, 6, 6, 6, 6, 6, 6, 6, 7, 7, 7, 7, 7, 7, 7, 7, 7, 7, 7, 7, 7, 7, 7, 7, 7, 7, 7, 7, 7, 7, 7, 7, 7, 7, 7, 7, 7, 7, 7, 7, 7, 7, 7, 7, 7, 7, 7, 7, 7, 7, 7, 7, 7, 7, 7, 7, 7, 7, 7, 7, 7, 7, 7, 7, 7, 7, 7, 7, 7, 7, 7, 7, 8, 8, 8, 8, 8, 8, 8, 8, 8, 8, 8, 8, 8, 8, 8, 8, 8, 8, 8, 8, 8, 8, 8, 8, 8, 8, 8, 8, 8, 8, 8, 8, 8, 8, 8, 8, 8, 8, 8, 8, 8, 8, 8, 8, 8, 8, 8, 8, 8, 8, 8, 8, 8, 8, 8, 8, 8, 8, 8, 8, 8, 8, 8, 8, 8, 8, 8, 8, 8, 8, 8, 8, 8, 8, 8, 8, 8, 8, 8, 8, 8, 8, 8, 8, 8, 8, 8, 8, 8, 8, 8, 8, 8, 8, 8, 8, 8, 8, 8, 8, 8, 8, 8, 8, 8, 8, 8, 8, 8, 8, 8, 8, 8, 8, 8, 8, 8, 8, 8, 8, 8, 8, 8, 8, 8, 8, 8, 8] : List UInt8) .u8 (((shr64 x_ 8).toUInt8).toNat : Int) c6 (by kernel_rfl) (by kernel_rfl) h_c6 ?_)
        refine seg 4 [.co [1, 1, 1, 1, 1]] [(2, .int .i64 (IntKind.i64.wrap (8 + (IntKind.i64.wrap (c6.toNat : Int)))))] (by kernel_rfl) ?_
        have := c6.toNat_lt
        rw [show IntKind.i64.wrap (c6.toNat : Int) = (c6.toNat : Int) from w64 (by omega)]
        have := c6.toNat_lt
        rw [show IntKind.i64.wrap (8 + (c6.toNat : Int)) = (8 + (c6.toNat : Int)) from w64 (by omega)]
        refine retR [2] [.int .i64 (8 + (c6.toNat : Int))] (by kernel_rfl) (by kernel_rfl) (by kernel_rfl) ?_
        obtain rfl : (8 + (c6.toNat : Int)) = r := (Option.some.inj hf)
        exact ⟨_, rfl, rfl, H.scalar⟩
      · rw [hb15]
        have p15 := of_decide_eq_false hb15
        refine seg 7 [.op [1, 1, 1, 1, 0] 3, .co [1, 1, 1, 1, 1]] [(19, .int .i64 0), (21, .int .u8 (IntKind.u8.wrap (x_.toNat : Int)))] (by kernel_rfl) ?_
        rw [q8_u64 x_]
        obtain ⟨c7, h_c7, hf⟩ := bindE hf
        refine st (strS (some 22) 9 ([0, 1, 2, 2, 3, 3, 3, 3, 4, 4, 4, 4, 4, 4, 4, 4, 5, 5, 5, 5, 5, 5, 5, 5, 5, 5, 5, 5, 5, 5, 5, 5, 6, 6, 6, 6, 6, 6, 6, 6, 6, 6, 6, 6, 6, 6, 6, 6, 6, 6, 6, 6, 6, 6, 6, 6, 6, 6, 6, 6, 6, 6, 6, 6, 7, 7, 7, 7, 7, 7, 7, 7, 7, 7, 7, 7, 7, 7, 7, 7, 7, 7, 7, 7, 7, 7, 7, 7, 7, 7, 7, 7, 7, 7, 7, 7, 7, 7, 7, 7, 7, 7, 7, 7, 7, 7, 7, 7, 7, 7, 7, 7, 7, 7, 7, 7, 7, 7, 7, 7, 7, 7, 7, 7, 7, 7, 7, 7, 8, 8, 8, 8, 8, 8, 8, 8, 8, 8, 8, 8, 8, 8, 8, 8, 8, 8, 8, 8, 8, 8, 8, 8, 8, 8, 8, 8, 8, 8, 8, 8, 8, 8, 8, 8, 8, 8, 8, 8, 8, 8, 8, 8, 8, 8, 8, 8, 8, 8, 8, 8, 8, 8, 8, 8, 8, 8, 8, 8, 8, 8, 8, 8, 8, 8, 8, 8, 8, 8, 8, 8, 8, 8, 8, 8, 8, 8, 8, 8, 8, 8, 8, 8, 8, 8, 8, 8, 8, 8, 8, 8, 8, 8, 8, 8, 8, 8, 8, 8, 8, 8, 8, 8, 8, 8, 8, 8, 8, 8, 8, 8, 8, 8, 8, 8, 8, 8, 8, 8, 8, 8, 8, 8, 8, 8, 8, 8] : List UInt8) .u8 (x_.toUInt8.toNat : Int) c7 (by kernel_rfl) (by kernel_rfl) h_c7 ?_)
        refine seg 4 [.co [1, 1, 1, 1, 1]] [(2, .int .i64 (IntKind.i64.wrap (0 + (IntKind.i64.wrap (c7.toNat : Int)))))] (by kernel_rfl) ?_
        have := c7.toNat_lt
        rw [show IntKind.i64.wrap (c7.toNat : Int) = (c7.toNat : Int) from w64 (by omega)]
        have := c7.toNat_lt
        rw [show IntKind.i64.wrap (0 + (c7.toNat : Int)) = (0 + (c7.toNat : Int)) from w64 (by omega)]
        refine retR [2] [.int .i64 (0 + (c7.toNat : Int))] (by kernel_rfl) (by kernel_rfl) (by kernel_rfl) ?_
        obtain rfl : (0 + (c7.toNat : Int)) = r := (Option.some.inj hf)
        exact ⟨_, rfl, rfl, H.scalar⟩
theorem internal_strconv_log10Pow2_c {m : Mem} {w : World} (hm : Has m w) (x_ : Int) :
    Calls Tryd.prog 80 #[.int .i64 x_] w fun e w' => ∃ v, e = .returned v ∧ v = .int .i64 (internal_strconv_log10Pow2 x_) ∧ Ex w w' := by
  generalize hf : internal_strconv_log10Pow2 x_ = r
  unfold internal_strconv_log10Pow2 at hf
  have H := St.start0 hm
  refine callsR Tryd.func80 (by kernel_rfl) (by kernel_rfl) ?_
  refine seg 8 [.op [1, 0] 2, .co [1, 1]] [(4, .int .i64 (IntKind.i64.wrap (x_ * 78913)))] (by kernel_rfl) ?_
  refine st (runR (by kernel_rfl : fetch _ _ _ _ _ = some ((some 5), vS (Op.shift .shr .i64 (IntKind.i64.wrap (x_ * 78913)) .u64 18))) (shrI_run _ _ (by decide)) ?_)
  refine seg 2 [.co [1, 1]] [(2, .int .i64 (shrI (IntKind.i64.wrap (x_ * 78913)) 18))] (by kernel_rfl) ?_
  refine retR [2] [.int .i64 (shrI (IntKind.i64.wrap (x_ * 78913)) 18)] (by kernel_rfl) (by kernel_rfl) (by kernel_rfl) ?_
  obtain rfl : (shrI (IntKind.i64.wrap (x_ * 78913)) 18) = r := hf
  exact ⟨_, rfl, rfl, H.scalar⟩
theorem internal_strconv_bool2_c {m : Mem} {w : World} (hm : Has m w) (b : Bool) :
    Calls Tryd.prog 82 #[.bool b] w fun e w' => ∃ v, e = .returned v ∧ v = .int .i64 (internal_strconv_bool2 b) ∧ Ex w w' := by
  generalize hf : internal_strconv_bool2 b = r
  unfold internal_strconv_bool2 at hf
  have H := St.start0 hm
  refine callsR Tryd.func82 (by kernel_rfl) (by kernel_rfl) ?_
  refine seg 9 [.co [1, 0, 1], .co [1, 1]] [(3, .bool b)] (by kernel_rfl) ?_
  rcases condT hf with ⟨hb2, hf⟩ | ⟨hb2, hf⟩
  · rw [hb2]
    refine seg 5 [.co [1, 0, 1, 0, 1], .co [1, 1]] [(2, .int .i64 1)] (by kernel_rfl) ?_
    refine retR [2] [.int .i64 1] (by kernel_rfl) (by kernel_rfl) (by kernel_rfl) ?_
    obtain rfl : 1 = r := hf
    exact ⟨_, rfl, rfl, H.scalar⟩
  · rw [hb2]
    refine seg 6 [.co [1, 1, 1]] [(2, .int .i64 0)] (by kernel_rfl) ?_
    refine retR [2] [.int .i64 0] (by kernel_rfl) (by kernel_rfl) (by kernel_rfl) ?_
    obtain rfl : 0 = r := hf
    exact ⟨_, rfl, rfl, H.scalar⟩
theorem internal_strconv_numDigits_c {m : Mem} {w : World} (hm : Has m w) (hG1 : TabM m 1 (tab0.map fU64)) (d : UInt64) {r : Int} (hf : internal_strconv_numDigits d = some r) :
    Calls Tryd.prog 71 #[.int .u64 (d.toNat : Int)] w fun e w' => ∃ v, e = .returned v ∧ v = .int .i64 r ∧ Ex w w' := by
  unfold internal_strconv_numDigits at hf
  have H := St.start0 hm
  refine callsR Tryd.func71 (by kernel_rfl) (by kernel_rfl) ?_
  refine seg 7 [.op [1, 0] 1, .co [1, 1]] [(0, .int .u64 (d.toNat : Int)), (4, .int .u64 (d.toNat : Int))] (by kernel_rfl) ?_
  obtain ⟨len64, h_len64, hf⟩ := bindE hf
  refine st (callR (some 5) 81 #[.int .u64 (d.toNat : Int)] Tryd.call81 (math_bits_Len64_c H.has d h_len64) (by kernel_rfl) ?_)
  rintro _ w1 ⟨rfl, hx1⟩
  replace H := H.ex hx1
  refine st (callR (some 6) 80 #[.int .i64 len64] Tryd.call80 (internal_strconv_log10Pow2_c H.has len64) (by kernel_rfl) ?_)
  rintro _ w2 ⟨rfl, hx2⟩
  replace H := H.ex hx2
  refine seg 7 [.op [1, 1, 0] 3, .co [1, 1, 1]] [(7, .int .i64 (internal_strconv_log10Pow2 len64)), (8, .int .u64 (d.toNat : Int)), (9, .int .i64 (internal_strconv_log10Pow2 len64))] (by kernel_rfl) ?_
  obtain ⟨x_, h_x_, hf⟩ := bindE hf
  obtain ⟨i03, i13, ix3⟩ := idx_some h_x_
  refine st (idxAS (some 10) 115 20 22 1 .i64 (internal_strconv_log10Pow2 len64) (by kernel_rfl) (by kernel_rfl) i03 i13 ?_)
  refine st (ldR (some 11) 22 (⟨1, (internal_strconv_log10Pow2 len64).toNat, none⟩) (.int .u64 (x_.toNat : Int)) (by kernel_rfl) (by kernel_rfl) (H.cellI (hG1.at_ ix3)) ?_)
  refine seg 1 [.op [1, 1, 0] 6, .co [1, 1, 1]] [(7, .int .i64 (internal_strconv_log10Pow2 len64)), (12, .bool (decide ((d.toNat : Int) ≥ (x_.toNat : Int))))] (by kernel_rfl) ?_
  refine st (callR (some 13) 82 #[.bool (decide ((d.toNat : Int) ≥ (x_.toNat : Int)))] Tryd.call82 (internal_strconv_bool2_c H.has (decide ((d.toNat : Int) ≥ (x_.toNat : Int)))) (by kernel_rfl) ?_)
  rintro _ w4 ⟨rfl, hx4⟩
  replace H := H.ex hx4
  refine seg 3 [.co [1, 1, 1]] [(2, .int .i64 (IntKind.i64.wrap ((internal_strconv_log10Pow2 len64) + (internal_strconv_bool2 (decide ((d.toNat : Int) ≥ (x_.toNat : Int)))))))] (by kernel_rfl) ?_
  refine retR [2] [.int .i64 (IntKind.i64.wrap ((internal_strconv_log10Pow2 len64) + (internal_strconv_bool2 (decide ((d.toNat : Int) ≥ (x_.toNat : Int))))))] (by kernel_rfl) (by kernel_rfl) (by kernel_rfl) ?_
  obtain rfl : (IntKind.i64.wrap ((internal_strconv_log10Pow2 len64) + (internal_strconv_bool2 (decide ((d.toNat : Int) ≥ (x_.toNat : Int)))))) = r := (Option.some.inj hf)
  exact ⟨_, rfl, rfl, H.scalar⟩
end Go.Proofs.YtgoedcjjckdlpaaDoor.F
