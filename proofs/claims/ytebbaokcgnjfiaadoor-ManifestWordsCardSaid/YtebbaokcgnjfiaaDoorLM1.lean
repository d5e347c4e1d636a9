/- The code computes them: printed by lift.py, part 1. -/
import Derived.Test.YtebbaokcgnjfiaaDoorProg
import Derived.Test.YtebbaokcgnjfiaaDoorLMP
set_option linter.unusedVariables false
set_option linter.unusedSimpArgs false
namespace Go.Proofs.YtebbaokcgnjfiaaDoor.F
open Go Go.RowKit Go.Proofs.YtebbaokcgnjfiaaDoor Go.Proofs.YtebbaokcgnjfiaaDoor.K
set_option maxRecDepth 100000
theorem ref11_Much_c {m : Mem} {w : World} (hm : Has m w) (l_ : (List TApiEntry)) (A0_0 : Option Addr) (c0_0 : Nat) (s0_0 : SlI rApiEntry m A0_0 c0_0 l_) {r : Bool} (hf : ref11_Much l_ = some r) :
    Calls Tryd.prog 6 #[.slice A0_0 l_.length c0_0] w fun e w' => ∃ v, e = .returned v ∧ v = .bool r ∧ Ex w w' := by
  unfold ref11_Much at hf
  have H := St.start0 hm
  refine callsR Tryd.func6 (by kernel_rfl) (by kernel_rfl) ?_
  refine seg 11 [.co [1, 0, 1], .co [1, 1]] [(0, .slice A0_0 l_.length c0_0), (8, .bool (decide ((l_.length : Int) > 40)))] (by kernel_rfl) ?_
  rcases condT hf with ⟨hb2, hf⟩ | ⟨hb2, hf⟩
  · rw [hb2]
    have p2 := of_decide_eq_true hb2
    refine seg 5 [.co [1, 0, 1, 0, 1], .co [1, 1]] [(2, .bool true)] (by kernel_rfl) ?_
    refine retR [2] [.bool true] (by kernel_rfl) (by kernel_rfl) (by kernel_rfl) ?_
    have hret := (Option.some.inj hf)
    subst hret
    exact ⟨_, rfl, rfl, H.scalar⟩
  · rw [hb2]
    have p2 := of_decide_eq_false hb2
    refine seg 11 [.co [1, 1, 1, 0, 1], .co [1, 1, 1, 1]] [(0, .slice A0_0 l_.length c0_0), (3, .int .i64 0), (4, .int .i64 0)] (by kernel_rfl) ?_
    obtain ⟨y328, hp328, hfl328, hfr328⟩ := bndE hf
    refine joinR 0 (fun (x : Unit) => []) (fun (x : Unit) (wj328 : World) => y328 = .inl () ∧ St w noF m m [] wj328) (by kernel_rfl) ?_ ?_
    · refine seg 1 [.co [1, 1, 1, 0, 1, 0], .bl 0, .le 0, .co [1, 1, 1, 1]] [(0, .slice A0_0 l_.length c0_0), (3, .int .i64 0), (4, .int .i64 0)] (by kernel_rfl) ?_
      obtain ⟨nn397, hR397⟩ := loopO_iff.1 hp328
      refine loopR 1 (fun (x : Nat × Int × Nat) => [(0, .slice A0_0 l_.length c0_0), (3, .int .i64 x.2.1), (4, .int .i64 (x.2.2 : Int))]) (fun (x : Nat × Int × Nat) (wl397 : World) => iter (fun s => ref11_Much_l1 l_ s.1 s.2) x.1 (x.2.1, x.2.2) = some y328 ∧ St w noF m m [] wl397) (fun (x : Nat × Int × Nat) => x.1) (nn397, 0, 0) (by kernel_rfl) (by kernel_rfl) (by kernel_rfl) ?_ ?_
      · exact ⟨hR397, H⟩
      rintro ⟨n397, sum, i⟩ wl397 ⟨hR397, H⟩
      try dsimp only at hR397
      try dsimp only at H
      obtain ⟨nk397, q397, rfl, hb_397, hnx397, hfin397⟩ := iterE hR397
      replace hb_397 : ref11_Much_l1 l_ sum i = some q397 := hb_397
      unfold ref11_Much_l1 at hb_397
      refine seg 8 [.co [1, 1, 1, 0, 1, 0, 0, 0, 1], .co [1, 1, 1, 0, 1, 0, 0, 1], .le 1, .bl 0, .le 0, .co [1, 1, 1, 1]] [(0, .slice A0_0 l_.length c0_0), (3, .int .i64 sum), (4, .int .i64 (i : Int)), (12, .bool (decide ((i : Int) < (l_.length : Int))))] (by kernel_rfl) ?_
      rcases condT hb_397 with ⟨hb399, hb_397⟩ | ⟨hb399, hb_397⟩
      · rw [hb399]
        have p399 := of_decide_eq_true hb399
        refine seg 9 [.op [1, 1, 1, 0, 1, 0, 0, 1, 0, 0, 0, 0] 2, .co [1, 1, 1, 0, 1, 0, 0, 1, 0, 0, 0, 1], .co [1, 1, 1, 0, 1, 0, 0, 1, 0, 0, 1], .bl 1, .co [1, 1, 1, 0, 1, 0, 0, 1, 1], .le 1, .bl 0, .le 0, .co [1, 1, 1, 1]] [(0, .slice A0_0 l_.length c0_0), (3, .int .i64 sum), (4, .int .i64 (i : Int)), (15, .slice A0_0 l_.length c0_0), (16, .int .i64 (i : Int))] (by kernel_rfl) ?_
        obtain ⟨x_, h_x_, hb_397⟩ := bindE hb_397
        obtain ⟨ad401, _, ea401, ⟨A401_7, c401_7, A401_10, c401_10, rfl, hl401_0, hs401_7, hl401_8, hs401_10⟩, hc401⟩ := s0_0.at_ h_x_ (by decide)
        refine st (idxS (some 17) 22 44 11 A0_0 ad401 l_.length c0_0 .i64 (i : Int) ea401 (by kernel_rfl) (by kernel_rfl) (by omega) (by have := (List.getElem?_eq_some_iff.1 h_x_).1; omega) ?_)
        refine seg 1 [.op [1, 1, 1, 0, 1, 0, 0, 1, 0, 0, 0, 0] 4, .co [1, 1, 1, 0, 1, 0, 0, 1, 0, 0, 0, 1], .co [1, 1, 1, 0, 1, 0, 0, 1, 0, 0, 1], .bl 1, .co [1, 1, 1, 0, 1, 0, 0, 1, 1], .le 1, .bl 0, .le 0, .co [1, 1, 1, 1]] [(0, .slice A0_0 l_.length c0_0), (3, .int .i64 sum), (4, .int .i64 (i : Int)), (18, .pointer (some ((ad401.add (i * 11)).add 7)))] (by kernel_rfl) ?_
        refine st (ldR (some 19) 25 ((ad401.add (i * 11)).add 7) (.slice A401_7 x_.Data.length c401_7) (by kernel_rfl) (by kernel_rfl) (H.cellI (hc401 7 _ rfl)) ?_)
        refine seg 3 [.op [1, 1, 1, 0, 1, 0, 0, 1, 0, 0, 0, 0] 8, .co [1, 1, 1, 0, 1, 0, 0, 1, 0, 0, 0, 1], .co [1, 1, 1, 0, 1, 0, 0, 1, 0, 0, 1], .bl 1, .co [1, 1, 1, 0, 1, 0, 0, 1, 1], .le 1, .bl 0, .le 0, .co [1, 1, 1, 1]] [(0, .slice A0_0 l_.length c0_0), (3, .int .i64 sum), (4, .int .i64 (i : Int)), (22, .bool (decide ((x_.Data.length : Int) > 70000)))] (by kernel_rfl) ?_
        rcases condT hb_397 with ⟨hb402, hb_397⟩ | ⟨hb402, hb_397⟩
        · rw [hb402]
          have p402 := of_decide_eq_true hb402
          refine seg 32 [.co [1, 1, 1, 0, 1, 0, 0, 1, 0, 0, 0, 1, 0, 1], .co [1, 1, 1, 0, 1, 0, 0, 1, 0, 0, 1], .bl 1, .co [1, 1, 1, 0, 1, 0, 0, 1, 1], .le 1, .bl 0, .le 0, .co [1, 1, 1, 1]] [(2, .bool true)] (by kernel_rfl) ?_
          refine retR [2] [.bool true] (by kernel_rfl) (by kernel_rfl) (by kernel_rfl) ?_
          have hret := (hfr328 _ (hfin397 _ (Option.some.inj hb_397).symm).symm)
          subst hret
          exact ⟨_, rfl, rfl, H.scalar⟩
        · rw [hb402]
          have p402 := of_decide_eq_false hb402
          refine seg 2 [.op [1, 1, 1, 0, 1, 0, 0, 1, 0, 0, 0, 0] 10, .co [1, 1, 1, 0, 1, 0, 0, 1, 0, 0, 0, 1], .co [1, 1, 1, 0, 1, 0, 0, 1, 0, 0, 1], .bl 1, .co [1, 1, 1, 0, 1, 0, 0, 1, 1], .le 1, .bl 0, .le 0, .co [1, 1, 1, 1]] [(0, .slice A0_0 l_.length c0_0), (3, .int .i64 sum), (4, .int .i64 (i : Int)), (22, .bool false), (23, .slice A0_0 l_.length c0_0), (24, .int .i64 (i : Int))] (by kernel_rfl) ?_
          refine st (idxS (some 25) 22 44 11 A0_0 ad401 l_.length c0_0 .i64 (i : Int) ea401 (by kernel_rfl) (by kernel_rfl) (by omega) (by have := (List.getElem?_eq_some_iff.1 h_x_).1; omega) ?_)
          refine seg 1 [.op [1, 1, 1, 0, 1, 0, 0, 1, 0, 0, 0, 0] 12, .co [1, 1, 1, 0, 1, 0, 0, 1, 0, 0, 0, 1], .co [1, 1, 1, 0, 1, 0, 0, 1, 0, 0, 1], .bl 1, .co [1, 1, 1, 0, 1, 0, 0, 1, 1], .le 1, .bl 0, .le 0, .co [1, 1, 1, 1]] [(0, .slice A0_0 l_.length c0_0), (3, .int .i64 sum), (4, .int .i64 (i : Int)), (22, .bool false), (26, .pointer (some (ad401.add (i * 11))))] (by kernel_rfl) ?_
          refine st (ldR (some 27) 9 (ad401.add (i * 11)) (.string ⟨x_.Path.toArray⟩) (by kernel_rfl) (by kernel_rfl) (H.cellI (mc0 (hc401 0 _ rfl))) ?_)
          refine seg 4 [.op [1, 1, 1, 0, 1, 0, 0, 1, 0, 0, 0, 0] 17, .co [1, 1, 1, 0, 1, 0, 0, 1, 0, 0, 0, 1], .co [1, 1, 1, 0, 1, 0, 0, 1, 0, 0, 1], .bl 1, .co [1, 1, 1, 0, 1, 0, 0, 1, 1], .le 1, .bl 0, .le 0, .co [1, 1, 1, 1]] [(0, .slice A0_0 l_.length c0_0), (3, .int .i64 sum), (4, .int .i64 (i : Int)), (31, .bool (decide ((x_.Path.length : Int) > 5000)))] (by kernel_rfl) ?_
          rcases condT hb_397 with ⟨hb403, hb_397⟩ | ⟨hb403, hb_397⟩
          · rw [hb403]
            have p403 := of_decide_eq_true hb403
            refine seg 23 [.co [1, 1, 1, 0, 1, 0, 0, 1, 0, 0, 0, 1, 0, 1], .co [1, 1, 1, 0, 1, 0, 0, 1, 0, 0, 1], .bl 1, .co [1, 1, 1, 0, 1, 0, 0, 1, 1], .le 1, .bl 0, .le 0, .co [1, 1, 1, 1]] [(2, .bool true)] (by kernel_rfl) ?_
            refine retR [2] [.bool true] (by kernel_rfl) (by kernel_rfl) (by kernel_rfl) ?_
            have hret := (hfr328 _ (hfin397 _ (Option.some.inj hb_397).symm).symm)
            subst hret
            exact ⟨_, rfl, rfl, H.scalar⟩
          · rw [hb403]
            have p403 := of_decide_eq_false hb403
            refine seg 2 [.op [1, 1, 1, 0, 1, 0, 0, 1, 0, 0, 0, 0] 19, .co [1, 1, 1, 0, 1, 0, 0, 1, 0, 0, 0, 1], .co [1, 1, 1, 0, 1, 0, 0, 1, 0, 0, 1], .bl 1, .co [1, 1, 1, 0, 1, 0, 0, 1, 1], .le 1, .bl 0, .le 0, .co [1, 1, 1, 1]] [(0, .slice A0_0 l_.length c0_0), (3, .int .i64 sum), (4, .int .i64 (i : Int)), (31, .bool false), (32, .slice A0_0 l_.length c0_0), (33, .int .i64 (i : Int))] (by kernel_rfl) ?_
            refine st (idxS (some 34) 22 44 11 A0_0 ad401 l_.length c0_0 .i64 (i : Int) ea401 (by kernel_rfl) (by kernel_rfl) (by omega) (by have := (List.getElem?_eq_some_iff.1 h_x_).1; omega) ?_)
            refine seg 1 [.op [1, 1, 1, 0, 1, 0, 0, 1, 0, 0, 0, 0] 21, .co [1, 1, 1, 0, 1, 0, 0, 1, 0, 0, 0, 1], .co [1, 1, 1, 0, 1, 0, 0, 1, 0, 0, 1], .bl 1, .co [1, 1, 1, 0, 1, 0, 0, 1, 1], .le 1, .bl 0, .le 0, .co [1, 1, 1, 1]] [(0, .slice A0_0 l_.length c0_0), (3, .int .i64 sum), (4, .int .i64 (i : Int)), (31, .bool false), (35, .pointer (some ((ad401.add (i * 11)).add 8)))] (by kernel_rfl) ?_
            refine st (ldR (some 36) 9 ((ad401.add (i * 11)).add 8) (.string ⟨x_.Target.toArray⟩) (by kernel_rfl) (by kernel_rfl) (H.cellI (hc401 8 _ rfl)) ?_)
            refine seg 4 [.op [1, 1, 1, 0, 1, 0, 0, 1, 0, 0, 0, 0] 26, .co [1, 1, 1, 0, 1, 0, 0, 1, 0, 0, 0, 1], .co [1, 1, 1, 0, 1, 0, 0, 1, 0, 0, 1], .bl 1, .co [1, 1, 1, 0, 1, 0, 0, 1, 1], .le 1, .bl 0, .le 0, .co [1, 1, 1, 1]] [(0, .slice A0_0 l_.length c0_0), (3, .int .i64 sum), (4, .int .i64 (i : Int)), (40, .bool (decide ((x_.Target.length : Int) > 5000)))] (by kernel_rfl) ?_
            rcases condT hb_397 with ⟨hb404, hb_397⟩ | ⟨hb404, hb_397⟩
            · rw [hb404]
              have p404 := of_decide_eq_true hb404
              refine seg 14 [.co [1, 1, 1, 0, 1, 0, 0, 1, 0, 0, 0, 1, 0, 1], .co [1, 1, 1, 0, 1, 0, 0, 1, 0, 0, 1], .bl 1, .co [1, 1, 1, 0, 1, 0, 0, 1, 1], .le 1, .bl 0, .le 0, .co [1, 1, 1, 1]] [(2, .bool true)] (by kernel_rfl) ?_
              refine retR [2] [.bool true] (by kernel_rfl) (by kernel_rfl) (by kernel_rfl) ?_
              have hret := (hfr328 _ (hfin397 _ (Option.some.inj hb_397).symm).symm)
              subst hret
              exact ⟨_, rfl, rfl, H.scalar⟩
            · rw [hb404]
              have p404 := of_decide_eq_false hb404
              refine seg 2 [.op [1, 1, 1, 0, 1, 0, 0, 1, 0, 0, 0, 0] 28, .co [1, 1, 1, 0, 1, 0, 0, 1, 0, 0, 0, 1], .co [1, 1, 1, 0, 1, 0, 0, 1, 0, 0, 1], .bl 1, .co [1, 1, 1, 0, 1, 0, 0, 1, 1], .le 1, .bl 0, .le 0, .co [1, 1, 1, 1]] [(0, .slice A0_0 l_.length c0_0), (3, .int .i64 sum), (4, .int .i64 (i : Int)), (40, .bool false), (41, .slice A0_0 l_.length c0_0), (42, .int .i64 (i : Int))] (by kernel_rfl) ?_
              refine st (idxS (some 43) 22 44 11 A0_0 ad401 l_.length c0_0 .i64 (i : Int) ea401 (by kernel_rfl) (by kernel_rfl) (by omega) (by have := (List.getElem?_eq_some_iff.1 h_x_).1; omega) ?_)
              refine seg 1 [.op [1, 1, 1, 0, 1, 0, 0, 1, 0, 0, 0, 0] 30, .co [1, 1, 1, 0, 1, 0, 0, 1, 0, 0, 0, 1], .co [1, 1, 1, 0, 1, 0, 0, 1, 0, 0, 1], .bl 1, .co [1, 1, 1, 0, 1, 0, 0, 1, 1], .le 1, .bl 0, .le 0, .co [1, 1, 1, 1]] [(0, .slice A0_0 l_.length c0_0), (3, .int .i64 sum), (4, .int .i64 (i : Int)), (40, .bool false), (44, .pointer (some ((ad401.add (i * 11)).add 10)))] (by kernel_rfl) ?_
              refine st (ldR (some 45) 42 ((ad401.add (i * 11)).add 10) (.slice A401_10 x_.Attrs.length c401_10) (by kernel_rfl) (by kernel_rfl) (H.cellI (hc401 10 _ rfl)) ?_)
              refine seg 4 [.co [1, 1, 1, 0, 1, 0, 0, 1, 0, 0, 0, 1], .co [1, 1, 1, 0, 1, 0, 0, 1, 0, 0, 1], .bl 1, .co [1, 1, 1, 0, 1, 0, 0, 1, 1], .le 1, .bl 0, .le 0, .co [1, 1, 1, 1]] [(0, .slice A0_0 l_.length c0_0), (3, .int .i64 sum), (4, .int .i64 (i : Int)), (48, .bool (decide ((x_.Attrs.length : Int) > 70)))] (by kernel_rfl) ?_
              rcases condT hb_397 with ⟨hb405, hb_397⟩ | ⟨hb405, hb_397⟩
              · rw [hb405]
                have p405 := of_decide_eq_true hb405
                refine seg 5 [.co [1, 1, 1, 0, 1, 0, 0, 1, 0, 0, 0, 1, 0, 1], .co [1, 1, 1, 0, 1, 0, 0, 1, 0, 0, 1], .bl 1, .co [1, 1, 1, 0, 1, 0, 0, 1, 1], .le 1, .bl 0, .le 0, .co [1, 1, 1, 1]] [(2, .bool true)] (by kernel_rfl) ?_
                refine retR [2] [.bool true] (by kernel_rfl) (by kernel_rfl) (by kernel_rfl) ?_
                have hret := (hfr328 _ (hfin397 _ (Option.some.inj hb_397).symm).symm)
                subst hret
                exact ⟨_, rfl, rfl, H.scalar⟩
              · rw [hb405]
                have p405 := of_decide_eq_false hb405
                refine seg 6 [.co [1, 1, 1, 0, 1, 0, 0, 1, 0, 0, 1, 1], .bl 1, .co [1, 1, 1, 0, 1, 0, 0, 1, 1], .le 1, .bl 0, .le 0, .co [1, 1, 1, 1]] [(0, .slice A0_0 l_.length c0_0), (3, .int .i64 sum), (4, .int .i64 (i : Int)), (5, .int .i64 0)] (by kernel_rfl) ?_
                obtain ⟨y427, hp427, hfl427, hfr427⟩ := bndE hb_397
                refine joinR 2 (fun (x : Int) => [(0, .slice A0_0 l_.length c0_0), (3, .int .i64 x), (4, .int .i64 (i : Int))]) (fun (x : Int) (wj427 : World) => y427 = .inl x ∧ St w noF m m [] wj427) (by kernel_rfl) ?_ ?_
                · refine seg 1 [.co [1, 1, 1, 0, 1, 0, 0, 1, 0, 0, 1, 1, 0], .bl 2, .le 2, .bl 1, .co [1, 1, 1, 0, 1, 0, 0, 1, 1], .le 1, .bl 0, .le 0, .co [1, 1, 1, 1]] [(0, .slice A0_0 l_.length c0_0), (3, .int .i64 sum), (4, .int .i64 (i : Int)), (5, .int .i64 0)] (by kernel_rfl) ?_
                  obtain ⟨nn443, hR443⟩ := loopO_iff.1 hp427
                  refine loopR 3 (fun (x : Nat × Int × Nat) => [(0, .slice A0_0 l_.length c0_0), (3, .int .i64 x.2.1), (4, .int .i64 (i : Int)), (5, .int .i64 (x.2.2 : Int))]) (fun (x : Nat × Int × Nat) (wl443 : World) => iter (fun s => ref11_Much_l2 x_ s.1 s.2) x.1 (x.2.1, x.2.2) = some y427 ∧ St w noF m m [] wl443) (fun (x : Nat × Int × Nat) => x.1) (nn443, sum, 0) (by kernel_rfl) (by kernel_rfl) (by kernel_rfl) ?_ ?_
                  · exact ⟨hR443, H⟩
                  rintro ⟨n443, sum1, k⟩ wl443 ⟨hR443, H⟩
                  try dsimp only at hR443
                  try dsimp only at H
                  obtain ⟨nk443, q443, rfl, hb_443, hnx443, hfin443⟩ := iterE hR443
                  replace hb_443 : ref11_Much_l2 x_ sum1 k = some q443 := hb_443
                  unfold ref11_Much_l2 at hb_443
                  refine seg 6 [.op [1, 1, 1, 0, 1, 0, 0, 1, 0, 0, 1, 1, 0, 0, 0, 0] 3, .co [1, 1, 1, 0, 1, 0, 0, 1, 0, 0, 1, 1, 0, 0, 0, 1], .co [1, 1, 1, 0, 1, 0, 0, 1, 0, 0, 1, 1, 0, 0, 1], .le 3, .bl 2, .le 2, .bl 1, .co [1, 1, 1, 0, 1, 0, 0, 1, 1], .le 1, .bl 0, .le 0, .co [1, 1, 1, 1]] [(0, .slice A0_0 l_.length c0_0), (3, .int .i64 sum1), (4, .int .i64 (i : Int)), (5, .int .i64 (k : Int)), (49, .int .i64 (k : Int)), (50, .slice A0_0 l_.length c0_0), (51, .int .i64 (i : Int))] (by kernel_rfl) ?_
                  refine st (idxS (some 52) 22 44 11 A0_0 ad401 l_.length c0_0 .i64 (i : Int) ea401 (by kernel_rfl) (by kernel_rfl) (by omega) (by have := (List.getElem?_eq_some_iff.1 h_x_).1; omega) ?_)
                  refine seg 1 [.op [1, 1, 1, 0, 1, 0, 0, 1, 0, 0, 1, 1, 0, 0, 0, 0] 5, .co [1, 1, 1, 0, 1, 0, 0, 1, 0, 0, 1, 1, 0, 0, 0, 1], .co [1, 1, 1, 0, 1, 0, 0, 1, 0, 0, 1, 1, 0, 0, 1], .le 3, .bl 2, .le 2, .bl 1, .co [1, 1, 1, 0, 1, 0, 0, 1, 1], .le 1, .bl 0, .le 0, .co [1, 1, 1, 1]] [(0, .slice A0_0 l_.length c0_0), (3, .int .i64 sum1), (4, .int .i64 (i : Int)), (5, .int .i64 (k : Int)), (49, .int .i64 (k : Int)), (53, .pointer (some ((ad401.add (i * 11)).add 10)))] (by kernel_rfl) ?_
                  refine st (ldR (some 54) 42 ((ad401.add (i * 11)).add 10) (.slice A401_10 x_.Attrs.length c401_10) (by kernel_rfl) (by kernel_rfl) (H.cellI (hc401 10 _ rfl)) ?_)
                  refine seg 3 [.co [1, 1, 1, 0, 1, 0, 0, 1, 0, 0, 1, 1, 0, 0, 0, 1], .co [1, 1, 1, 0, 1, 0, 0, 1, 0, 0, 1, 1, 0, 0, 1], .le 3, .bl 2, .le 2, .bl 1, .co [1, 1, 1, 0, 1, 0, 0, 1, 1], .le 1, .bl 0, .le 0, .co [1, 1, 1, 1]] [(0, .slice A0_0 l_.length c0_0), (3, .int .i64 sum1), (4, .int .i64 (i : Int)), (5, .int .i64 (k : Int)), (56, .bool (decide ((k : Int) < (x_.Attrs.length : Int))))] (by kernel_rfl) ?_
                  rcases condT hb_443 with ⟨hb445, hb_443⟩ | ⟨hb445, hb_443⟩
                  · rw [hb445]
                    have p445 := of_decide_eq_true hb445
                    refine seg 5 [.co [1, 1, 1, 0, 1, 0, 0, 1, 0, 0, 1, 1, 0, 0, 1, 0, 0, 0], .co [1, 1, 1, 0, 1, 0, 0, 1, 0, 0, 1, 1, 0, 0, 1, 0, 0, 1], .bl 3, .co [1, 1, 1, 0, 1, 0, 0, 1, 0, 0, 1, 1, 0, 0, 1, 1], .le 3, .bl 2, .le 2, .bl 1, .co [1, 1, 1, 0, 1, 0, 0, 1, 1], .le 1, .bl 0, .le 0, .co [1, 1, 1, 1]] [(0, .slice A0_0 l_.length c0_0), (3, .int .i64 sum1), (4, .int .i64 (i : Int)), (5, .int .i64 (k : Int))] (by kernel_rfl) ?_
                    obtain ⟨x_1, h_x_1, hb_443⟩ := bindE hb_443
                    have hst : statB (bodyOf Tryd.f6) [1, 1, 1, 0, 1, 0, 0, 1, 0, 0, 1, 1, 0, 0, 1, 0, 0, 0] = true := by kernel_rfl
                    refine drawS (Has m) H (by kernel_rfl) (by kernel_rfl) ?_
                    intro w448 H
                    refine segD2 hst [0, 1, 2, 6, 12, 13, 17] [0, 1, 2, 6, 12, 13, 17] [(0, .slice A0_0 l_.length c0_0), (4, .int .i64 (i : Int)), (5, .int .i64 (k : Int)), (59, .int .i64 sum1), (60, .slice A0_0 l_.length c0_0), (61, .int .i64 (i : Int)), (65, .int .i64 (k : Int)), (71, .slice A0_0 l_.length c0_0), (72, .int .i64 (i : Int)), (76, .int .i64 (k : Int))] (by kernel_rfl) ?_
                    refine takeD2 (i := 3) (d := (some 62)) (s := vS (Instr.indexAt 22 (.slice A0_0 l_.length c0_0) (.int .i64 (i : Int)))) (v := .pointer (some (ad401.add (i * 11)))) hst (by kernel_rfl) (by kernel_rfl) (fun w' hw' => idx_run 22 44 11 _ ad401 _ _ _ _ _ ea401 (by kernel_rfl) (by omega) (by have := (List.getElem?_eq_some_iff.1 h_x_).1; omega) rfl) ?_
                    refine segD2 hst [4] [0, 1, 2, 6, 12, 13, 17, 3, 4] [(0, .slice A0_0 l_.length c0_0), (4, .int .i64 (i : Int)), (5, .int .i64 (k : Int)), (59, .int .i64 sum1), (63, .pointer (some ((ad401.add (i * 11)).add 10))), (65, .int .i64 (k : Int)), (71, .slice A0_0 l_.length c0_0), (72, .int .i64 (i : Int)), (76, .int .i64 (k : Int))] (by kernel_rfl) ?_
                    refine takeD2 (i := 5) (d := (some 64)) (s := vS (Instr.loadAt 42 (.pointer (some ((ad401.add (i * 11)).add 10))))) (v := (.slice A401_10 x_.Attrs.length c401_10)) hst (by kernel_rfl) (by kernel_rfl) (fun w' hw' => ld_run _ _ _ (by kernel_rfl) (hw'.cell (hc401 10 _ rfl))) ?_
                    obtain ⟨ad449, _, ea449, ⟨A449_1, c449_1, rfl, hl449_0, hs449_1⟩, hc449⟩ := hs401_10.at_ h_x_1 (by decide)
                    refine takeD2 (i := 7) (d := (some 66)) (s := vS (Instr.indexAt 42 (.slice A401_10 x_.Attrs.length c401_10) (.int .i64 (k : Int)))) (v := .pointer (some (ad449.add (k * 2)))) hst (by kernel_rfl) (by kernel_rfl) (fun w' hw' => idx_run 42 46 2 _ ad449 _ _ _ _ _ ea449 (by kernel_rfl) (by omega) (by have := (List.getElem?_eq_some_iff.1 h_x_1).1; omega) rfl) ?_
                    refine segD2 hst [8] [0, 1, 2, 6, 12, 13, 17, 3, 4, 5, 7, 8] [(0, .slice A0_0 l_.length c0_0), (4, .int .i64 (i : Int)), (5, .int .i64 (k : Int)), (59, .int .i64 sum1), (67, .pointer (some (ad449.add (k * 2)))), (71, .slice A0_0 l_.length c0_0), (72, .int .i64 (i : Int)), (76, .int .i64 (k : Int))] (by kernel_rfl) ?_
                    refine takeD2 (i := 9) (d := (some 68)) (s := vS (Instr.loadAt 9 (.pointer (some (ad449.add (k * 2)))))) (v := (.string ⟨x_1.Name.toArray⟩)) hst (by kernel_rfl) (by kernel_rfl) (fun w' hw' => ld_run _ _ _ (by kernel_rfl) (hw'.cell (mc0 (hc449 0 _ rfl)))) ?_
                    refine segD2 hst [10, 11] [0, 1, 2, 6, 12, 13, 17, 3, 4, 5, 7, 8, 9, 10, 11] [(0, .slice A0_0 l_.length c0_0), (4, .int .i64 (i : Int)), (5, .int .i64 (k : Int)), (70, .int .i64 (IntKind.i64.wrap (sum1 + (x_1.Name.length : Int)))), (71, .slice A0_0 l_.length c0_0), (72, .int .i64 (i : Int)), (76, .int .i64 (k : Int))] (by kernel_rfl) ?_
                    refine stD2 (i := 14) (by kernel_rfl) H.has (idxS (some 73) 22 44 11 A0_0 ad401 l_.length c0_0 .i64 (i : Int) ea401 (by kernel_rfl) (by kernel_rfl) (by omega) (by have := (List.getElem?_eq_some_iff.1 h_x_).1; omega) ?_)
                    refine segD2 hst [15] [0, 1, 2, 6, 12, 13, 17, 3, 4, 5, 7, 8, 9, 10, 11, 14, 15] [(0, .slice A0_0 l_.length c0_0), (4, .int .i64 (i : Int)), (5, .int .i64 (k : Int)), (70, .int .i64 (IntKind.i64.wrap (sum1 + (x_1.Name.length : Int)))), (74, .pointer (some ((ad401.add (i * 11)).add 10))), (76, .int .i64 (k : Int))] (by kernel_rfl) ?_
                    refine stD2 (i := 16) (by kernel_rfl) H.has (ldR (some 75) 42 ((ad401.add (i * 11)).add 10) (.slice A401_10 x_.Attrs.length c401_10) (by kernel_rfl) (by kernel_rfl) (H.cellI (hc401 10 _ rfl)) ?_)
                    refine stD2 (i := 18) (by kernel_rfl) H.has (idxS (some 77) 42 46 2 A401_10 ad449 x_.Attrs.length c401_10 .i64 (k : Int) ea449 (by kernel_rfl) (by kernel_rfl) (by omega) (by have := (List.getElem?_eq_some_iff.1 h_x_1).1; omega) ?_)
                    refine segD2 hst [19] [0, 1, 2, 6, 12, 13, 17, 3, 4, 5, 7, 8, 9, 10, 11, 14, 15, 16, 18, 19] [(0, .slice A0_0 l_.length c0_0), (4, .int .i64 (i : Int)), (5, .int .i64 (k : Int)), (70, .int .i64 (IntKind.i64.wrap (sum1 + (x_1.Name.length : Int)))), (78, .pointer (some ((ad449.add (k * 2)).add 1)))] (by kernel_rfl) ?_
                    refine stD2 (i := 20) (by kernel_rfl) H.has (ldR (some 79) 25 ((ad449.add (k * 2)).add 1) (.slice A449_1 x_1.Value.length c449_1) (by kernel_rfl) (by kernel_rfl) (H.cellI (hc449 1 _ rfl)) ?_)
                    refine segD2 hst [21, 22] [0, 1, 2, 6, 12, 13, 17, 3, 4, 5, 7, 8, 9, 10, 11, 14, 15, 16, 18, 19, 20, 21, 22] [(0, .slice A0_0 l_.length c0_0), (4, .int .i64 (i : Int)), (5, .int .i64 (k : Int)), (81, .int .i64 (IntKind.i64.wrap ((IntKind.i64.wrap (sum1 + (x_1.Name.length : Int))) + (x_1.Value.length : Int))))] (by kernel_rfl) ?_
                    refine segD2 hst [23] [0, 1, 2, 6, 12, 13, 17, 3, 4, 5, 7, 8, 9, 10, 11, 14, 15, 16, 18, 19, 20, 21, 22, 23] [(0, .slice A0_0 l_.length c0_0), (3, .int .i64 (IntKind.i64.wrap ((IntKind.i64.wrap (sum1 + (x_1.Name.length : Int))) + (x_1.Value.length : Int)))), (4, .int .i64 (i : Int)), (5, .int .i64 (k : Int))] (by kernel_rfl) ?_
                    refine endD2 (by kernel_rfl) H.has ?_
                    refine seg 4 [.op [1, 1, 1, 0, 1, 0, 0, 1, 0, 0, 1, 1, 0, 0, 1, 0, 0, 1, 0] 2, .co [1, 1, 1, 0, 1, 0, 0, 1, 0, 0, 1, 1, 0, 0, 1, 0, 0, 1, 1], .bl 3, .co [1, 1, 1, 0, 1, 0, 0, 1, 0, 0, 1, 1, 0, 0, 1, 1], .le 3, .bl 2, .le 2, .bl 1, .co [1, 1, 1, 0, 1, 0, 0, 1, 1], .le 1, .bl 0, .le 0, .co [1, 1, 1, 1]] [(0, .slice A0_0 l_.length c0_0), (3, .int .i64 (IntKind.i64.wrap ((IntKind.i64.wrap (sum1 + (x_1.Name.length : Int))) + (x_1.Value.length : Int)))), (4, .int .i64 (i : Int)), (5, .int .i64 (k : Int)), (82, .slice A0_0 l_.length c0_0), (83, .int .i64 (i : Int))] (by kernel_rfl) ?_
                    refine st (idxS (some 84) 22 44 11 A0_0 ad401 l_.length c0_0 .i64 (i : Int) ea401 (by kernel_rfl) (by kernel_rfl) (by omega) (by have := (List.getElem?_eq_some_iff.1 h_x_).1; omega) ?_)
                    refine seg 1 [.op [1, 1, 1, 0, 1, 0, 0, 1, 0, 0, 1, 1, 0, 0, 1, 0, 0, 1, 0] 4, .co [1, 1, 1, 0, 1, 0, 0, 1, 0, 0, 1, 1, 0, 0, 1, 0, 0, 1, 1], .bl 3, .co [1, 1, 1, 0, 1, 0, 0, 1, 0, 0, 1, 1, 0, 0, 1, 1], .le 3, .bl 2, .le 2, .bl 1, .co [1, 1, 1, 0, 1, 0, 0, 1, 1], .le 1, .bl 0, .le 0, .co [1, 1, 1, 1]] [(0, .slice A0_0 l_.length c0_0), (3, .int .i64 (IntKind.i64.wrap ((IntKind.i64.wrap (sum1 + (x_1.Name.length : Int))) + (x_1.Value.length : Int)))), (4, .int .i64 (i : Int)), (5, .int .i64 (k : Int)), (85, .pointer (some ((ad401.add (i * 11)).add 10)))] (by kernel_rfl) ?_
                    refine st (ldR (some 86) 42 ((ad401.add (i * 11)).add 10) (.slice A401_10 x_.Attrs.length c401_10) (by kernel_rfl) (by kernel_rfl) (H.cellI (hc401 10 _ rfl)) ?_)
                    refine seg 1 [.op [1, 1, 1, 0, 1, 0, 0, 1, 0, 0, 1, 1, 0, 0, 1, 0, 0, 1, 0] 6, .co [1, 1, 1, 0, 1, 0, 0, 1, 0, 0, 1, 1, 0, 0, 1, 0, 0, 1, 1], .bl 3, .co [1, 1, 1, 0, 1, 0, 0, 1, 0, 0, 1, 1, 0, 0, 1, 1], .le 3, .bl 2, .le 2, .bl 1, .co [1, 1, 1, 0, 1, 0, 0, 1, 1], .le 1, .bl 0, .le 0, .co [1, 1, 1, 1]] [(0, .slice A0_0 l_.length c0_0), (3, .int .i64 (IntKind.i64.wrap ((IntKind.i64.wrap (sum1 + (x_1.Name.length : Int))) + (x_1.Value.length : Int)))), (4, .int .i64 (i : Int)), (5, .int .i64 (k : Int)), (86, .slice A401_10 x_.Attrs.length c401_10), (87, .int .i64 (k : Int))] (by kernel_rfl) ?_
                    refine st (idxS (some 88) 42 46 2 A401_10 ad449 x_.Attrs.length c401_10 .i64 (k : Int) ea449 (by kernel_rfl) (by kernel_rfl) (by omega) (by have := (List.getElem?_eq_some_iff.1 h_x_1).1; omega) ?_)
                    refine seg 1 [.op [1, 1, 1, 0, 1, 0, 0, 1, 0, 0, 1, 1, 0, 0, 1, 0, 0, 1, 0] 8, .co [1, 1, 1, 0, 1, 0, 0, 1, 0, 0, 1, 1, 0, 0, 1, 0, 0, 1, 1], .bl 3, .co [1, 1, 1, 0, 1, 0, 0, 1, 0, 0, 1, 1, 0, 0, 1, 1], .le 3, .bl 2, .le 2, .bl 1, .co [1, 1, 1, 0, 1, 0, 0, 1, 1], .le 1, .bl 0, .le 0, .co [1, 1, 1, 1]] [(0, .slice A0_0 l_.length c0_0), (3, .int .i64 (IntKind.i64.wrap ((IntKind.i64.wrap (sum1 + (x_1.Name.length : Int))) + (x_1.Value.length : Int)))), (4, .int .i64 (i : Int)), (5, .int .i64 (k : Int)), (89, .pointer (some (ad449.add (k * 2))))] (by kernel_rfl) ?_
                    refine st (ldR (some 90) 9 (ad449.add (k * 2)) (.string ⟨x_1.Name.toArray⟩) (by kernel_rfl) (by kernel_rfl) (H.cellI (mc0 (hc449 0 _ rfl))) ?_)
                    refine seg 3 [.op [1, 1, 1, 0, 1, 0, 0, 1, 0, 0, 1, 1, 0, 0, 1, 0, 0, 1, 0] 12, .co [1, 1, 1, 0, 1, 0, 0, 1, 0, 0, 1, 1, 0, 0, 1, 0, 0, 1, 1], .bl 3, .co [1, 1, 1, 0, 1, 0, 0, 1, 0, 0, 1, 1, 0, 0, 1, 1], .le 3, .bl 2, .le 2, .bl 1, .co [1, 1, 1, 0, 1, 0, 0, 1, 1], .le 1, .bl 0, .le 0, .co [1, 1, 1, 1]] [(0, .slice A0_0 l_.length c0_0), (3, .int .i64 (IntKind.i64.wrap ((IntKind.i64.wrap (sum1 + (x_1.Name.length : Int))) + (x_1.Value.length : Int)))), (4, .int .i64 (i : Int)), (5, .int .i64 (k : Int)), (93, .bool (decide ((x_1.Name.length : Int) > 300)))] (by kernel_rfl) ?_
                    rcases condT hb_443 with ⟨hb450, hb_443⟩ | ⟨hb450, hb_443⟩
                    · rw [hb450]
                      have p450 := of_decide_eq_true hb450
                      refine seg 22 [.co [1, 1, 1, 0, 1, 0, 0, 1, 0, 0, 1, 1, 0, 0, 1, 0, 0, 1, 1, 0, 1], .bl 3, .co [1, 1, 1, 0, 1, 0, 0, 1, 0, 0, 1, 1, 0, 0, 1, 1], .le 3, .bl 2, .le 2, .bl 1, .co [1, 1, 1, 0, 1, 0, 0, 1, 1], .le 1, .bl 0, .le 0, .co [1, 1, 1, 1]] [(2, .bool true)] (by kernel_rfl) ?_
                      refine retR [2] [.bool true] (by kernel_rfl) (by kernel_rfl) (by kernel_rfl) ?_
                      have hret := (hfr328 _ (hfin397 _ (hfr427 _ (hfin443 _ (Option.some.inj hb_443).symm).symm).symm).symm)
                      subst hret
                      exact ⟨_, rfl, rfl, H.scalar⟩
                    · rw [hb450]
                      have p450 := of_decide_eq_false hb450
                      refine seg 2 [.op [1, 1, 1, 0, 1, 0, 0, 1, 0, 0, 1, 1, 0, 0, 1, 0, 0, 1, 0] 14, .co [1, 1, 1, 0, 1, 0, 0, 1, 0, 0, 1, 1, 0, 0, 1, 0, 0, 1, 1], .bl 3, .co [1, 1, 1, 0, 1, 0, 0, 1, 0, 0, 1, 1, 0, 0, 1, 1], .le 3, .bl 2, .le 2, .bl 1, .co [1, 1, 1, 0, 1, 0, 0, 1, 1], .le 1, .bl 0, .le 0, .co [1, 1, 1, 1]] [(0, .slice A0_0 l_.length c0_0), (3, .int .i64 (IntKind.i64.wrap ((IntKind.i64.wrap (sum1 + (x_1.Name.length : Int))) + (x_1.Value.length : Int)))), (4, .int .i64 (i : Int)), (5, .int .i64 (k : Int)), (93, .bool false), (94, .slice A0_0 l_.length c0_0), (95, .int .i64 (i : Int))] (by kernel_rfl) ?_
                      refine st (idxS (some 96) 22 44 11 A0_0 ad401 l_.length c0_0 .i64 (i : Int) ea401 (by kernel_rfl) (by kernel_rfl) (by omega) (by have := (List.getElem?_eq_some_iff.1 h_x_).1; omega) ?_)
                      refine seg 1 [.op [1, 1, 1, 0, 1, 0, 0, 1, 0, 0, 1, 1, 0, 0, 1, 0, 0, 1, 0] 16, .co [1, 1, 1, 0, 1, 0, 0, 1, 0, 0, 1, 1, 0, 0, 1, 0, 0, 1, 1], .bl 3, .co [1, 1, 1, 0, 1, 0, 0, 1, 0, 0, 1, 1, 0, 0, 1, 1], .le 3, .bl 2, .le 2, .bl 1, .co [1, 1, 1, 0, 1, 0, 0, 1, 1], .le 1, .bl 0, .le 0, .co [1, 1, 1, 1]] [(0, .slice A0_0 l_.length c0_0), (3, .int .i64 (IntKind.i64.wrap ((IntKind.i64.wrap (sum1 + (x_1.Name.length : Int))) + (x_1.Value.length : Int)))), (4, .int .i64 (i : Int)), (5, .int .i64 (k : Int)), (93, .bool false), (97, .pointer (some ((ad401.add (i * 11)).add 10)))] (by kernel_rfl) ?_
                      refine st (ldR (some 98) 42 ((ad401.add (i * 11)).add 10) (.slice A401_10 x_.Attrs.length c401_10) (by kernel_rfl) (by kernel_rfl) (H.cellI (hc401 10 _ rfl)) ?_)
                      refine seg 1 [.op [1, 1, 1, 0, 1, 0, 0, 1, 0, 0, 1, 1, 0, 0, 1, 0, 0, 1, 0] 18, .co [1, 1, 1, 0, 1, 0, 0, 1, 0, 0, 1, 1, 0, 0, 1, 0, 0, 1, 1], .bl 3, .co [1, 1, 1, 0, 1, 0, 0, 1, 0, 0, 1, 1, 0, 0, 1, 1], .le 3, .bl 2, .le 2, .bl 1, .co [1, 1, 1, 0, 1, 0, 0, 1, 1], .le 1, .bl 0, .le 0, .co [1, 1, 1, 1]] [(0, .slice A0_0 l_.length c0_0), (3, .int .i64 (IntKind.i64.wrap ((IntKind.i64.wrap (sum1 + (x_1.Name.length : Int))) + (x_1.Value.length : Int)))), (4, .int .i64 (i : Int)), (5, .int .i64 (k : Int)), (93, .bool false), (98, .slice A401_10 x_.Attrs.length c401_10), (99, .int .i64 (k : Int))] (by kernel_rfl) ?_
                      refine st (idxS (some 100) 42 46 2 A401_10 ad449 x_.Attrs.length c401_10 .i64 (k : Int) ea449 (by kernel_rfl) (by kernel_rfl) (by omega) (by have := (List.getElem?_eq_some_iff.1 h_x_1).1; omega) ?_)
                      refine seg 1 [.op [1, 1, 1, 0, 1, 0, 0, 1, 0, 0, 1, 1, 0, 0, 1, 0, 0, 1, 0] 20, .co [1, 1, 1, 0, 1, 0, 0, 1, 0, 0, 1, 1, 0, 0, 1, 0, 0, 1, 1], .bl 3, .co [1, 1, 1, 0, 1, 0, 0, 1, 0, 0, 1, 1, 0, 0, 1, 1], .le 3, .bl 2, .le 2, .bl 1, .co [1, 1, 1, 0, 1, 0, 0, 1, 1], .le 1, .bl 0, .le 0, .co [1, 1, 1, 1]] [(0, .slice A0_0 l_.length c0_0), (3, .int .i64 (IntKind.i64.wrap ((IntKind.i64.wrap (sum1 + (x_1.Name.length : Int))) + (x_1.Value.length : Int)))), (4, .int .i64 (i : Int)), (5, .int .i64 (k : Int)), (93, .bool false), (101, .pointer (some ((ad449.add (k * 2)).add 1)))] (by kernel_rfl) ?_
                      refine st (ldR (some 102) 25 ((ad449.add (k * 2)).add 1) (.slice A449_1 x_1.Value.length c449_1) (by kernel_rfl) (by kernel_rfl) (H.cellI (hc449 1 _ rfl)) ?_)
                      refine seg 4 [.op [1, 1, 1, 0, 1, 0, 0, 1, 0, 0, 1, 1, 0, 0, 1, 0, 0, 1, 0] 25, .co [1, 1, 1, 0, 1, 0, 0, 1, 0, 0, 1, 1, 0, 0, 1, 0, 0, 1, 1], .bl 3, .co [1, 1, 1, 0, 1, 0, 0, 1, 0, 0, 1, 1, 0, 0, 1, 1], .le 3, .bl 2, .le 2, .bl 1, .co [1, 1, 1, 0, 1, 0, 0, 1, 1], .le 1, .bl 0, .le 0, .co [1, 1, 1, 1]] [(0, .slice A0_0 l_.length c0_0), (3, .int .i64 (IntKind.i64.wrap ((IntKind.i64.wrap (sum1 + (x_1.Name.length : Int))) + (x_1.Value.length : Int)))), (4, .int .i64 (i : Int)), (5, .int .i64 (k : Int)), (106, .bool (decide ((x_1.Value.length : Int) > 5000)))] (by kernel_rfl) ?_
                      rcases condT hb_443 with ⟨hb451, hb_443⟩ | ⟨hb451, hb_443⟩
                      · rw [hb451]
                        have p451 := of_decide_eq_true hb451
                        refine seg 9 [.co [1, 1, 1, 0, 1, 0, 0, 1, 0, 0, 1, 1, 0, 0, 1, 0, 0, 1, 1, 0, 1], .bl 3, .co [1, 1, 1, 0, 1, 0, 0, 1, 0, 0, 1, 1, 0, 0, 1, 1], .le 3, .bl 2, .le 2, .bl 1, .co [1, 1, 1, 0, 1, 0, 0, 1, 1], .le 1, .bl 0, .le 0, .co [1, 1, 1, 1]] [(2, .bool true)] (by kernel_rfl) ?_
                        refine retR [2] [.bool true] (by kernel_rfl) (by kernel_rfl) (by kernel_rfl) ?_
                        have hret := (hfr328 _ (hfin397 _ (hfr427 _ (hfin443 _ (Option.some.inj hb_443).symm).symm).symm).symm)
                        subst hret
                        exact ⟨_, rfl, rfl, H.scalar⟩
                      · rw [hb451]
                        have p451 := of_decide_eq_false hb451
                        refine seg 4 [.co [1, 1, 1, 0, 1, 0, 0, 1, 0, 0, 1, 1, 0, 0, 1, 0, 0, 1, 1], .bl 3, .co [1, 1, 1, 0, 1, 0, 0, 1, 0, 0, 1, 1, 0, 0, 1, 1], .le 3, .bl 2, .le 2, .bl 1, .co [1, 1, 1, 0, 1, 0, 0, 1, 1], .le 1, .bl 0, .le 0, .co [1, 1, 1, 1]] [(0, .slice A0_0 l_.length c0_0), (3, .int .i64 (IntKind.i64.wrap ((IntKind.i64.wrap (sum1 + (x_1.Name.length : Int))) + (x_1.Value.length : Int)))), (4, .int .i64 (i : Int)), (5, .int .i64 (k : Int)), (109, .bool (decide ((IntKind.i64.wrap ((IntKind.i64.wrap (sum1 + (x_1.Name.length : Int))) + (x_1.Value.length : Int))) > 1000000)))] (by kernel_rfl) ?_
                        rcases condT hb_443 with ⟨hb452, hb_443⟩ | ⟨hb452, hb_443⟩
                        · rw [hb452]
                          have p452 := of_decide_eq_true hb452
                          refine seg 5 [.co [1, 1, 1, 0, 1, 0, 0, 1, 0, 0, 1, 1, 0, 0, 1, 0, 0, 1, 1, 0, 1], .bl 3, .co [1, 1, 1, 0, 1, 0, 0, 1, 0, 0, 1, 1, 0, 0, 1, 1], .le 3, .bl 2, .le 2, .bl 1, .co [1, 1, 1, 0, 1, 0, 0, 1, 1], .le 1, .bl 0, .le 0, .co [1, 1, 1, 1]] [(2, .bool true)] (by kernel_rfl) ?_
                          refine retR [2] [.bool true] (by kernel_rfl) (by kernel_rfl) (by kernel_rfl) ?_
                          have hret := (hfr328 _ (hfin397 _ (hfr427 _ (hfin443 _ (Option.some.inj hb_443).symm).symm).symm).symm)
                          subst hret
                          exact ⟨_, rfl, rfl, H.scalar⟩
                        · rw [hb452]
                          have p452 := of_decide_eq_false hb452
                          refine seg 8 [.le 3, .bl 2, .le 2, .bl 1, .co [1, 1, 1, 0, 1, 0, 0, 1, 1], .le 1, .bl 0, .le 0, .co [1, 1, 1, 1]] [(0, .slice A0_0 l_.length c0_0), (3, .int .i64 (IntKind.i64.wrap ((IntKind.i64.wrap (sum1 + (x_1.Name.length : Int))) + (x_1.Value.length : Int)))), (4, .int .i64 (i : Int)), (5, .int .i64 (IntKind.i64.wrap ((k : Int) + 1)))] (by kernel_rfl) ?_
                          have := hs401_10.bound
                          rw [show IntKind.i64.wrap ((k : Int) + 1) = ((k : Int) + 1) from w64 (by omega)]
                          refine leR (nk443, (IntKind.i64.wrap ((IntKind.i64.wrap (sum1 + (x_1.Name.length : Int))) + (x_1.Value.length : Int))), (k + 1)) (Nat.lt_succ_self _) ⟨hnx443 _ (Option.some.inj hb_443).symm, H⟩ (by kernel_rfl)
                  · rw [hb445]
                    have p445 := of_decide_eq_false hb445
                    refine seg 2 [.le 2, .bl 1, .co [1, 1, 1, 0, 1, 0, 0, 1, 1], .le 1, .bl 0, .le 0, .co [1, 1, 1, 1]] [(0, .slice A0_0 l_.length c0_0), (3, .int .i64 sum1), (4, .int .i64 (i : Int))] (by kernel_rfl) ?_
                    refine leR_up (k' := []) (by rfl) ?_
                    refine leJ (sum1) ⟨(hfin443 _ (Option.some.inj hb_443).symm).symm, H⟩ (by kernel_rfl)
                rintro sum1 wj427 ⟨hy427, H⟩
                have hb_397 := hfl427 _ hy427
                refine seg 6 [.le 1, .bl 0, .le 0, .co [1, 1, 1, 1]] [(0, .slice A0_0 l_.length c0_0), (3, .int .i64 sum1), (4, .int .i64 (IntKind.i64.wrap ((i : Int) + 1)))] (by kernel_rfl) ?_
                have := s0_0.bound
                rw [show IntKind.i64.wrap ((i : Int) + 1) = ((i : Int) + 1) from w64 (by omega)]
                refine leR (nk397, sum1, (i + 1)) (Nat.lt_succ_self _) ⟨hnx397 _ (Option.some.inj hb_397).symm, H⟩ (by kernel_rfl)
      · rw [hb399]
        have p399 := of_decide_eq_false hb399
        refine seg 2 [.le 0, .co [1, 1, 1, 1]] [] (by kernel_rfl) ?_
        refine leR_up (k' := []) (by rfl) ?_
        refine leJ () ⟨(hfin397 _ (Option.some.inj hb_397).symm).symm, H⟩ (by kernel_rfl)
    rintro _ wj328 ⟨hy328, H⟩
    have hf := hfl328 _ hy328
    try dsimp only at hf
    refine seg 4 [.co [1, 1, 1, 1, 1]] [(2, .bool false)] (by kernel_rfl) ?_
    refine retR [2] [.bool false] (by kernel_rfl) (by kernel_rfl) (by kernel_rfl) ?_
    have hret := (Option.some.inj hf)
    subst hret
    exact ⟨_, rfl, rfl, H.scalar⟩
theorem manifest_between_c {m : Mem} {w : World} (hm : Has m w) (n_ : Int) (low : Int) (high : Int) :
    Calls Tryd.prog 31 #[.int .i64 n_, .int .i64 low, .int .i64 high] w fun e w' => ∃ v, e = .returned v ∧ v = .bool (manifest_between n_ low high) ∧ Ex w w' := by
  generalize hf : manifest_between n_ low high = r
  unfold manifest_between at hf
  have H := St.start0 hm
  refine callsR Tryd.func31 (by kernel_rfl) (by kernel_rfl) ?_
  refine seg 10 [.op [1, 0] 4, .co [1, 1]] [(0, .int .i64 n_), (2, .int .i64 high), (10, .bool (decide (n_ ≥ low)))] (by kernel_rfl) ?_
  rcases condT hf with ⟨hb2, hf⟩ | ⟨hb2, hf⟩
  · rw [hb2]
    have p2 := of_decide_eq_true hb2
    refine seg 6 [.co [1, 1]] [(6, .bool (decide (n_ ≤ high)))] (by kernel_rfl) ?_
    refine retR [6] [.bool (decide (n_ ≤ high))] (by kernel_rfl) (by kernel_rfl) (by kernel_rfl) ?_
    obtain rfl : (decide (n_ ≤ high)) = r := hf
    exact ⟨_, rfl, rfl, H.scalar⟩
  · rw [hb2]
    have p2 := of_decide_eq_false hb2
    refine seg 6 [.co [1, 1]] [(6, .bool false)] (by kernel_rfl) ?_
    refine retR [6] [.bool false] (by kernel_rfl) (by kernel_rfl) (by kernel_rfl) ?_
    have hret := hf
    subst hret
    exact ⟨_, rfl, rfl, H.scalar⟩
theorem manifest_right_c {m : Mem} {w : World} (hm : Has m w) (x_ : TApiEntry) (l0_0 : x_.Path.length ≤ 9223372036854775807) (A0_7 : Option Addr) (c0_7 : Nat) (s0_7 : SlI rU8 m A0_7 c0_7 x_.Data) (l0_8 : x_.Target.length ≤ 9223372036854775807) (A0_10 : Option Addr) (c0_10 : Nat) (s0_10 : SlI rApiAttr m A0_10 c0_10 x_.Attrs) :
    Calls Tryd.prog 17 #[.agg #[.string ⟨x_.Path.toArray⟩, .int .i64 x_.Kind, .int .i64 x_.Mode, .int .i64 x_.Uid, .int .i64 x_.Gid, .int .i64 x_.Time, .int .i64 x_.Size, .slice A0_7 x_.Data.length c0_7, .string ⟨x_.Target.toArray⟩, .int .i64 x_.Dev, .slice A0_10 x_.Attrs.length c0_10]] w fun e w' => ∃ v, e = .returned v ∧ v = .bool (manifest_right x_) ∧ Ex w w' := by
  generalize hf : manifest_right x_ = r
  unfold manifest_right at hf
  have H := St.start0 hm
  refine callsR Tryd.func17 (by kernel_rfl) (by kernel_rfl) ?_
  refine seg 2 [.op [0] 0, .co [1]] [(0, .agg #[.string ⟨x_.Path.toArray⟩, .int .i64 x_.Kind, .int .i64 x_.Mode, .int .i64 x_.Uid, .int .i64 x_.Gid, .int .i64 x_.Time, .int .i64 x_.Size, .slice A0_7 x_.Data.length c0_7, .string ⟨x_.Target.toArray⟩, .int .i64 x_.Dev, .slice A0_10 x_.Attrs.length c0_10])] (by kernel_rfl) ?_
  refine st (newS (some 1) (fun g => .pointer (some ⟨g, 0, none⟩)) [.string ⟨x_.Path.toArray⟩, .int .i64 x_.Kind, .int .i64 x_.Mode, .int .i64 x_.Uid, .int .i64 x_.Gid, .int .i64 x_.Time, .int .i64 x_.Size, .slice A0_7 x_.Data.length c0_7, .string ⟨x_.Target.toArray⟩, .int .i64 x_.Dev, .slice A0_10 x_.Attrs.length c0_10] 44 H (by kernel_rfl) ?_)
  intro g1 w1 H
  refine seg 6 [.op [1, 0, 0] 1, .co [1, 0, 1], .co [1, 1]] [(1, .pointer (some (⟨g1, 0, none⟩))), (4, .pointer (some (⟨g1, 1, none⟩)))] (by kernel_rfl) ?_
  refine st (ldR (some 5) 3 (⟨g1, 1, none⟩) (.int .i64 x_.Kind) (by kernel_rfl) (by kernel_rfl) (H.cellB 0 rfl rfl) ?_)
  refine st (callR (some 6) 31 #[.int .i64 x_.Kind, .int .i64 1, .int .i64 6] Tryd.call31 (manifest_between_c H.has x_.Kind 1 6) (by kernel_rfl) ?_)
  rintro _ w2 ⟨rfl, hx2⟩
  replace H := H.ex hx2
  refine seg 2 [.co [1, 0, 1], .co [1, 1]] [(1, .pointer (some (⟨g1, 0, none⟩))), (7, .bool (!(manifest_between x_.Kind 1 6)))] (by kernel_rfl) ?_
  rcases condT hf with ⟨hb4, hf⟩ | ⟨hb4, hf⟩
  · rw [hb4]
    refine seg 6 [.op [1, 1, 0, 0] 1, .co [1, 1, 0, 1], .co [1, 1, 1]] [(1, .pointer (some (⟨g1, 0, none⟩))), (8, .pointer (some (⟨g1, 1, none⟩)))] (by kernel_rfl) ?_
    refine st (ldR (some 9) 3 (⟨g1, 1, none⟩) (.int .i64 x_.Kind) (by kernel_rfl) (by kernel_rfl) (H.cellB 0 rfl rfl) ?_)
    refine seg 2 [.co [1, 1, 0, 1], .co [1, 1, 1]] [(1, .pointer (some (⟨g1, 0, none⟩))), (10, .bool (x_.Kind == 6))] (by kernel_rfl) ?_
    rcases condT hf with ⟨hb6, hf⟩ | ⟨hb6, hf⟩
    · rw [hb6]
      refine seg 5 [.co [1, 1, 0, 1, 0, 1], .co [1, 1, 1]] [(2, .bool true)] (by kernel_rfl) ?_
      refine retR [2] [.bool true] (by kernel_rfl) (by kernel_rfl) (by kernel_rfl) ?_
      have hret := hf
      subst hret
      exact ⟨_, rfl, rfl, H.scalar⟩
    · rw [hb6]
      refine seg 3 [.co [1, 1, 1, 0], .co [1, 1, 1, 1]] [(1, .pointer (some (⟨g1, 0, none⟩)))] (by kernel_rfl) ?_
      obtain ⟨y61, hp61, hf⟩ := ltE hf
      refine joinR 0 (fun (x : Bool) => [(1, .pointer (some (⟨g1, 0, none⟩))), (3, .bool x)]) (fun (x : Bool) (wj61 : World) => y61 = x ∧ St w noF m m [blkI g1 [.string ⟨x_.Path.toArray⟩, .int .i64 x_.Kind, .int .i64 x_.Mode, .int .i64 x_.Uid, .int .i64 x_.Gid, .int .i64 x_.Time, .int .i64 x_.Size, .slice A0_7 x_.Data.length c0_7, .string ⟨x_.Target.toArray⟩, .int .i64 x_.Dev, .slice A0_10 x_.Attrs.length c0_10] 44] wj61) (by kernel_rfl) ?_ ?_
      · refine seg 2 [.op [1, 1, 1, 0] 1, .le 0, .co [1, 1, 1, 1]] [(1, .pointer (some (⟨g1, 0, none⟩))), (11, .pointer (some (⟨g1, 2, none⟩)))] (by kernel_rfl) ?_
        refine st (ldR (some 12) 3 (⟨g1, 2, none⟩) (.int .i64 x_.Mode) (by kernel_rfl) (by kernel_rfl) (H.cellB 0 rfl rfl) ?_)
        refine st (callR (some 13) 31 #[.int .i64 x_.Mode, .int .i64 0, .int .i64 1099511627776] Tryd.call31 (manifest_between_c H.has x_.Mode 0 1099511627776) (by kernel_rfl) ?_)
        rintro _ w63 ⟨rfl, hx63⟩
        replace H := H.ex hx63
        refine seg 1 [.op [1, 1, 1, 0] 4, .le 0, .co [1, 1, 1, 1]] [(1, .pointer (some (⟨g1, 0, none⟩))), (14, .bool (manifest_between x_.Mode 0 1099511627776))] (by kernel_rfl) ?_
        rcases condT hp61 with ⟨hb65, hp61⟩ | ⟨hb65, hp61⟩
        · rw [hb65]
          refine seg 1 [.op [1, 1, 1, 0] 5, .le 0, .co [1, 1, 1, 1]] [(1, .pointer (some (⟨g1, 0, none⟩))), (14, .bool true), (15, .pointer (some (⟨g1, 3, none⟩)))] (by kernel_rfl) ?_
          replace H : St w noF m m [blkI g1 [.string ⟨x_.Path.toArray⟩, .int .i64 x_.Kind, .int .i64 x_.Mode, .int .i64 x_.Uid, .int .i64 x_.Gid, .int .i64 x_.Time, .int .i64 x_.Size, .slice A0_7 x_.Data.length c0_7, .string ⟨x_.Target.toArray⟩, .int .i64 x_.Dev, .slice A0_10 x_.Attrs.length c0_10] 44] w63 := H
          refine st (ldR (some 16) 3 (⟨g1, 3, none⟩) (.int .i64 x_.Uid) (by kernel_rfl) (by kernel_rfl) (H.cellB 0 rfl rfl) ?_)
          refine st (callR (some 17) 31 #[.int .i64 x_.Uid, .int .i64 0, .int .i64 1099511627776] Tryd.call31 (manifest_between_c H.has x_.Uid 0 1099511627776) (by kernel_rfl) ?_)
          rintro _ w66 ⟨rfl, hx66⟩
          replace H := H.ex hx66
          refine seg 2 [.op [1, 1, 1, 0] 9, .le 0, .co [1, 1, 1, 1]] [(1, .pointer (some (⟨g1, 0, none⟩))), (19, .bool (manifest_between x_.Uid 0 1099511627776))] (by kernel_rfl) ?_
          rcases condT hp61 with ⟨hb67, hp61⟩ | ⟨hb67, hp61⟩
          · rw [hb67]
            refine seg 1 [.op [1, 1, 1, 0] 10, .le 0, .co [1, 1, 1, 1]] [(1, .pointer (some (⟨g1, 0, none⟩))), (19, .bool true), (20, .pointer (some (⟨g1, 4, none⟩)))] (by kernel_rfl) ?_
            refine st (ldR (some 21) 3 (⟨g1, 4, none⟩) (.int .i64 x_.Gid) (by kernel_rfl) (by kernel_rfl) (H.cellB 0 rfl rfl) ?_)
            refine st (callR (some 22) 31 #[.int .i64 x_.Gid, .int .i64 0, .int .i64 1099511627776] Tryd.call31 (manifest_between_c H.has x_.Gid 0 1099511627776) (by kernel_rfl) ?_)
            rintro _ w68 ⟨rfl, hx68⟩
            replace H := H.ex hx68
            refine seg 2 [.op [1, 1, 1, 0] 14, .le 0, .co [1, 1, 1, 1]] [(1, .pointer (some (⟨g1, 0, none⟩))), (24, .bool (manifest_between x_.Gid 0 1099511627776))] (by kernel_rfl) ?_
            rcases condT hp61 with ⟨hb69, hp61⟩ | ⟨hb69, hp61⟩
            · rw [hb69]
              refine seg 1 [.op [1, 1, 1, 0] 15, .le 0, .co [1, 1, 1, 1]] [(1, .pointer (some (⟨g1, 0, none⟩))), (24, .bool true), (25, .pointer (some (⟨g1, 5, none⟩)))] (by kernel_rfl) ?_
              refine st (ldR (some 26) 3 (⟨g1, 5, none⟩) (.int .i64 x_.Time) (by kernel_rfl) (by kernel_rfl) (H.cellB 0 rfl rfl) ?_)
              refine st (callR (some 27) 31 #[.int .i64 x_.Time, .int .i64 0, .int .i64 1099511627776] Tryd.call31 (manifest_between_c H.has x_.Time 0 1099511627776) (by kernel_rfl) ?_)
              rintro _ w70 ⟨rfl, hx70⟩
              replace H := H.ex hx70
              refine seg 3 [.le 0, .co [1, 1, 1, 1]] [(1, .pointer (some (⟨g1, 0, none⟩))), (3, .bool (manifest_between x_.Time 0 1099511627776))] (by kernel_rfl) ?_
              refine leJ ((manifest_between x_.Time 0 1099511627776)) ⟨hp61.symm, H⟩ (by kernel_rfl)
            · rw [hb69]
              refine seg 6 [.le 0, .co [1, 1, 1, 1]] [(1, .pointer (some (⟨g1, 0, none⟩))), (3, .bool false)] (by kernel_rfl) ?_
              refine leJ (false) ⟨hp61.symm, H⟩ (by kernel_rfl)
          · rw [hb67]
            refine seg 11 [.le 0, .co [1, 1, 1, 1]] [(1, .pointer (some (⟨g1, 0, none⟩))), (3, .bool false)] (by kernel_rfl) ?_
            refine leJ (false) ⟨hp61.symm, H⟩ (by kernel_rfl)
        · rw [hb65]
          refine seg 16 [.le 0, .co [1, 1, 1, 1]] [(1, .pointer (some (⟨g1, 0, none⟩))), (3, .bool false)] (by kernel_rfl) ?_
          refine leJ (false) ⟨hp61.symm, H⟩ (by kernel_rfl)
      rintro ok wj61 ⟨hy61, H⟩
      rw [hy61] at hf
      refine seg 4 [.op [1, 1, 1, 1, 0, 0] 1, .co [1, 1, 1, 1, 0, 1], .co [1, 1, 1, 1, 1]] [(1, .pointer (some (⟨g1, 0, none⟩))), (3, .bool ok), (29, .pointer (some (⟨g1, 1, none⟩)))] (by kernel_rfl) ?_
      refine st (ldR (some 30) 3 (⟨g1, 1, none⟩) (.int .i64 x_.Kind) (by kernel_rfl) (by kernel_rfl) (H.cellB 0 rfl rfl) ?_)
      refine seg 7 [.co [1, 1, 1, 1, 0, 1, 0, 1], .bl 0, .co [1, 1, 1, 1, 1]] [(1, .pointer (some (⟨g1, 0, none⟩))), (3, .bool ok), (30, .int .i64 x_.Kind), (31, .bool (x_.Kind == 1))] (by kernel_rfl) ?_
      rcases condT hf with ⟨hb92, hf⟩ | ⟨hb92, hf⟩
      · rw [hb92]
        refine seg 5 [.op [1, 1, 1, 1, 0, 1, 0, 1, 0, 0] 2, .co [1, 1, 1, 1, 0, 1, 0, 1, 0, 1], .bl 0, .co [1, 1, 1, 1, 1]] [(1, .pointer (some (⟨g1, 0, none⟩))), (34, .bool ok)] (by kernel_rfl) ?_
        rcases condT hf with ⟨hb93, hf⟩ | ⟨hb93, hf⟩
        · rw [hb93]
          refine seg 1 [.op [1, 1, 1, 1, 0, 1, 0, 1, 0, 0] 3, .co [1, 1, 1, 1, 0, 1, 0, 1, 0, 1], .bl 0, .co [1, 1, 1, 1, 1]] [(34, .bool true), (35, .pointer (some (⟨g1, 6, none⟩)))] (by kernel_rfl) ?_
          refine st (ldR (some 36) 3 (⟨g1, 6, none⟩) (.int .i64 x_.Size) (by kernel_rfl) (by kernel_rfl) (H.cellB 0 rfl rfl) ?_)
          refine st (callR (some 37) 31 #[.int .i64 x_.Size, .int .i64 0, .int .i64 1099511627776] Tryd.call31 (manifest_between_c H.has x_.Size 0 1099511627776) (by kernel_rfl) ?_)
          rintro _ w94 ⟨rfl, hx94⟩
          replace H := H.ex hx94
          refine seg 3 [.co [1, 1, 1, 1, 0, 1, 0, 1, 0, 1], .bl 0, .co [1, 1, 1, 1, 1]] [(2, .bool (manifest_between x_.Size 0 1099511627776))] (by kernel_rfl) ?_
          refine retR [2] [.bool (manifest_between x_.Size 0 1099511627776)] (by kernel_rfl) (by kernel_rfl) (by kernel_rfl) ?_
          obtain rfl : (manifest_between x_.Size 0 1099511627776) = r := hf
          exact ⟨_, rfl, rfl, H.scalar⟩
        · rw [hb93]
          refine seg 6 [.co [1, 1, 1, 1, 0, 1, 0, 1, 0, 1], .bl 0, .co [1, 1, 1, 1, 1]] [(2, .bool false)] (by kernel_rfl) ?_
          refine retR [2] [.bool false] (by kernel_rfl) (by kernel_rfl) (by kernel_rfl) ?_
          have hret := hf
          subst hret
          exact ⟨_, rfl, rfl, H.scalar⟩
      · rw [hb92]
        refine seg 7 [.co [1, 1, 1, 1, 0, 1, 0, 1, 1, 0, 1], .co [1, 1, 1, 1, 0, 1, 0, 1, 1, 1], .bl 0, .co [1, 1, 1, 1, 1]] [(1, .pointer (some (⟨g1, 0, none⟩))), (3, .bool ok), (30, .int .i64 x_.Kind), (39, .bool (x_.Kind == 4))] (by kernel_rfl) ?_
        rcases condT hf with ⟨hb95, hf⟩ | ⟨hb95, hf⟩
        · rw [hb95]
          refine seg 7 [.op [1, 1, 1, 1, 0, 1, 0, 1, 1, 1, 0, 0] 2, .co [1, 1, 1, 1, 0, 1, 0, 1, 1, 1, 0, 1], .bl 0, .co [1, 1, 1, 1, 1]] [(1, .pointer (some (⟨g1, 0, none⟩))), (43, .bool ok)] (by kernel_rfl) ?_
          rcases condT hf with ⟨hb96, hf⟩ | ⟨hb96, hf⟩
          · rw [hb96]
            refine seg 1 [.op [1, 1, 1, 1, 0, 1, 0, 1, 1, 1, 0, 0] 3, .co [1, 1, 1, 1, 0, 1, 0, 1, 1, 1, 0, 1], .bl 0, .co [1, 1, 1, 1, 1]] [(43, .bool true), (44, .pointer (some (⟨g1, 9, none⟩)))] (by kernel_rfl) ?_
            refine st (ldR (some 45) 3 (⟨g1, 9, none⟩) (.int .i64 x_.Dev) (by kernel_rfl) (by kernel_rfl) (H.cellB 0 rfl rfl) ?_)
            refine st (callR (some 46) 31 #[.int .i64 x_.Dev, .int .i64 0, .int .i64 1099511627776] Tryd.call31 (manifest_between_c H.has x_.Dev 0 1099511627776) (by kernel_rfl) ?_)
            rintro _ w97 ⟨rfl, hx97⟩
            replace H := H.ex hx97
            refine seg 3 [.co [1, 1, 1, 1, 0, 1, 0, 1, 1, 1, 0, 1], .bl 0, .co [1, 1, 1, 1, 1]] [(2, .bool (manifest_between x_.Dev 0 1099511627776))] (by kernel_rfl) ?_
            refine retR [2] [.bool (manifest_between x_.Dev 0 1099511627776)] (by kernel_rfl) (by kernel_rfl) (by kernel_rfl) ?_
            obtain rfl : (manifest_between x_.Dev 0 1099511627776) = r := hf
            exact ⟨_, rfl, rfl, H.scalar⟩
          · rw [hb96]
            refine seg 6 [.co [1, 1, 1, 1, 0, 1, 0, 1, 1, 1, 0, 1], .bl 0, .co [1, 1, 1, 1, 1]] [(2, .bool false)] (by kernel_rfl) ?_
            refine retR [2] [.bool false] (by kernel_rfl) (by kernel_rfl) (by kernel_rfl) ?_
            have hret := hf
            subst hret
            exact ⟨_, rfl, rfl, H.scalar⟩
        · rw [hb95]
          refine seg 5 [.co [1, 1, 1, 1, 0, 1, 0, 1, 1, 1], .bl 0, .co [1, 1, 1, 1, 1]] [(1, .pointer (some (⟨g1, 0, none⟩))), (3, .bool ok), (39, .bool (x_.Kind == 5))] (by kernel_rfl) ?_
          rcases condT hf with ⟨hb98, hf⟩ | ⟨hb98, hf⟩
          · rw [hb98]
            refine seg 5 [.op [1, 1, 1, 1, 0, 1, 0, 1, 1, 1, 0, 0] 2, .co [1, 1, 1, 1, 0, 1, 0, 1, 1, 1, 0, 1], .bl 0, .co [1, 1, 1, 1, 1]] [(1, .pointer (some (⟨g1, 0, none⟩))), (43, .bool ok)] (by kernel_rfl) ?_
            rcases condT hf with ⟨hb99, hf⟩ | ⟨hb99, hf⟩
            · rw [hb99]
              refine seg 1 [.op [1, 1, 1, 1, 0, 1, 0, 1, 1, 1, 0, 0] 3, .co [1, 1, 1, 1, 0, 1, 0, 1, 1, 1, 0, 1], .bl 0, .co [1, 1, 1, 1, 1]] [(43, .bool true), (44, .pointer (some (⟨g1, 9, none⟩)))] (by kernel_rfl) ?_
              replace H : St w noF m m [blkI g1 [.string ⟨x_.Path.toArray⟩, .int .i64 x_.Kind, .int .i64 x_.Mode, .int .i64 x_.Uid, .int .i64 x_.Gid, .int .i64 x_.Time, .int .i64 x_.Size, .slice A0_7 x_.Data.length c0_7, .string ⟨x_.Target.toArray⟩, .int .i64 x_.Dev, .slice A0_10 x_.Attrs.length c0_10] 44] wj61 := H
              refine st (ldR (some 45) 3 (⟨g1, 9, none⟩) (.int .i64 x_.Dev) (by kernel_rfl) (by kernel_rfl) (H.cellB 0 rfl rfl) ?_)
              refine st (callR (some 46) 31 #[.int .i64 x_.Dev, .int .i64 0, .int .i64 1099511627776] Tryd.call31 (manifest_between_c H.has x_.Dev 0 1099511627776) (by kernel_rfl) ?_)
              rintro _ w100 ⟨rfl, hx100⟩
              replace H := H.ex hx100
              refine seg 3 [.co [1, 1, 1, 1, 0, 1, 0, 1, 1, 1, 0, 1], .bl 0, .co [1, 1, 1, 1, 1]] [(2, .bool (manifest_between x_.Dev 0 1099511627776))] (by kernel_rfl) ?_
              refine retR [2] [.bool (manifest_between x_.Dev 0 1099511627776)] (by kernel_rfl) (by kernel_rfl) (by kernel_rfl) ?_
              obtain rfl : (manifest_between x_.Dev 0 1099511627776) = r := hf
              exact ⟨_, rfl, rfl, H.scalar⟩
            · rw [hb99]
              refine seg 6 [.co [1, 1, 1, 1, 0, 1, 0, 1, 1, 1, 0, 1], .bl 0, .co [1, 1, 1, 1, 1]] [(2, .bool false)] (by kernel_rfl) ?_
              refine retR [2] [.bool false] (by kernel_rfl) (by kernel_rfl) (by kernel_rfl) ?_
              have hret := hf
              subst hret
              exact ⟨_, rfl, rfl, H.scalar⟩
          · rw [hb98]
            refine seg 8 [.co [1, 1, 1, 1, 1, 1]] [(2, .bool ok)] (by kernel_rfl) ?_
            refine retR [2] [.bool ok] (by kernel_rfl) (by kernel_rfl) (by kernel_rfl) ?_
            have hret := hf
            subst hret
            exact ⟨_, rfl, rfl, H.scalar⟩
  · rw [hb4]
    refine seg 5 [.co [1, 0, 1, 0, 1], .co [1, 1]] [(2, .bool false)] (by kernel_rfl) ?_
    refine retR [2] [.bool false] (by kernel_rfl) (by kernel_rfl) (by kernel_rfl) ?_
    have hret := hf
    subst hret
    exact ⟨_, rfl, rfl, H.scalar⟩
theorem manifest_tooLong_c {m : Mem} {w : World} (hm : Has m w) (x_ : TApiEntry) (l0_0 : x_.Path.length ≤ 9223372036854775807) (A0_7 : Option Addr) (c0_7 : Nat) (s0_7 : SlI rU8 m A0_7 c0_7 x_.Data) (l0_8 : x_.Target.length ≤ 9223372036854775807) (A0_10 : Option Addr) (c0_10 : Nat) (s0_10 : SlI rApiAttr m A0_10 c0_10 x_.Attrs) {r : Bool} (hf : manifest_tooLong x_ = some r) :
    Calls Tryd.prog 18 #[.agg #[.string ⟨x_.Path.toArray⟩, .int .i64 x_.Kind, .int .i64 x_.Mode, .int .i64 x_.Uid, .int .i64 x_.Gid, .int .i64 x_.Time, .int .i64 x_.Size, .slice A0_7 x_.Data.length c0_7, .string ⟨x_.Target.toArray⟩, .int .i64 x_.Dev, .slice A0_10 x_.Attrs.length c0_10]] w fun e w' => ∃ v, e = .returned v ∧ v = .bool r ∧ Ex w w' := by
  unfold manifest_tooLong at hf
  have H := St.start0 hm
  refine callsR Tryd.func18 (by kernel_rfl) (by kernel_rfl) ?_
  refine seg 2 [.op [0] 0, .co [1]] [(0, .agg #[.string ⟨x_.Path.toArray⟩, .int .i64 x_.Kind, .int .i64 x_.Mode, .int .i64 x_.Uid, .int .i64 x_.Gid, .int .i64 x_.Time, .int .i64 x_.Size, .slice A0_7 x_.Data.length c0_7, .string ⟨x_.Target.toArray⟩, .int .i64 x_.Dev, .slice A0_10 x_.Attrs.length c0_10])] (by kernel_rfl) ?_
  refine st (newS (some 1) (fun g => .pointer (some ⟨g, 0, none⟩)) [.string ⟨x_.Path.toArray⟩, .int .i64 x_.Kind, .int .i64 x_.Mode, .int .i64 x_.Uid, .int .i64 x_.Gid, .int .i64 x_.Time, .int .i64 x_.Size, .slice A0_7 x_.Data.length c0_7, .string ⟨x_.Target.toArray⟩, .int .i64 x_.Dev, .slice A0_10 x_.Attrs.length c0_10] 44 H (by kernel_rfl) ?_)
  intro g1 w1 H
  refine seg 6 [.op [1, 0, 0] 1, .co [1, 0, 1], .co [1, 1]] [(1, .pointer (some (⟨g1, 0, none⟩))), (6, .pointer (some (⟨g1, 0, none⟩)))] (by kernel_rfl) ?_
  refine st (ldR (some 7) 9 (⟨g1, 0, none⟩) (.string ⟨x_.Path.toArray⟩) (by kernel_rfl) (by kernel_rfl) (H.cellB 0 rfl rfl) ?_)
  refine seg 3 [.op [1, 0, 0] 5, .co [1, 0, 1], .co [1, 1]] [(1, .pointer (some (⟨g1, 0, none⟩))), (10, .bool (decide ((x_.Path.length : Int) > 1048576)))] (by kernel_rfl) ?_
  rcases condT hf with ⟨hb7, hf⟩ | ⟨hb7, hf⟩
  · rw [hb7]
    have p7 := of_decide_eq_true hb7
    refine seg 32 [.co [1, 0, 1, 0, 1], .co [1, 1]] [(2, .bool true)] (by kernel_rfl) ?_
    refine retR [2] [.bool true] (by kernel_rfl) (by kernel_rfl) (by kernel_rfl) ?_
    have hret := (Option.some.inj hf)
    subst hret
    exact ⟨_, rfl, rfl, H.scalar⟩
  · rw [hb7]
    have p7 := of_decide_eq_false hb7
    refine seg 1 [.op [1, 0, 0] 6, .co [1, 0, 1], .co [1, 1]] [(1, .pointer (some (⟨g1, 0, none⟩))), (10, .bool false), (11, .pointer (some (⟨g1, 1, none⟩)))] (by kernel_rfl) ?_
    refine st (ldR (some 12) 3 (⟨g1, 1, none⟩) (.int .i64 x_.Kind) (by kernel_rfl) (by kernel_rfl) (H.cellB 0 rfl rfl) ?_)
    refine seg 2 [.op [1, 0, 0] 9, .co [1, 0, 1], .co [1, 1]] [(1, .pointer (some (⟨g1, 0, none⟩))), (10, .bool false), (14, .bool (x_.Kind == 1))] (by kernel_rfl) ?_
    rcases condT hf with ⟨hb9, hf⟩ | ⟨hb9, hf⟩
    · rw [hb9]
      refine seg 1 [.op [1, 0, 0] 10, .co [1, 0, 1], .co [1, 1]] [(1, .pointer (some (⟨g1, 0, none⟩))), (10, .bool false), (14, .bool true), (15, .pointer (some (⟨g1, 7, none⟩)))] (by kernel_rfl) ?_
      refine st (ldR (some 16) 25 (⟨g1, 7, none⟩) (.slice A0_7 x_.Data.length c0_7) (by kernel_rfl) (by kernel_rfl) (H.cellB 0 rfl rfl) ?_)
      refine seg 5 [.op [1, 0, 0] 16, .co [1, 0, 1], .co [1, 1]] [(1, .pointer (some (⟨g1, 0, none⟩))), (21, .bool (decide ((x_.Data.length : Int) > 1048576)))] (by kernel_rfl) ?_
      rcases condT hf with ⟨hb10, hf⟩ | ⟨hb10, hf⟩
      · rw [hb10]
        have p10 := of_decide_eq_true hb10
        refine seg 21 [.co [1, 0, 1, 0, 1], .co [1, 1]] [(2, .bool true)] (by kernel_rfl) ?_
        refine retR [2] [.bool true] (by kernel_rfl) (by kernel_rfl) (by kernel_rfl) ?_
        have hret := (Option.some.inj hf)
        subst hret
        exact ⟨_, rfl, rfl, H.scalar⟩
      · rw [hb10]
        have p10 := of_decide_eq_false hb10
        refine seg 1 [.op [1, 0, 0] 17, .co [1, 0, 1], .co [1, 1]] [(1, .pointer (some (⟨g1, 0, none⟩))), (21, .bool false), (22, .pointer (some (⟨g1, 1, none⟩)))] (by kernel_rfl) ?_
        refine st (ldR (some 23) 3 (⟨g1, 1, none⟩) (.int .i64 x_.Kind) (by kernel_rfl) (by kernel_rfl) (H.cellB 0 rfl rfl) ?_)
        refine seg 2 [.op [1, 0, 0] 20, .co [1, 0, 1], .co [1, 1]] [(1, .pointer (some (⟨g1, 0, none⟩))), (21, .bool false), (25, .bool (x_.Kind == 3))] (by kernel_rfl) ?_
        rw [show (x_.Kind == 3) = false from by rw [show x_.Kind = 1 from eq_of_beq hb9]; rfl]
        refine seg 1 [.op [1, 0, 0] 21, .co [1, 0, 1], .co [1, 1]] [(1, .pointer (some (⟨g1, 0, none⟩))), (21, .bool false), (25, .bool false), (26, .pointer (some (⟨g1, 1, none⟩)))] (by kernel_rfl) ?_
        refine st (ldR (some 27) 3 (⟨g1, 1, none⟩) (.int .i64 x_.Kind) (by kernel_rfl) (by kernel_rfl) (H.cellB 0 rfl rfl) ?_)
        refine seg 3 [.op [1, 0, 0] 25, .co [1, 0, 1], .co [1, 1]] [(1, .pointer (some (⟨g1, 0, none⟩))), (21, .bool false), (30, .bool (x_.Kind == 6))] (by kernel_rfl) ?_
        rw [show (x_.Kind == 6) = false from by rw [show x_.Kind = 1 from eq_of_beq hb9]; rfl]
        refine seg 17 [.op [1, 1, 1, 0, 0] 1, .co [1, 1, 1, 0, 1], .co [1, 1, 1, 1]] [(1, .pointer (some (⟨g1, 0, none⟩))), (3, .int .i64 1048576), (37, .pointer (some (⟨g1, 10, none⟩)))] (by kernel_rfl) ?_
        refine st (ldR (some 38) 42 (⟨g1, 10, none⟩) (.slice A0_10 x_.Attrs.length c0_10) (by kernel_rfl) (by kernel_rfl) (H.cellB 0 rfl rfl) ?_)
        refine seg 3 [.co [1, 1, 1, 0, 1], .co [1, 1, 1, 1]] [(1, .pointer (some (⟨g1, 0, none⟩))), (3, .int .i64 1048576), (38, .slice A0_10 x_.Attrs.length c0_10), (39, .int .i64 (x_.Attrs.length : Int)), (40, .int .i64 0)] (by kernel_rfl) ?_
        obtain ⟨y78, hp78, hfl78, hfr78⟩ := bndE hf
        refine joinR 0 (fun (x : Unit) => []) (fun (x : Unit) (wj78 : World) => y78 = .inl () ∧ St w noF m m [] wj78) (by kernel_rfl) ?_ ?_
        · refine seg 1 [.co [1, 1, 1, 0, 1, 0], .bl 0, .le 0, .co [1, 1, 1, 1]] [(1, .pointer (some (⟨g1, 0, none⟩))), (3, .int .i64 1048576), (38, .slice A0_10 x_.Attrs.length c0_10), (39, .int .i64 (x_.Attrs.length : Int)), (40, .int .i64 0)] (by kernel_rfl) ?_
          obtain ⟨nn96, hR96⟩ := loopO_iff.1 hp78
          refine loopR 1 (fun (x : Nat × Int × Nat) => [(1, .pointer (some (⟨g1, 0, none⟩))), (3, .int .i64 x.2.1), (38, .slice A0_10 x_.Attrs.length c0_10), (39, .int .i64 (x_.Attrs.length : Int)), (40, .int .i64 (x.2.2 : Int))]) (fun (x : Nat × Int × Nat) (wl96 : World) => iter (fun s => manifest_tooLong_l1 x_ s.1 s.2) x.1 (x.2.1, x.2.2) = some y78 ∧ St w noF m m [blkI g1 [.string ⟨x_.Path.toArray⟩, .int .i64 x_.Kind, .int .i64 x_.Mode, .int .i64 x_.Uid, .int .i64 x_.Gid, .int .i64 x_.Time, .int .i64 x_.Size, .slice A0_7 x_.Data.length c0_7, .string ⟨x_.Target.toArray⟩, .int .i64 x_.Dev, .slice A0_10 x_.Attrs.length c0_10] 44] wl96) (fun (x : Nat × Int × Nat) => x.1) (nn96, 1048576, 0) (by kernel_rfl) (by kernel_rfl) (by kernel_rfl) ?_ ?_
          · exact ⟨hR96, H⟩
          rintro ⟨n96, left, t⟩ wl96 ⟨hR96, H⟩
          try dsimp only at hR96
          try dsimp only at H
          obtain ⟨nk96, q96, rfl, hb_96, hnx96, hfin96⟩ := iterE hR96
          replace hb_96 : manifest_tooLong_l1 x_ left t = some q96 := hb_96
          unfold manifest_tooLong_l1 at hb_96
          refine seg 5 [.co [1, 1, 1, 0, 1, 0, 0, 1, 0], .co [1, 1, 1, 0, 1, 0, 0, 1, 1], .le 1, .bl 0, .le 0, .co [1, 1, 1, 1]] [(1, .pointer (some (⟨g1, 0, none⟩))), (3, .int .i64 left), (38, .slice A0_10 x_.Attrs.length c0_10), (39, .int .i64 (x_.Attrs.length : Int)), (40, .int .i64 (t : Int)), (41, .bool (decide ((t : Int) < (x_.Attrs.length : Int))))] (by kernel_rfl) ?_
          rcases condT hb_96 with ⟨hb98, hb_96⟩ | ⟨hb98, hb_96⟩
          · rw [hb98]
            have p98 := of_decide_eq_true hb98
            refine seg 6 [.op [1, 1, 1, 0, 1, 0, 0, 1, 1, 0, 0, 0] 0, .co [1, 1, 1, 0, 1, 0, 0, 1, 1, 0, 0, 1], .bl 1, .co [1, 1, 1, 0, 1, 0, 0, 1, 1, 1], .le 1, .bl 0, .le 0, .co [1, 1, 1, 1]] [(1, .pointer (some (⟨g1, 0, none⟩))), (3, .int .i64 left), (38, .slice A0_10 x_.Attrs.length c0_10), (39, .int .i64 (x_.Attrs.length : Int)), (40, .int .i64 (t : Int))] (by kernel_rfl) ?_
            obtain ⟨x_1, h_x_1, hb_96⟩ := bindE hb_96
            obtain ⟨ad100, _, ea100, ⟨A100_1, c100_1, rfl, hl100_0, hs100_1⟩, hc100⟩ := s0_10.at_ h_x_1 (by decide)
            refine st (idxS (some 42) 42 46 2 A0_10 ad100 x_.Attrs.length c0_10 .i64 (t : Int) ea100 (by kernel_rfl) (by kernel_rfl) (by omega) (by have := (List.getElem?_eq_some_iff.1 h_x_1).1; omega) ?_)
            refine st (ldAggR (some 43) 46 (ad100.add (t * 2)) [.string ⟨x_1.Name.toArray⟩, .slice A100_1 x_1.Value.length c100_1] (by kernel_rfl) (by kernel_rfl) (fun j v hj => H.cellI (hc100 j v hj)) ?_)
            refine st (newS (some 5) (fun g => .pointer (some ⟨g, 0, none⟩)) [.string ⟨([] : List UInt8).toArray⟩, .slice none 0 0] 46 H (by kernel_rfl) ?_)
            intro g101 w101 H
            refine st (stAggS none 46 0 g101 0 [.string ⟨x_1.Name.toArray⟩, .slice A100_1 x_1.Value.length c100_1] [.string ⟨([] : List UInt8).toArray⟩, .slice none 0 0] [.string ⟨x_1.Name.toArray⟩, .slice A100_1 x_1.Value.length c100_1] 46 H rfl (by kernel_rfl) (by kernel_rfl) (by rfl) (of_decide_eq_true rfl) rfl ?_)
            intro w102 H
            refine seg 5 [.op [1, 1, 1, 0, 1, 0, 0, 1, 1, 0, 0, 1, 0, 0] 1, .co [1, 1, 1, 0, 1, 0, 0, 1, 1, 0, 0, 1, 0, 1], .co [1, 1, 1, 0, 1, 0, 0, 1, 1, 0, 0, 1, 1], .bl 1, .co [1, 1, 1, 0, 1, 0, 0, 1, 1, 1], .le 1, .bl 0, .le 0, .co [1, 1, 1, 1]] [(1, .pointer (some (⟨g1, 0, none⟩))), (3, .int .i64 left), (5, .pointer (some (⟨g101, 0, none⟩))), (38, .slice A0_10 x_.Attrs.length c0_10), (39, .int .i64 (x_.Attrs.length : Int)), (40, .int .i64 (t : Int)), (44, .pointer (some (⟨g1, 1, none⟩)))] (by kernel_rfl) ?_
            refine st (ldR (some 45) 3 (⟨g1, 1, none⟩) (.int .i64 x_.Kind) (by kernel_rfl) (by kernel_rfl) (H.cellB 1 rfl rfl) ?_)
            refine seg 2 [.co [1, 1, 1, 0, 1, 0, 0, 1, 1, 0, 0, 1, 0, 1], .co [1, 1, 1, 0, 1, 0, 0, 1, 1, 0, 0, 1, 1], .bl 1, .co [1, 1, 1, 0, 1, 0, 0, 1, 1, 1], .le 1, .bl 0, .le 0, .co [1, 1, 1, 1]] [(1, .pointer (some (⟨g1, 0, none⟩))), (3, .int .i64 left), (5, .pointer (some (⟨g101, 0, none⟩))), (38, .slice A0_10 x_.Attrs.length c0_10), (39, .int .i64 (x_.Attrs.length : Int)), (40, .int .i64 (t : Int)), (46, .bool (x_.Kind == 6))] (by kernel_rfl) ?_
            rw [show (x_.Kind == 6) = false from by rw [show x_.Kind = 1 from eq_of_beq hb9]; rfl]
            refine seg 6 [.op [1, 1, 1, 0, 1, 0, 0, 1, 1, 0, 0, 1, 1, 0, 0] 1, .co [1, 1, 1, 0, 1, 0, 0, 1, 1, 0, 0, 1, 1, 0, 1], .co [1, 1, 1, 0, 1, 0, 0, 1, 1, 0, 0, 1, 1, 1], .bl 1, .co [1, 1, 1, 0, 1, 0, 0, 1, 1, 1], .le 1, .bl 0, .le 0, .co [1, 1, 1, 1]] [(1, .pointer (some (⟨g1, 0, none⟩))), (3, .int .i64 left), (5, .pointer (some (⟨g101, 0, none⟩))), (38, .slice A0_10 x_.Attrs.length c0_10), (39, .int .i64 (x_.Attrs.length : Int)), (40, .int .i64 (t : Int)), (47, .pointer (some (⟨g101, 0, none⟩)))] (by kernel_rfl) ?_
            refine st (ldR (some 48) 9 (⟨g101, 0, none⟩) (.string ⟨x_1.Name.toArray⟩) (by kernel_rfl) (by kernel_rfl) (H.cellB 0 rfl rfl) ?_)
            refine seg 4 [.op [1, 1, 1, 0, 1, 0, 0, 1, 1, 0, 0, 1, 1, 0, 0] 6, .co [1, 1, 1, 0, 1, 0, 0, 1, 1, 0, 0, 1, 1, 0, 1], .co [1, 1, 1, 0, 1, 0, 0, 1, 1, 0, 0, 1, 1, 1], .bl 1, .co [1, 1, 1, 0, 1, 0, 0, 1, 1, 1], .le 1, .bl 0, .le 0, .co [1, 1, 1, 1]] [(1, .pointer (some (⟨g1, 0, none⟩))), (3, .int .i64 left), (5, .pointer (some (⟨g101, 0, none⟩))), (38, .slice A0_10 x_.Attrs.length c0_10), (39, .int .i64 (x_.Attrs.length : Int)), (40, .int .i64 (t : Int)), (52, .bool (decide ((x_1.Name.length : Int) > left)))] (by kernel_rfl) ?_
            rcases condT hb_96 with ⟨hb103, hb_96⟩ | ⟨hb103, hb_96⟩
            · rw [hb103]
              have p103 := of_decide_eq_true hb103
              refine seg 16 [.co [1, 1, 1, 0, 1, 0, 0, 1, 1, 0, 0, 1, 1, 0, 1, 0, 1], .co [1, 1, 1, 0, 1, 0, 0, 1, 1, 0, 0, 1, 1, 1], .bl 1, .co [1, 1, 1, 0, 1, 0, 0, 1, 1, 1], .le 1, .bl 0, .le 0, .co [1, 1, 1, 1]] [(2, .bool true)] (by kernel_rfl) ?_
              refine retR [2] [.bool true] (by kernel_rfl) (by kernel_rfl) (by kernel_rfl) ?_
              have hret := (hfr78 _ (hfin96 _ (Option.some.inj hb_96).symm).symm)
              subst hret
              exact ⟨_, rfl, rfl, H.scalar⟩
            · rw [hb103]
              have p103 := of_decide_eq_false hb103
              refine seg 1 [.op [1, 1, 1, 0, 1, 0, 0, 1, 1, 0, 0, 1, 1, 0, 0] 7, .co [1, 1, 1, 0, 1, 0, 0, 1, 1, 0, 0, 1, 1, 0, 1], .co [1, 1, 1, 0, 1, 0, 0, 1, 1, 0, 0, 1, 1, 1], .bl 1, .co [1, 1, 1, 0, 1, 0, 0, 1, 1, 1], .le 1, .bl 0, .le 0, .co [1, 1, 1, 1]] [(1, .pointer (some (⟨g1, 0, none⟩))), (3, .int .i64 left), (5, .pointer (some (⟨g101, 0, none⟩))), (38, .slice A0_10 x_.Attrs.length c0_10), (39, .int .i64 (x_.Attrs.length : Int)), (40, .int .i64 (t : Int)), (52, .bool false), (53, .pointer (some (⟨g101, 1, none⟩)))] (by kernel_rfl) ?_
              refine st (ldR (some 54) 25 (⟨g101, 1, none⟩) (.slice A100_1 x_1.Value.length c100_1) (by kernel_rfl) (by kernel_rfl) (H.cellB 0 rfl rfl) ?_)
              refine seg 3 [.op [1, 1, 1, 0, 1, 0, 0, 1, 1, 0, 0, 1, 1, 0, 0] 11, .co [1, 1, 1, 0, 1, 0, 0, 1, 1, 0, 0, 1, 1, 0, 1], .co [1, 1, 1, 0, 1, 0, 0, 1, 1, 0, 0, 1, 1, 1], .bl 1, .co [1, 1, 1, 0, 1, 0, 0, 1, 1, 1], .le 1, .bl 0, .le 0, .co [1, 1, 1, 1]] [(1, .pointer (some (⟨g1, 0, none⟩))), (3, .int .i64 left), (5, .pointer (some (⟨g101, 0, none⟩))), (38, .slice A0_10 x_.Attrs.length c0_10), (39, .int .i64 (x_.Attrs.length : Int)), (40, .int .i64 (t : Int)), (52, .bool false), (55, .int .i64 (x_1.Value.length : Int)), (56, .int .i64 left), (57, .pointer (some (⟨g101, 0, none⟩)))] (by kernel_rfl) ?_
              refine st (ldR (some 58) 9 (⟨g101, 0, none⟩) (.string ⟨x_1.Name.toArray⟩) (by kernel_rfl) (by kernel_rfl) (H.cellB 0 rfl rfl) ?_)
              refine seg 5 [.co [1, 1, 1, 0, 1, 0, 0, 1, 1, 0, 0, 1, 1, 0, 1], .co [1, 1, 1, 0, 1, 0, 0, 1, 1, 0, 0, 1, 1, 1], .bl 1, .co [1, 1, 1, 0, 1, 0, 0, 1, 1, 1], .le 1, .bl 0, .le 0, .co [1, 1, 1, 1]] [(1, .pointer (some (⟨g1, 0, none⟩))), (3, .int .i64 left), (5, .pointer (some (⟨g101, 0, none⟩))), (38, .slice A0_10 x_.Attrs.length c0_10), (39, .int .i64 (x_.Attrs.length : Int)), (40, .int .i64 (t : Int)), (62, .bool (decide ((x_1.Value.length : Int) > (IntKind.i64.wrap (left - (x_1.Name.length : Int))))))] (by kernel_rfl) ?_
              rcases condT hb_96 with ⟨hb104, hb_96⟩ | ⟨hb104, hb_96⟩
              · rw [hb104]
                have p104 := of_decide_eq_true hb104
                refine seg 5 [.co [1, 1, 1, 0, 1, 0, 0, 1, 1, 0, 0, 1, 1, 0, 1, 0, 1], .co [1, 1, 1, 0, 1, 0, 0, 1, 1, 0, 0, 1, 1, 1], .bl 1, .co [1, 1, 1, 0, 1, 0, 0, 1, 1, 1], .le 1, .bl 0, .le 0, .co [1, 1, 1, 1]] [(2, .bool true)] (by kernel_rfl) ?_
                refine retR [2] [.bool true] (by kernel_rfl) (by kernel_rfl) (by kernel_rfl) ?_
                have hret := (hfr78 _ (hfin96 _ (Option.some.inj hb_96).symm).symm)
                subst hret
                exact ⟨_, rfl, rfl, H.scalar⟩
              · rw [hb104]
                have p104 := of_decide_eq_false hb104
                refine seg 5 [.op [1, 1, 1, 0, 1, 0, 0, 1, 1, 0, 0, 1, 1, 1] 2, .bl 1, .co [1, 1, 1, 0, 1, 0, 0, 1, 1, 1], .le 1, .bl 0, .le 0, .co [1, 1, 1, 1]] [(1, .pointer (some (⟨g1, 0, none⟩))), (5, .pointer (some (⟨g101, 0, none⟩))), (38, .slice A0_10 x_.Attrs.length c0_10), (39, .int .i64 (x_.Attrs.length : Int)), (40, .int .i64 (t : Int)), (63, .int .i64 left), (64, .pointer (some (⟨g101, 0, none⟩)))] (by kernel_rfl) ?_
                refine st (ldR (some 65) 9 (⟨g101, 0, none⟩) (.string ⟨x_1.Name.toArray⟩) (by kernel_rfl) (by kernel_rfl) (H.cellB 0 rfl rfl) ?_)
                refine seg 2 [.op [1, 1, 1, 0, 1, 0, 0, 1, 1, 0, 0, 1, 1, 1] 5, .bl 1, .co [1, 1, 1, 0, 1, 0, 0, 1, 1, 1], .le 1, .bl 0, .le 0, .co [1, 1, 1, 1]] [(1, .pointer (some (⟨g1, 0, none⟩))), (38, .slice A0_10 x_.Attrs.length c0_10), (39, .int .i64 (x_.Attrs.length : Int)), (40, .int .i64 (t : Int)), (63, .int .i64 left), (66, .int .i64 (x_1.Name.length : Int)), (67, .pointer (some (⟨g101, 1, none⟩)))] (by kernel_rfl) ?_
                refine st (ldR (some 68) 25 (⟨g101, 1, none⟩) (.slice A100_1 x_1.Value.length c100_1) (by kernel_rfl) (by kernel_rfl) (H.cellB 0 rfl rfl) ?_)
                refine seg 10 [.le 1, .bl 0, .le 0, .co [1, 1, 1, 1]] [(1, .pointer (some (⟨g1, 0, none⟩))), (3, .int .i64 (IntKind.i64.wrap (left - (IntKind.i64.wrap ((x_1.Name.length : Int) + (x_1.Value.length : Int)))))), (38, .slice A0_10 x_.Attrs.length c0_10), (39, .int .i64 (x_.Attrs.length : Int)), (40, .int .i64 (IntKind.i64.wrap ((t : Int) + 1)))] (by kernel_rfl) ?_
                have := s0_10.bound
                rw [show IntKind.i64.wrap ((t : Int) + 1) = ((t : Int) + 1) from w64 (by omega)]
                refine leR (nk96, (IntKind.i64.wrap (left - (IntKind.i64.wrap ((x_1.Name.length : Int) + (x_1.Value.length : Int))))), (t + 1)) (Nat.lt_succ_self _) ⟨hnx96 _ (Option.some.inj hb_96).symm, (St.takeN 1 (H.pull 1 rfl))⟩ (by kernel_rfl)
          · rw [hb98]
            have p98 := of_decide_eq_false hb98
            refine seg 2 [.le 0, .co [1, 1, 1, 1]] [] (by kernel_rfl) ?_
            refine leR_up (k' := []) (by rfl) ?_
            refine leJ () ⟨(hfin96 _ (Option.some.inj hb_96).symm).symm, (St.takeN 0 H)⟩ (by kernel_rfl)
        rintro _ wj78 ⟨hy78, H⟩
        have hf := hfl78 _ hy78
        try dsimp only at hf
        refine seg 4 [.co [1, 1, 1, 1, 1]] [(2, .bool false)] (by kernel_rfl) ?_
        refine retR [2] [.bool false] (by kernel_rfl) (by kernel_rfl) (by kernel_rfl) ?_
        have hret := (Option.some.inj hf)
        subst hret
        exact ⟨_, rfl, rfl, H.scalar⟩
    · rw [hb9]
      refine seg 8 [.op [1, 0, 0] 17, .co [1, 0, 1], .co [1, 1]] [(1, .pointer (some (⟨g1, 0, none⟩))), (21, .bool false), (22, .pointer (some (⟨g1, 1, none⟩)))] (by kernel_rfl) ?_
      refine st (ldR (some 23) 3 (⟨g1, 1, none⟩) (.int .i64 x_.Kind) (by kernel_rfl) (by kernel_rfl) (H.cellB 0 rfl rfl) ?_)
      refine seg 2 [.op [1, 0, 0] 20, .co [1, 0, 1], .co [1, 1]] [(1, .pointer (some (⟨g1, 0, none⟩))), (21, .bool false), (25, .bool (x_.Kind == 3))] (by kernel_rfl) ?_
      rcases condT hf with ⟨hb105, hf⟩ | ⟨hb105, hf⟩
      · rw [hb105]
        refine seg 6 [.op [1, 0, 0] 26, .co [1, 0, 1], .co [1, 1]] [(1, .pointer (some (⟨g1, 0, none⟩))), (21, .bool false), (30, .bool true), (31, .pointer (some (⟨g1, 8, none⟩)))] (by kernel_rfl) ?_
        refine st (ldR (some 32) 9 (⟨g1, 8, none⟩) (.string ⟨x_.Target.toArray⟩) (by kernel_rfl) (by kernel_rfl) (H.cellB 0 rfl rfl) ?_)
        refine seg 5 [.co [1, 0, 1], .co [1, 1]] [(1, .pointer (some (⟨g1, 0, none⟩))), (36, .bool (decide ((x_.Target.length : Int) > 1048576)))] (by kernel_rfl) ?_
        rcases condT hf with ⟨hb107, hf⟩ | ⟨hb107, hf⟩
        · rw [hb107]
          have p107 := of_decide_eq_true hb107
          refine seg 5 [.co [1, 0, 1, 0, 1], .co [1, 1]] [(2, .bool true)] (by kernel_rfl) ?_
          refine retR [2] [.bool true] (by kernel_rfl) (by kernel_rfl) (by kernel_rfl) ?_
          have hret := (Option.some.inj hf)
          subst hret
          exact ⟨_, rfl, rfl, H.scalar⟩
        · rw [hb107]
          have p107 := of_decide_eq_false hb107
          refine seg 10 [.op [1, 1, 1, 0, 0] 1, .co [1, 1, 1, 0, 1], .co [1, 1, 1, 1]] [(1, .pointer (some (⟨g1, 0, none⟩))), (3, .int .i64 1048576), (37, .pointer (some (⟨g1, 10, none⟩)))] (by kernel_rfl) ?_
          refine st (ldR (some 38) 42 (⟨g1, 10, none⟩) (.slice A0_10 x_.Attrs.length c0_10) (by kernel_rfl) (by kernel_rfl) (H.cellB 0 rfl rfl) ?_)
          refine seg 3 [.co [1, 1, 1, 0, 1], .co [1, 1, 1, 1]] [(1, .pointer (some (⟨g1, 0, none⟩))), (3, .int .i64 1048576), (38, .slice A0_10 x_.Attrs.length c0_10), (39, .int .i64 (x_.Attrs.length : Int)), (40, .int .i64 0)] (by kernel_rfl) ?_
          obtain ⟨y147, hp147, hfl147, hfr147⟩ := bndE hf
          refine joinR 0 (fun (x : Unit) => []) (fun (x : Unit) (wj147 : World) => y147 = .inl () ∧ St w noF m m [] wj147) (by kernel_rfl) ?_ ?_
          · refine seg 1 [.co [1, 1, 1, 0, 1, 0], .bl 0, .le 0, .co [1, 1, 1, 1]] [(1, .pointer (some (⟨g1, 0, none⟩))), (3, .int .i64 1048576), (38, .slice A0_10 x_.Attrs.length c0_10), (39, .int .i64 (x_.Attrs.length : Int)), (40, .int .i64 0)] (by kernel_rfl) ?_
            obtain ⟨nn165, hR165⟩ := loopO_iff.1 hp147
            refine loopR 1 (fun (x : Nat × Int × Nat) => [(1, .pointer (some (⟨g1, 0, none⟩))), (3, .int .i64 x.2.1), (38, .slice A0_10 x_.Attrs.length c0_10), (39, .int .i64 (x_.Attrs.length : Int)), (40, .int .i64 (x.2.2 : Int))]) (fun (x : Nat × Int × Nat) (wl165 : World) => iter (fun s => manifest_tooLong_l2 x_ s.1 s.2) x.1 (x.2.1, x.2.2) = some y147 ∧ St w noF m m [blkI g1 [.string ⟨x_.Path.toArray⟩, .int .i64 x_.Kind, .int .i64 x_.Mode, .int .i64 x_.Uid, .int .i64 x_.Gid, .int .i64 x_.Time, .int .i64 x_.Size, .slice A0_7 x_.Data.length c0_7, .string ⟨x_.Target.toArray⟩, .int .i64 x_.Dev, .slice A0_10 x_.Attrs.length c0_10] 44] wl165) (fun (x : Nat × Int × Nat) => x.1) (nn165, 1048576, 0) (by kernel_rfl) (by kernel_rfl) (by kernel_rfl) ?_ ?_
            · exact ⟨hR165, H⟩
            rintro ⟨n165, left1, t1⟩ wl165 ⟨hR165, H⟩
            try dsimp only at hR165
            try dsimp only at H
            obtain ⟨nk165, q165, rfl, hb_165, hnx165, hfin165⟩ := iterE hR165
            replace hb_165 : manifest_tooLong_l2 x_ left1 t1 = some q165 := hb_165
            unfold manifest_tooLong_l2 at hb_165
            refine seg 5 [.co [1, 1, 1, 0, 1, 0, 0, 1, 0], .co [1, 1, 1, 0, 1, 0, 0, 1, 1], .le 1, .bl 0, .le 0, .co [1, 1, 1, 1]] [(1, .pointer (some (⟨g1, 0, none⟩))), (3, .int .i64 left1), (38, .slice A0_10 x_.Attrs.length c0_10), (39, .int .i64 (x_.Attrs.length : Int)), (40, .int .i64 (t1 : Int)), (41, .bool (decide ((t1 : Int) < (x_.Attrs.length : Int))))] (by kernel_rfl) ?_
            rcases condT hb_165 with ⟨hb167, hb_165⟩ | ⟨hb167, hb_165⟩
            · rw [hb167]
              have p167 := of_decide_eq_true hb167
              refine seg 6 [.op [1, 1, 1, 0, 1, 0, 0, 1, 1, 0, 0, 0] 0, .co [1, 1, 1, 0, 1, 0, 0, 1, 1, 0, 0, 1], .bl 1, .co [1, 1, 1, 0, 1, 0, 0, 1, 1, 1], .le 1, .bl 0, .le 0, .co [1, 1, 1, 1]] [(1, .pointer (some (⟨g1, 0, none⟩))), (3, .int .i64 left1), (38, .slice A0_10 x_.Attrs.length c0_10), (39, .int .i64 (x_.Attrs.length : Int)), (40, .int .i64 (t1 : Int))] (by kernel_rfl) ?_
              obtain ⟨x_2, h_x_2, hb_165⟩ := bindE hb_165
              obtain ⟨ad169, _, ea169, ⟨A169_1, c169_1, rfl, hl169_0, hs169_1⟩, hc169⟩ := s0_10.at_ h_x_2 (by decide)
              refine st (idxS (some 42) 42 46 2 A0_10 ad169 x_.Attrs.length c0_10 .i64 (t1 : Int) ea169 (by kernel_rfl) (by kernel_rfl) (by omega) (by have := (List.getElem?_eq_some_iff.1 h_x_2).1; omega) ?_)
              refine st (ldAggR (some 43) 46 (ad169.add (t1 * 2)) [.string ⟨x_2.Name.toArray⟩, .slice A169_1 x_2.Value.length c169_1] (by kernel_rfl) (by kernel_rfl) (fun j v hj => H.cellI (hc169 j v hj)) ?_)
              refine st (newS (some 5) (fun g => .pointer (some ⟨g, 0, none⟩)) [.string ⟨([] : List UInt8).toArray⟩, .slice none 0 0] 46 H (by kernel_rfl) ?_)
              intro g170 w170 H
              refine st (stAggS none 46 0 g170 0 [.string ⟨x_2.Name.toArray⟩, .slice A169_1 x_2.Value.length c169_1] [.string ⟨([] : List UInt8).toArray⟩, .slice none 0 0] [.string ⟨x_2.Name.toArray⟩, .slice A169_1 x_2.Value.length c169_1] 46 H rfl (by kernel_rfl) (by kernel_rfl) (by rfl) (of_decide_eq_true rfl) rfl ?_)
              intro w171 H
              refine seg 5 [.op [1, 1, 1, 0, 1, 0, 0, 1, 1, 0, 0, 1, 0, 0] 1, .co [1, 1, 1, 0, 1, 0, 0, 1, 1, 0, 0, 1, 0, 1], .co [1, 1, 1, 0, 1, 0, 0, 1, 1, 0, 0, 1, 1], .bl 1, .co [1, 1, 1, 0, 1, 0, 0, 1, 1, 1], .le 1, .bl 0, .le 0, .co [1, 1, 1, 1]] [(1, .pointer (some (⟨g1, 0, none⟩))), (3, .int .i64 left1), (5, .pointer (some (⟨g170, 0, none⟩))), (38, .slice A0_10 x_.Attrs.length c0_10), (39, .int .i64 (x_.Attrs.length : Int)), (40, .int .i64 (t1 : Int)), (44, .pointer (some (⟨g1, 1, none⟩)))] (by kernel_rfl) ?_
              refine st (ldR (some 45) 3 (⟨g1, 1, none⟩) (.int .i64 x_.Kind) (by kernel_rfl) (by kernel_rfl) (H.cellB 1 rfl rfl) ?_)
              refine seg 2 [.co [1, 1, 1, 0, 1, 0, 0, 1, 1, 0, 0, 1, 0, 1], .co [1, 1, 1, 0, 1, 0, 0, 1, 1, 0, 0, 1, 1], .bl 1, .co [1, 1, 1, 0, 1, 0, 0, 1, 1, 1], .le 1, .bl 0, .le 0, .co [1, 1, 1, 1]] [(1, .pointer (some (⟨g1, 0, none⟩))), (3, .int .i64 left1), (5, .pointer (some (⟨g170, 0, none⟩))), (38, .slice A0_10 x_.Attrs.length c0_10), (39, .int .i64 (x_.Attrs.length : Int)), (40, .int .i64 (t1 : Int)), (46, .bool (x_.Kind == 6))] (by kernel_rfl) ?_
              rw [show (x_.Kind == 6) = false from by rw [show x_.Kind = 3 from eq_of_beq hb105]; rfl]
              refine seg 6 [.op [1, 1, 1, 0, 1, 0, 0, 1, 1, 0, 0, 1, 1, 0, 0] 1, .co [1, 1, 1, 0, 1, 0, 0, 1, 1, 0, 0, 1, 1, 0, 1], .co [1, 1, 1, 0, 1, 0, 0, 1, 1, 0, 0, 1, 1, 1], .bl 1, .co [1, 1, 1, 0, 1, 0, 0, 1, 1, 1], .le 1, .bl 0, .le 0, .co [1, 1, 1, 1]] [(1, .pointer (some (⟨g1, 0, none⟩))), (3, .int .i64 left1), (5, .pointer (some (⟨g170, 0, none⟩))), (38, .slice A0_10 x_.Attrs.length c0_10), (39, .int .i64 (x_.Attrs.length : Int)), (40, .int .i64 (t1 : Int)), (47, .pointer (some (⟨g170, 0, none⟩)))] (by kernel_rfl) ?_
              refine st (ldR (some 48) 9 (⟨g170, 0, none⟩) (.string ⟨x_2.Name.toArray⟩) (by kernel_rfl) (by kernel_rfl) (H.cellB 0 rfl rfl) ?_)
              refine seg 4 [.op [1, 1, 1, 0, 1, 0, 0, 1, 1, 0, 0, 1, 1, 0, 0] 6, .co [1, 1, 1, 0, 1, 0, 0, 1, 1, 0, 0, 1, 1, 0, 1], .co [1, 1, 1, 0, 1, 0, 0, 1, 1, 0, 0, 1, 1, 1], .bl 1, .co [1, 1, 1, 0, 1, 0, 0, 1, 1, 1], .le 1, .bl 0, .le 0, .co [1, 1, 1, 1]] [(1, .pointer (some (⟨g1, 0, none⟩))), (3, .int .i64 left1), (5, .pointer (some (⟨g170, 0, none⟩))), (38, .slice A0_10 x_.Attrs.length c0_10), (39, .int .i64 (x_.Attrs.length : Int)), (40, .int .i64 (t1 : Int)), (52, .bool (decide ((x_2.Name.length : Int) > left1)))] (by kernel_rfl) ?_
              rcases condT hb_165 with ⟨hb172, hb_165⟩ | ⟨hb172, hb_165⟩
              · rw [hb172]
                have p172 := of_decide_eq_true hb172
                refine seg 16 [.co [1, 1, 1, 0, 1, 0, 0, 1, 1, 0, 0, 1, 1, 0, 1, 0, 1], .co [1, 1, 1, 0, 1, 0, 0, 1, 1, 0, 0, 1, 1, 1], .bl 1, .co [1, 1, 1, 0, 1, 0, 0, 1, 1, 1], .le 1, .bl 0, .le 0, .co [1, 1, 1, 1]] [(2, .bool true)] (by kernel_rfl) ?_
                refine retR [2] [.bool true] (by kernel_rfl) (by kernel_rfl) (by kernel_rfl) ?_
                have hret := (hfr147 _ (hfin165 _ (Option.some.inj hb_165).symm).symm)
                subst hret
                exact ⟨_, rfl, rfl, H.scalar⟩
              · rw [hb172]
                have p172 := of_decide_eq_false hb172
                refine seg 1 [.op [1, 1, 1, 0, 1, 0, 0, 1, 1, 0, 0, 1, 1, 0, 0] 7, .co [1, 1, 1, 0, 1, 0, 0, 1, 1, 0, 0, 1, 1, 0, 1], .co [1, 1, 1, 0, 1, 0, 0, 1, 1, 0, 0, 1, 1, 1], .bl 1, .co [1, 1, 1, 0, 1, 0, 0, 1, 1, 1], .le 1, .bl 0, .le 0, .co [1, 1, 1, 1]] [(1, .pointer (some (⟨g1, 0, none⟩))), (3, .int .i64 left1), (5, .pointer (some (⟨g170, 0, none⟩))), (38, .slice A0_10 x_.Attrs.length c0_10), (39, .int .i64 (x_.Attrs.length : Int)), (40, .int .i64 (t1 : Int)), (52, .bool false), (53, .pointer (some (⟨g170, 1, none⟩)))] (by kernel_rfl) ?_
                refine st (ldR (some 54) 25 (⟨g170, 1, none⟩) (.slice A169_1 x_2.Value.length c169_1) (by kernel_rfl) (by kernel_rfl) (H.cellB 0 rfl rfl) ?_)
                refine seg 3 [.op [1, 1, 1, 0, 1, 0, 0, 1, 1, 0, 0, 1, 1, 0, 0] 11, .co [1, 1, 1, 0, 1, 0, 0, 1, 1, 0, 0, 1, 1, 0, 1], .co [1, 1, 1, 0, 1, 0, 0, 1, 1, 0, 0, 1, 1, 1], .bl 1, .co [1, 1, 1, 0, 1, 0, 0, 1, 1, 1], .le 1, .bl 0, .le 0, .co [1, 1, 1, 1]] [(1, .pointer (some (⟨g1, 0, none⟩))), (3, .int .i64 left1), (5, .pointer (some (⟨g170, 0, none⟩))), (38, .slice A0_10 x_.Attrs.length c0_10), (39, .int .i64 (x_.Attrs.length : Int)), (40, .int .i64 (t1 : Int)), (52, .bool false), (55, .int .i64 (x_2.Value.length : Int)), (56, .int .i64 left1), (57, .pointer (some (⟨g170, 0, none⟩)))] (by kernel_rfl) ?_
                refine st (ldR (some 58) 9 (⟨g170, 0, none⟩) (.string ⟨x_2.Name.toArray⟩) (by kernel_rfl) (by kernel_rfl) (H.cellB 0 rfl rfl) ?_)
                refine seg 5 [.co [1, 1, 1, 0, 1, 0, 0, 1, 1, 0, 0, 1, 1, 0, 1], .co [1, 1, 1, 0, 1, 0, 0, 1, 1, 0, 0, 1, 1, 1], .bl 1, .co [1, 1, 1, 0, 1, 0, 0, 1, 1, 1], .le 1, .bl 0, .le 0, .co [1, 1, 1, 1]] [(1, .pointer (some (⟨g1, 0, none⟩))), (3, .int .i64 left1), (5, .pointer (some (⟨g170, 0, none⟩))), (38, .slice A0_10 x_.Attrs.length c0_10), (39, .int .i64 (x_.Attrs.length : Int)), (40, .int .i64 (t1 : Int)), (62, .bool (decide ((x_2.Value.length : Int) > (IntKind.i64.wrap (left1 - (x_2.Name.length : Int))))))] (by kernel_rfl) ?_
                rcases condT hb_165 with ⟨hb173, hb_165⟩ | ⟨hb173, hb_165⟩
                · rw [hb173]
                  have p173 := of_decide_eq_true hb173
                  refine seg 5 [.co [1, 1, 1, 0, 1, 0, 0, 1, 1, 0, 0, 1, 1, 0, 1, 0, 1], .co [1, 1, 1, 0, 1, 0, 0, 1, 1, 0, 0, 1, 1, 1], .bl 1, .co [1, 1, 1, 0, 1, 0, 0, 1, 1, 1], .le 1, .bl 0, .le 0, .co [1, 1, 1, 1]] [(2, .bool true)] (by kernel_rfl) ?_
                  refine retR [2] [.bool true] (by kernel_rfl) (by kernel_rfl) (by kernel_rfl) ?_
                  have hret := (hfr147 _ (hfin165 _ (Option.some.inj hb_165).symm).symm)
                  subst hret
                  exact ⟨_, rfl, rfl, H.scalar⟩
                · rw [hb173]
                  have p173 := of_decide_eq_false hb173
                  refine seg 5 [.op [1, 1, 1, 0, 1, 0, 0, 1, 1, 0, 0, 1, 1, 1] 2, .bl 1, .co [1, 1, 1, 0, 1, 0, 0, 1, 1, 1], .le 1, .bl 0, .le 0, .co [1, 1, 1, 1]] [(1, .pointer (some (⟨g1, 0, none⟩))), (5, .pointer (some (⟨g170, 0, none⟩))), (38, .slice A0_10 x_.Attrs.length c0_10), (39, .int .i64 (x_.Attrs.length : Int)), (40, .int .i64 (t1 : Int)), (63, .int .i64 left1), (64, .pointer (some (⟨g170, 0, none⟩)))] (by kernel_rfl) ?_
                  refine st (ldR (some 65) 9 (⟨g170, 0, none⟩) (.string ⟨x_2.Name.toArray⟩) (by kernel_rfl) (by kernel_rfl) (H.cellB 0 rfl rfl) ?_)
                  refine seg 2 [.op [1, 1, 1, 0, 1, 0, 0, 1, 1, 0, 0, 1, 1, 1] 5, .bl 1, .co [1, 1, 1, 0, 1, 0, 0, 1, 1, 1], .le 1, .bl 0, .le 0, .co [1, 1, 1, 1]] [(1, .pointer (some (⟨g1, 0, none⟩))), (38, .slice A0_10 x_.Attrs.length c0_10), (39, .int .i64 (x_.Attrs.length : Int)), (40, .int .i64 (t1 : Int)), (63, .int .i64 left1), (66, .int .i64 (x_2.Name.length : Int)), (67, .pointer (some (⟨g170, 1, none⟩)))] (by kernel_rfl) ?_
                  refine st (ldR (some 68) 25 (⟨g170, 1, none⟩) (.slice A169_1 x_2.Value.length c169_1) (by kernel_rfl) (by kernel_rfl) (H.cellB 0 rfl rfl) ?_)
                  refine seg 10 [.le 1, .bl 0, .le 0, .co [1, 1, 1, 1]] [(1, .pointer (some (⟨g1, 0, none⟩))), (3, .int .i64 (IntKind.i64.wrap (left1 - (IntKind.i64.wrap ((x_2.Name.length : Int) + (x_2.Value.length : Int)))))), (38, .slice A0_10 x_.Attrs.length c0_10), (39, .int .i64 (x_.Attrs.length : Int)), (40, .int .i64 (IntKind.i64.wrap ((t1 : Int) + 1)))] (by kernel_rfl) ?_
                  have := s0_10.bound
                  rw [show IntKind.i64.wrap ((t1 : Int) + 1) = ((t1 : Int) + 1) from w64 (by omega)]
                  refine leR (nk165, (IntKind.i64.wrap (left1 - (IntKind.i64.wrap ((x_2.Name.length : Int) + (x_2.Value.length : Int))))), (t1 + 1)) (Nat.lt_succ_self _) ⟨hnx165 _ (Option.some.inj hb_165).symm, (St.takeN 1 (H.pull 1 rfl))⟩ (by kernel_rfl)
            · rw [hb167]
              have p167 := of_decide_eq_false hb167
              refine seg 2 [.le 0, .co [1, 1, 1, 1]] [] (by kernel_rfl) ?_
              refine leR_up (k' := []) (by rfl) ?_
              refine leJ () ⟨(hfin165 _ (Option.some.inj hb_165).symm).symm, (St.takeN 0 H)⟩ (by kernel_rfl)
          rintro _ wj147 ⟨hy147, H⟩
          have hf := hfl147 _ hy147
          try dsimp only at hf
          refine seg 4 [.co [1, 1, 1, 1, 1]] [(2, .bool false)] (by kernel_rfl) ?_
          refine retR [2] [.bool false] (by kernel_rfl) (by kernel_rfl) (by kernel_rfl) ?_
          have hret := (Option.some.inj hf)
          subst hret
          exact ⟨_, rfl, rfl, H.scalar⟩
      · rw [hb105]
        refine seg 1 [.op [1, 0, 0] 21, .co [1, 0, 1], .co [1, 1]] [(1, .pointer (some (⟨g1, 0, none⟩))), (21, .bool false), (25, .bool false), (26, .pointer (some (⟨g1, 1, none⟩)))] (by kernel_rfl) ?_
        refine st (ldR (some 27) 3 (⟨g1, 1, none⟩) (.int .i64 x_.Kind) (by kernel_rfl) (by kernel_rfl) (H.cellB 0 rfl rfl) ?_)
        refine seg 3 [.op [1, 0, 0] 25, .co [1, 0, 1], .co [1, 1]] [(1, .pointer (some (⟨g1, 0, none⟩))), (21, .bool false), (30, .bool (x_.Kind == 6))] (by kernel_rfl) ?_
        rcases condT hf with ⟨hb174, hf⟩ | ⟨hb174, hf⟩
        · rw [hb174]
          refine seg 1 [.op [1, 0, 0] 26, .co [1, 0, 1], .co [1, 1]] [(1, .pointer (some (⟨g1, 0, none⟩))), (21, .bool false), (30, .bool true), (31, .pointer (some (⟨g1, 8, none⟩)))] (by kernel_rfl) ?_
          refine st (ldR (some 32) 9 (⟨g1, 8, none⟩) (.string ⟨x_.Target.toArray⟩) (by kernel_rfl) (by kernel_rfl) (H.cellB 0 rfl rfl) ?_)
          refine seg 5 [.co [1, 0, 1], .co [1, 1]] [(1, .pointer (some (⟨g1, 0, none⟩))), (36, .bool (decide ((x_.Target.length : Int) > 1048576)))] (by kernel_rfl) ?_
          rcases condT hf with ⟨hb176, hf⟩ | ⟨hb176, hf⟩
          · rw [hb176]
            have p176 := of_decide_eq_true hb176
            refine seg 5 [.co [1, 0, 1, 0, 1], .co [1, 1]] [(2, .bool true)] (by kernel_rfl) ?_
            refine retR [2] [.bool true] (by kernel_rfl) (by kernel_rfl) (by kernel_rfl) ?_
            have hret := (Option.some.inj hf)
            subst hret
            exact ⟨_, rfl, rfl, H.scalar⟩
          · rw [hb176]
            have p176 := of_decide_eq_false hb176
            refine seg 10 [.op [1, 1, 1, 0, 0] 1, .co [1, 1, 1, 0, 1], .co [1, 1, 1, 1]] [(1, .pointer (some (⟨g1, 0, none⟩))), (3, .int .i64 1048576), (37, .pointer (some (⟨g1, 10, none⟩)))] (by kernel_rfl) ?_
            refine st (ldR (some 38) 42 (⟨g1, 10, none⟩) (.slice A0_10 x_.Attrs.length c0_10) (by kernel_rfl) (by kernel_rfl) (H.cellB 0 rfl rfl) ?_)
            refine seg 3 [.co [1, 1, 1, 0, 1], .co [1, 1, 1, 1]] [(1, .pointer (some (⟨g1, 0, none⟩))), (3, .int .i64 1048576), (38, .slice A0_10 x_.Attrs.length c0_10), (39, .int .i64 (x_.Attrs.length : Int)), (40, .int .i64 0)] (by kernel_rfl) ?_
            obtain ⟨y194, hp194, hfl194, hfr194⟩ := bndE hf
            refine joinR 0 (fun (x : Unit) => []) (fun (x : Unit) (wj194 : World) => y194 = .inl () ∧ St w noF m m [] wj194) (by kernel_rfl) ?_ ?_
            · refine seg 1 [.co [1, 1, 1, 0, 1, 0], .bl 0, .le 0, .co [1, 1, 1, 1]] [(1, .pointer (some (⟨g1, 0, none⟩))), (3, .int .i64 1048576), (38, .slice A0_10 x_.Attrs.length c0_10), (39, .int .i64 (x_.Attrs.length : Int)), (40, .int .i64 0)] (by kernel_rfl) ?_
              obtain ⟨nn202, hR202⟩ := loopO_iff.1 hp194
              refine loopR 1 (fun (x : Nat) => [(1, .pointer (some (⟨g1, 0, none⟩))), (3, .int .i64 1048576), (38, .slice A0_10 x_.Attrs.length c0_10), (39, .int .i64 (x_.Attrs.length : Int)), (40, .int .i64 0)]) (fun (x : Nat) (wl202 : World) => iter (fun s => manifest_tooLong_l3 x_) x () = some y194 ∧ St w noF m m [blkI g1 [.string ⟨x_.Path.toArray⟩, .int .i64 x_.Kind, .int .i64 x_.Mode, .int .i64 x_.Uid, .int .i64 x_.Gid, .int .i64 x_.Time, .int .i64 x_.Size, .slice A0_7 x_.Data.length c0_7, .string ⟨x_.Target.toArray⟩, .int .i64 x_.Dev, .slice A0_10 x_.Attrs.length c0_10] 44] wl202) (fun (x : Nat) => x) (nn202) (by kernel_rfl) (by kernel_rfl) (by kernel_rfl) ?_ ?_
              · exact ⟨hR202, H⟩
              rintro n202 wl202 ⟨hR202, H⟩
              obtain ⟨nk202, q202, rfl, hb_202, hnx202, hfin202⟩ := iterE hR202
              replace hb_202 : manifest_tooLong_l3 x_ = some q202 := hb_202
              unfold manifest_tooLong_l3 at hb_202
              refine seg 5 [.co [1, 1, 1, 0, 1, 0, 0, 1, 0], .co [1, 1, 1, 0, 1, 0, 0, 1, 1], .le 1, .bl 0, .le 0, .co [1, 1, 1, 1]] [(1, .pointer (some (⟨g1, 0, none⟩))), (3, .int .i64 1048576), (38, .slice A0_10 x_.Attrs.length c0_10), (39, .int .i64 (x_.Attrs.length : Int)), (40, .int .i64 0), (41, .bool (decide (0 < (x_.Attrs.length : Int))))] (by kernel_rfl) ?_
              rcases condT hb_202 with ⟨hb204, hb_202⟩ | ⟨hb204, hb_202⟩
              · rw [hb204]
                have p204 := of_decide_eq_true hb204
                refine seg 6 [.op [1, 1, 1, 0, 1, 0, 0, 1, 1, 0, 0, 0] 0, .co [1, 1, 1, 0, 1, 0, 0, 1, 1, 0, 0, 1], .bl 1, .co [1, 1, 1, 0, 1, 0, 0, 1, 1, 1], .le 1, .bl 0, .le 0, .co [1, 1, 1, 1]] [(1, .pointer (some (⟨g1, 0, none⟩))), (3, .int .i64 1048576), (38, .slice A0_10 x_.Attrs.length c0_10), (39, .int .i64 (x_.Attrs.length : Int)), (40, .int .i64 0)] (by kernel_rfl) ?_
                obtain ⟨x_3, h_x_3, hb_202⟩ := bindE hb_202
                obtain ⟨ad206, _, ea206, ⟨A206_1, c206_1, rfl, hl206_0, hs206_1⟩, hc206⟩ := s0_10.at_ h_x_3 (by decide)
                refine st (idxS (some 42) 42 46 2 A0_10 ad206 x_.Attrs.length c0_10 .i64 0 ea206 (by kernel_rfl) (by kernel_rfl) (by omega) (by have := (List.getElem?_eq_some_iff.1 h_x_3).1; omega) ?_)
                refine st (ldAggR (some 43) 46 (ad206.add (0 * 2)) [.string ⟨x_3.Name.toArray⟩, .slice A206_1 x_3.Value.length c206_1] (by kernel_rfl) (by kernel_rfl) (fun j v hj => H.cellI (hc206 j v hj)) ?_)
                refine st (newS (some 5) (fun g => .pointer (some ⟨g, 0, none⟩)) [.string ⟨([] : List UInt8).toArray⟩, .slice none 0 0] 46 H (by kernel_rfl) ?_)
                intro g207 w207 H
                replace H : St w noF m m [blkI g207 [.string ⟨([] : List UInt8).toArray⟩, .slice none 0 0] 46, blkI g1 [.string ⟨x_.Path.toArray⟩, .int .i64 x_.Kind, .int .i64 x_.Mode, .int .i64 x_.Uid, .int .i64 x_.Gid, .int .i64 x_.Time, .int .i64 x_.Size, .slice A0_7 x_.Data.length c0_7, .string ⟨x_.Target.toArray⟩, .int .i64 x_.Dev, .slice A0_10 x_.Attrs.length c0_10] 44] w207 := H
                refine st (stAggS none 46 0 g207 0 [.string ⟨x_3.Name.toArray⟩, .slice A206_1 x_3.Value.length c206_1] [.string ⟨([] : List UInt8).toArray⟩, .slice none 0 0] [.string ⟨x_3.Name.toArray⟩, .slice A206_1 x_3.Value.length c206_1] 46 H rfl (by kernel_rfl) (by kernel_rfl) (by rfl) (of_decide_eq_true rfl) rfl ?_)
                intro w208 H
                refine seg 5 [.op [1, 1, 1, 0, 1, 0, 0, 1, 1, 0, 0, 1, 0, 0] 1, .co [1, 1, 1, 0, 1, 0, 0, 1, 1, 0, 0, 1, 0, 1], .co [1, 1, 1, 0, 1, 0, 0, 1, 1, 0, 0, 1, 1], .bl 1, .co [1, 1, 1, 0, 1, 0, 0, 1, 1, 1], .le 1, .bl 0, .le 0, .co [1, 1, 1, 1]] [(1, .pointer (some (⟨g1, 0, none⟩))), (3, .int .i64 1048576), (5, .pointer (some (⟨g207, 0, none⟩))), (38, .slice A0_10 x_.Attrs.length c0_10), (39, .int .i64 (x_.Attrs.length : Int)), (40, .int .i64 0), (44, .pointer (some (⟨g1, 1, none⟩)))] (by kernel_rfl) ?_
                refine st (ldR (some 45) 3 (⟨g1, 1, none⟩) (.int .i64 x_.Kind) (by kernel_rfl) (by kernel_rfl) (H.cellB 1 rfl rfl) ?_)
                refine seg 2 [.co [1, 1, 1, 0, 1, 0, 0, 1, 1, 0, 0, 1, 0, 1], .co [1, 1, 1, 0, 1, 0, 0, 1, 1, 0, 0, 1, 1], .bl 1, .co [1, 1, 1, 0, 1, 0, 0, 1, 1, 1], .le 1, .bl 0, .le 0, .co [1, 1, 1, 1]] [(1, .pointer (some (⟨g1, 0, none⟩))), (3, .int .i64 1048576), (5, .pointer (some (⟨g207, 0, none⟩))), (38, .slice A0_10 x_.Attrs.length c0_10), (39, .int .i64 (x_.Attrs.length : Int)), (40, .int .i64 0), (46, .bool (x_.Kind == 6))] (by kernel_rfl) ?_
                rw [show (x_.Kind == 6) = true from hb174]
                refine seg 5 [.co [1, 1, 1, 0, 1, 0, 0, 1, 1, 0, 0, 1, 0, 1, 0, 1], .co [1, 1, 1, 0, 1, 0, 0, 1, 1, 0, 0, 1, 1], .bl 1, .co [1, 1, 1, 0, 1, 0, 0, 1, 1, 1], .le 1, .bl 0, .le 0, .co [1, 1, 1, 1]] [(2, .bool false)] (by kernel_rfl) ?_
                refine retR [2] [.bool false] (by kernel_rfl) (by kernel_rfl) (by kernel_rfl) ?_
                have hret := (hfr194 _ (hfin202 _ (Option.some.inj hb_202).symm).symm)
                subst hret
                exact ⟨_, rfl, rfl, H.scalar⟩
              · rw [hb204]
                have p204 := of_decide_eq_false hb204
                refine seg 2 [.le 0, .co [1, 1, 1, 1]] [] (by kernel_rfl) ?_
                refine leR_up (k' := []) (by rfl) ?_
                refine leJ () ⟨(hfin202 _ (Option.some.inj hb_202).symm).symm, (St.takeN 0 H)⟩ (by kernel_rfl)
            rintro _ wj194 ⟨hy194, H⟩
            have hf := hfl194 _ hy194
            try dsimp only at hf
            refine seg 4 [.co [1, 1, 1, 1, 1]] [(2, .bool false)] (by kernel_rfl) ?_
            refine retR [2] [.bool false] (by kernel_rfl) (by kernel_rfl) (by kernel_rfl) ?_
            have hret := (Option.some.inj hf)
            subst hret
            exact ⟨_, rfl, rfl, H.scalar⟩
        · rw [hb174]
          refine seg 17 [.op [1, 1, 1, 0, 0] 1, .co [1, 1, 1, 0, 1], .co [1, 1, 1, 1]] [(1, .pointer (some (⟨g1, 0, none⟩))), (3, .int .i64 1048576), (37, .pointer (some (⟨g1, 10, none⟩)))] (by kernel_rfl) ?_
          refine st (ldR (some 38) 42 (⟨g1, 10, none⟩) (.slice A0_10 x_.Attrs.length c0_10) (by kernel_rfl) (by kernel_rfl) (H.cellB 0 rfl rfl) ?_)
          refine seg 3 [.co [1, 1, 1, 0, 1], .co [1, 1, 1, 1]] [(1, .pointer (some (⟨g1, 0, none⟩))), (3, .int .i64 1048576), (38, .slice A0_10 x_.Attrs.length c0_10), (39, .int .i64 (x_.Attrs.length : Int)), (40, .int .i64 0)] (by kernel_rfl) ?_
          obtain ⟨y248, hp248, hfl248, hfr248⟩ := bndE hf
          refine joinR 0 (fun (x : Unit) => []) (fun (x : Unit) (wj248 : World) => y248 = .inl () ∧ St w noF m m [] wj248) (by kernel_rfl) ?_ ?_
          · refine seg 1 [.co [1, 1, 1, 0, 1, 0], .bl 0, .le 0, .co [1, 1, 1, 1]] [(1, .pointer (some (⟨g1, 0, none⟩))), (3, .int .i64 1048576), (38, .slice A0_10 x_.Attrs.length c0_10), (39, .int .i64 (x_.Attrs.length : Int)), (40, .int .i64 0)] (by kernel_rfl) ?_
            obtain ⟨nn266, hR266⟩ := loopO_iff.1 hp248
            refine loopR 1 (fun (x : Nat × Int × Nat) => [(1, .pointer (some (⟨g1, 0, none⟩))), (3, .int .i64 x.2.1), (38, .slice A0_10 x_.Attrs.length c0_10), (39, .int .i64 (x_.Attrs.length : Int)), (40, .int .i64 (x.2.2 : Int))]) (fun (x : Nat × Int × Nat) (wl266 : World) => iter (fun s => manifest_tooLong_l4 x_ s.1 s.2) x.1 (x.2.1, x.2.2) = some y248 ∧ St w noF m m [blkI g1 [.string ⟨x_.Path.toArray⟩, .int .i64 x_.Kind, .int .i64 x_.Mode, .int .i64 x_.Uid, .int .i64 x_.Gid, .int .i64 x_.Time, .int .i64 x_.Size, .slice A0_7 x_.Data.length c0_7, .string ⟨x_.Target.toArray⟩, .int .i64 x_.Dev, .slice A0_10 x_.Attrs.length c0_10] 44] wl266) (fun (x : Nat × Int × Nat) => x.1) (nn266, 1048576, 0) (by kernel_rfl) (by kernel_rfl) (by kernel_rfl) ?_ ?_
            · exact ⟨hR266, H⟩
            rintro ⟨n266, left2, t2⟩ wl266 ⟨hR266, H⟩
            try dsimp only at hR266
            try dsimp only at H
            obtain ⟨nk266, q266, rfl, hb_266, hnx266, hfin266⟩ := iterE hR266
            replace hb_266 : manifest_tooLong_l4 x_ left2 t2 = some q266 := hb_266
            unfold manifest_tooLong_l4 at hb_266
            refine seg 5 [.co [1, 1, 1, 0, 1, 0, 0, 1, 0], .co [1, 1, 1, 0, 1, 0, 0, 1, 1], .le 1, .bl 0, .le 0, .co [1, 1, 1, 1]] [(1, .pointer (some (⟨g1, 0, none⟩))), (3, .int .i64 left2), (38, .slice A0_10 x_.Attrs.length c0_10), (39, .int .i64 (x_.Attrs.length : Int)), (40, .int .i64 (t2 : Int)), (41, .bool (decide ((t2 : Int) < (x_.Attrs.length : Int))))] (by kernel_rfl) ?_
            rcases condT hb_266 with ⟨hb268, hb_266⟩ | ⟨hb268, hb_266⟩
            · rw [hb268]
              have p268 := of_decide_eq_true hb268
              refine seg 6 [.op [1, 1, 1, 0, 1, 0, 0, 1, 1, 0, 0, 0] 0, .co [1, 1, 1, 0, 1, 0, 0, 1, 1, 0, 0, 1], .bl 1, .co [1, 1, 1, 0, 1, 0, 0, 1, 1, 1], .le 1, .bl 0, .le 0, .co [1, 1, 1, 1]] [(1, .pointer (some (⟨g1, 0, none⟩))), (3, .int .i64 left2), (38, .slice A0_10 x_.Attrs.length c0_10), (39, .int .i64 (x_.Attrs.length : Int)), (40, .int .i64 (t2 : Int))] (by kernel_rfl) ?_
              obtain ⟨x_4, h_x_4, hb_266⟩ := bindE hb_266
              obtain ⟨ad270, _, ea270, ⟨A270_1, c270_1, rfl, hl270_0, hs270_1⟩, hc270⟩ := s0_10.at_ h_x_4 (by decide)
              refine st (idxS (some 42) 42 46 2 A0_10 ad270 x_.Attrs.length c0_10 .i64 (t2 : Int) ea270 (by kernel_rfl) (by kernel_rfl) (by omega) (by have := (List.getElem?_eq_some_iff.1 h_x_4).1; omega) ?_)
              refine st (ldAggR (some 43) 46 (ad270.add (t2 * 2)) [.string ⟨x_4.Name.toArray⟩, .slice A270_1 x_4.Value.length c270_1] (by kernel_rfl) (by kernel_rfl) (fun j v hj => H.cellI (hc270 j v hj)) ?_)
              refine st (newS (some 5) (fun g => .pointer (some ⟨g, 0, none⟩)) [.string ⟨([] : List UInt8).toArray⟩, .slice none 0 0] 46 H (by kernel_rfl) ?_)
              intro g271 w271 H
              replace H : St w noF m m [blkI g271 [.string ⟨([] : List UInt8).toArray⟩, .slice none 0 0] 46, blkI g1 [.string ⟨x_.Path.toArray⟩, .int .i64 x_.Kind, .int .i64 x_.Mode, .int .i64 x_.Uid, .int .i64 x_.Gid, .int .i64 x_.Time, .int .i64 x_.Size, .slice A0_7 x_.Data.length c0_7, .string ⟨x_.Target.toArray⟩, .int .i64 x_.Dev, .slice A0_10 x_.Attrs.length c0_10] 44] w271 := H
              refine st (stAggS none 46 0 g271 0 [.string ⟨x_4.Name.toArray⟩, .slice A270_1 x_4.Value.length c270_1] [.string ⟨([] : List UInt8).toArray⟩, .slice none 0 0] [.string ⟨x_4.Name.toArray⟩, .slice A270_1 x_4.Value.length c270_1] 46 H rfl (by kernel_rfl) (by kernel_rfl) (by rfl) (of_decide_eq_true rfl) rfl ?_)
              intro w272 H
              refine seg 5 [.op [1, 1, 1, 0, 1, 0, 0, 1, 1, 0, 0, 1, 0, 0] 1, .co [1, 1, 1, 0, 1, 0, 0, 1, 1, 0, 0, 1, 0, 1], .co [1, 1, 1, 0, 1, 0, 0, 1, 1, 0, 0, 1, 1], .bl 1, .co [1, 1, 1, 0, 1, 0, 0, 1, 1, 1], .le 1, .bl 0, .le 0, .co [1, 1, 1, 1]] [(1, .pointer (some (⟨g1, 0, none⟩))), (3, .int .i64 left2), (5, .pointer (some (⟨g271, 0, none⟩))), (38, .slice A0_10 x_.Attrs.length c0_10), (39, .int .i64 (x_.Attrs.length : Int)), (40, .int .i64 (t2 : Int)), (44, .pointer (some (⟨g1, 1, none⟩)))] (by kernel_rfl) ?_
              refine st (ldR (some 45) 3 (⟨g1, 1, none⟩) (.int .i64 x_.Kind) (by kernel_rfl) (by kernel_rfl) (H.cellB 1 rfl rfl) ?_)
              refine seg 2 [.co [1, 1, 1, 0, 1, 0, 0, 1, 1, 0, 0, 1, 0, 1], .co [1, 1, 1, 0, 1, 0, 0, 1, 1, 0, 0, 1, 1], .bl 1, .co [1, 1, 1, 0, 1, 0, 0, 1, 1, 1], .le 1, .bl 0, .le 0, .co [1, 1, 1, 1]] [(1, .pointer (some (⟨g1, 0, none⟩))), (3, .int .i64 left2), (5, .pointer (some (⟨g271, 0, none⟩))), (38, .slice A0_10 x_.Attrs.length c0_10), (39, .int .i64 (x_.Attrs.length : Int)), (40, .int .i64 (t2 : Int)), (46, .bool (x_.Kind == 6))] (by kernel_rfl) ?_
              rw [show (x_.Kind == 6) = false from hb174]
              refine seg 6 [.op [1, 1, 1, 0, 1, 0, 0, 1, 1, 0, 0, 1, 1, 0, 0] 1, .co [1, 1, 1, 0, 1, 0, 0, 1, 1, 0, 0, 1, 1, 0, 1], .co [1, 1, 1, 0, 1, 0, 0, 1, 1, 0, 0, 1, 1, 1], .bl 1, .co [1, 1, 1, 0, 1, 0, 0, 1, 1, 1], .le 1, .bl 0, .le 0, .co [1, 1, 1, 1]] [(1, .pointer (some (⟨g1, 0, none⟩))), (3, .int .i64 left2), (5, .pointer (some (⟨g271, 0, none⟩))), (38, .slice A0_10 x_.Attrs.length c0_10), (39, .int .i64 (x_.Attrs.length : Int)), (40, .int .i64 (t2 : Int)), (47, .pointer (some (⟨g271, 0, none⟩)))] (by kernel_rfl) ?_
              refine st (ldR (some 48) 9 (⟨g271, 0, none⟩) (.string ⟨x_4.Name.toArray⟩) (by kernel_rfl) (by kernel_rfl) (H.cellB 0 rfl rfl) ?_)
              refine seg 4 [.op [1, 1, 1, 0, 1, 0, 0, 1, 1, 0, 0, 1, 1, 0, 0] 6, .co [1, 1, 1, 0, 1, 0, 0, 1, 1, 0, 0, 1, 1, 0, 1], .co [1, 1, 1, 0, 1, 0, 0, 1, 1, 0, 0, 1, 1, 1], .bl 1, .co [1, 1, 1, 0, 1, 0, 0, 1, 1, 1], .le 1, .bl 0, .le 0, .co [1, 1, 1, 1]] [(1, .pointer (some (⟨g1, 0, none⟩))), (3, .int .i64 left2), (5, .pointer (some (⟨g271, 0, none⟩))), (38, .slice A0_10 x_.Attrs.length c0_10), (39, .int .i64 (x_.Attrs.length : Int)), (40, .int .i64 (t2 : Int)), (52, .bool (decide ((x_4.Name.length : Int) > left2)))] (by kernel_rfl) ?_
              rcases condT hb_266 with ⟨hb273, hb_266⟩ | ⟨hb273, hb_266⟩
              · rw [hb273]
                have p273 := of_decide_eq_true hb273
                refine seg 16 [.co [1, 1, 1, 0, 1, 0, 0, 1, 1, 0, 0, 1, 1, 0, 1, 0, 1], .co [1, 1, 1, 0, 1, 0, 0, 1, 1, 0, 0, 1, 1, 1], .bl 1, .co [1, 1, 1, 0, 1, 0, 0, 1, 1, 1], .le 1, .bl 0, .le 0, .co [1, 1, 1, 1]] [(2, .bool true)] (by kernel_rfl) ?_
                refine retR [2] [.bool true] (by kernel_rfl) (by kernel_rfl) (by kernel_rfl) ?_
                have hret := (hfr248 _ (hfin266 _ (Option.some.inj hb_266).symm).symm)
                subst hret
                exact ⟨_, rfl, rfl, H.scalar⟩
              · rw [hb273]
                have p273 := of_decide_eq_false hb273
                refine seg 1 [.op [1, 1, 1, 0, 1, 0, 0, 1, 1, 0, 0, 1, 1, 0, 0] 7, .co [1, 1, 1, 0, 1, 0, 0, 1, 1, 0, 0, 1, 1, 0, 1], .co [1, 1, 1, 0, 1, 0, 0, 1, 1, 0, 0, 1, 1, 1], .bl 1, .co [1, 1, 1, 0, 1, 0, 0, 1, 1, 1], .le 1, .bl 0, .le 0, .co [1, 1, 1, 1]] [(1, .pointer (some (⟨g1, 0, none⟩))), (3, .int .i64 left2), (5, .pointer (some (⟨g271, 0, none⟩))), (38, .slice A0_10 x_.Attrs.length c0_10), (39, .int .i64 (x_.Attrs.length : Int)), (40, .int .i64 (t2 : Int)), (52, .bool false), (53, .pointer (some (⟨g271, 1, none⟩)))] (by kernel_rfl) ?_
                refine st (ldR (some 54) 25 (⟨g271, 1, none⟩) (.slice A270_1 x_4.Value.length c270_1) (by kernel_rfl) (by kernel_rfl) (H.cellB 0 rfl rfl) ?_)
                refine seg 3 [.op [1, 1, 1, 0, 1, 0, 0, 1, 1, 0, 0, 1, 1, 0, 0] 11, .co [1, 1, 1, 0, 1, 0, 0, 1, 1, 0, 0, 1, 1, 0, 1], .co [1, 1, 1, 0, 1, 0, 0, 1, 1, 0, 0, 1, 1, 1], .bl 1, .co [1, 1, 1, 0, 1, 0, 0, 1, 1, 1], .le 1, .bl 0, .le 0, .co [1, 1, 1, 1]] [(1, .pointer (some (⟨g1, 0, none⟩))), (3, .int .i64 left2), (5, .pointer (some (⟨g271, 0, none⟩))), (38, .slice A0_10 x_.Attrs.length c0_10), (39, .int .i64 (x_.Attrs.length : Int)), (40, .int .i64 (t2 : Int)), (52, .bool false), (55, .int .i64 (x_4.Value.length : Int)), (56, .int .i64 left2), (57, .pointer (some (⟨g271, 0, none⟩)))] (by kernel_rfl) ?_
                refine st (ldR (some 58) 9 (⟨g271, 0, none⟩) (.string ⟨x_4.Name.toArray⟩) (by kernel_rfl) (by kernel_rfl) (H.cellB 0 rfl rfl) ?_)
                refine seg 5 [.co [1, 1, 1, 0, 1, 0, 0, 1, 1, 0, 0, 1, 1, 0, 1], .co [1, 1, 1, 0, 1, 0, 0, 1, 1, 0, 0, 1, 1, 1], .bl 1, .co [1, 1, 1, 0, 1, 0, 0, 1, 1, 1], .le 1, .bl 0, .le 0, .co [1, 1, 1, 1]] [(1, .pointer (some (⟨g1, 0, none⟩))), (3, .int .i64 left2), (5, .pointer (some (⟨g271, 0, none⟩))), (38, .slice A0_10 x_.Attrs.length c0_10), (39, .int .i64 (x_.Attrs.length : Int)), (40, .int .i64 (t2 : Int)), (62, .bool (decide ((x_4.Value.length : Int) > (IntKind.i64.wrap (left2 - (x_4.Name.length : Int))))))] (by kernel_rfl) ?_
                rcases condT hb_266 with ⟨hb274, hb_266⟩ | ⟨hb274, hb_266⟩
                · rw [hb274]
                  have p274 := of_decide_eq_true hb274
                  refine seg 5 [.co [1, 1, 1, 0, 1, 0, 0, 1, 1, 0, 0, 1, 1, 0, 1, 0, 1], .co [1, 1, 1, 0, 1, 0, 0, 1, 1, 0, 0, 1, 1, 1], .bl 1, .co [1, 1, 1, 0, 1, 0, 0, 1, 1, 1], .le 1, .bl 0, .le 0, .co [1, 1, 1, 1]] [(2, .bool true)] (by kernel_rfl) ?_
                  refine retR [2] [.bool true] (by kernel_rfl) (by kernel_rfl) (by kernel_rfl) ?_
                  have hret := (hfr248 _ (hfin266 _ (Option.some.inj hb_266).symm).symm)
                  subst hret
                  exact ⟨_, rfl, rfl, H.scalar⟩
                · rw [hb274]
                  have p274 := of_decide_eq_false hb274
                  refine seg 5 [.op [1, 1, 1, 0, 1, 0, 0, 1, 1, 0, 0, 1, 1, 1] 2, .bl 1, .co [1, 1, 1, 0, 1, 0, 0, 1, 1, 1], .le 1, .bl 0, .le 0, .co [1, 1, 1, 1]] [(1, .pointer (some (⟨g1, 0, none⟩))), (5, .pointer (some (⟨g271, 0, none⟩))), (38, .slice A0_10 x_.Attrs.length c0_10), (39, .int .i64 (x_.Attrs.length : Int)), (40, .int .i64 (t2 : Int)), (63, .int .i64 left2), (64, .pointer (some (⟨g271, 0, none⟩)))] (by kernel_rfl) ?_
                  refine st (ldR (some 65) 9 (⟨g271, 0, none⟩) (.string ⟨x_4.Name.toArray⟩) (by kernel_rfl) (by kernel_rfl) (H.cellB 0 rfl rfl) ?_)
                  refine seg 2 [.op [1, 1, 1, 0, 1, 0, 0, 1, 1, 0, 0, 1, 1, 1] 5, .bl 1, .co [1, 1, 1, 0, 1, 0, 0, 1, 1, 1], .le 1, .bl 0, .le 0, .co [1, 1, 1, 1]] [(1, .pointer (some (⟨g1, 0, none⟩))), (38, .slice A0_10 x_.Attrs.length c0_10), (39, .int .i64 (x_.Attrs.length : Int)), (40, .int .i64 (t2 : Int)), (63, .int .i64 left2), (66, .int .i64 (x_4.Name.length : Int)), (67, .pointer (some (⟨g271, 1, none⟩)))] (by kernel_rfl) ?_
                  refine st (ldR (some 68) 25 (⟨g271, 1, none⟩) (.slice A270_1 x_4.Value.length c270_1) (by kernel_rfl) (by kernel_rfl) (H.cellB 0 rfl rfl) ?_)
                  refine seg 10 [.le 1, .bl 0, .le 0, .co [1, 1, 1, 1]] [(1, .pointer (some (⟨g1, 0, none⟩))), (3, .int .i64 (IntKind.i64.wrap (left2 - (IntKind.i64.wrap ((x_4.Name.length : Int) + (x_4.Value.length : Int)))))), (38, .slice A0_10 x_.Attrs.length c0_10), (39, .int .i64 (x_.Attrs.length : Int)), (40, .int .i64 (IntKind.i64.wrap ((t2 : Int) + 1)))] (by kernel_rfl) ?_
                  have := s0_10.bound
                  rw [show IntKind.i64.wrap ((t2 : Int) + 1) = ((t2 : Int) + 1) from w64 (by omega)]
                  refine leR (nk266, (IntKind.i64.wrap (left2 - (IntKind.i64.wrap ((x_4.Name.length : Int) + (x_4.Value.length : Int))))), (t2 + 1)) (Nat.lt_succ_self _) ⟨hnx266 _ (Option.some.inj hb_266).symm, (St.takeN 1 (H.pull 1 rfl))⟩ (by kernel_rfl)
            · rw [hb268]
              have p268 := of_decide_eq_false hb268
              refine seg 2 [.le 0, .co [1, 1, 1, 1]] [] (by kernel_rfl) ?_
              refine leR_up (k' := []) (by rfl) ?_
              refine leJ () ⟨(hfin266 _ (Option.some.inj hb_266).symm).symm, (St.takeN 0 H)⟩ (by kernel_rfl)
          rintro _ wj248 ⟨hy248, H⟩
          have hf := hfl248 _ hy248
          try dsimp only at hf
          refine seg 4 [.co [1, 1, 1, 1, 1]] [(2, .bool false)] (by kernel_rfl) ?_
          refine retR [2] [.bool false] (by kernel_rfl) (by kernel_rfl) (by kernel_rfl) ?_
          have hret := (Option.some.inj hf)
          subst hret
          exact ⟨_, rfl, rfl, H.scalar⟩
theorem internal_strconv_small_c {m : Mem} {w : World} (hm : Has m w) (i : Int) {r : (List UInt8)} (hf : internal_strconv_small i = some r) :
    Calls Tryd.prog 53 #[.int .i64 i] w fun e w' => ∃ v, e = .returned v ∧ v = .string ⟨r.toArray⟩ ∧ Ex w w' ∧ r.length ≤ 9223372036854775807 := by
  unfold internal_strconv_small at hf
  have H := St.start0 hm
  refine callsR Tryd.func53 (by kernel_rfl) (by kernel_rfl) ?_
  refine seg 10 [.co [1, 0, 1], .co [1, 1]] [(0, .int .i64 i), (4, .bool (decide (i < 10)))] (by kernel_rfl) ?_
  rcases condT hf with ⟨hb3, hf⟩ | ⟨hb3, hf⟩
  · rw [hb3]
    have p3 := of_decide_eq_true hb3
    refine seg 6 [.op [1, 0, 1, 0, 0] 3, .co [1, 0, 1, 0, 1], .co [1, 1]] [(5, .int .i64 i), (7, .int .i64 (IntKind.i64.wrap (i + 1)))] (by kernel_rfl) ?_
    obtain ⟨y_, h_y_, hf⟩ := bindE hf
    refine st (sstrS (some 8) 9 ([48, 49, 50, 51, 52, 53, 54, 55, 56, 57, 97, 98, 99, 100, 101, 102, 103, 104, 105, 106, 107, 108, 109, 110, 111, 112, 113, 114, 115, 116, 117, 118, 119, 120, 121, 122] : List UInt8) y_ (some (.int .i64 i)) (some (.int .i64 (IntKind.i64.wrap (i + 1)))) i (IntKind.i64.wrap (i + 1)) (by kernel_rfl) (by kernel_rfl) (.inr ⟨_, rfl⟩) (.inr ⟨_, rfl⟩) h_y_ ?_)
    have hl4 : y_.length ≤ 9223372036854775807 := Nat.le_trans (slc_le h_y_) (Nat.le_of_ble_eq_true rfl)
    refine seg 2 [.co [1, 0, 1, 0, 1], .co [1, 1]] [(2, .string ⟨y_.toArray⟩)] (by kernel_rfl) ?_
    refine retR [2] [.string ⟨y_.toArray⟩] (by kernel_rfl) (by kernel_rfl) (by kernel_rfl) ?_
    have hret := (Option.some.inj hf)
    subst hret
    exact ⟨_, rfl, rfl, H.scalar, hl4⟩
  · rw [hb3]
    have p3 := of_decide_eq_false hb3
    refine seg 9 [.op [1, 1, 0] 5, .co [1, 1, 1]] [(10, .int .i64 (IntKind.i64.wrap (i * 2))), (13, .int .i64 (IntKind.i64.wrap ((IntKind.i64.wrap (i * 2)) + 2)))] (by kernel_rfl) ?_
    obtain ⟨y_1, h_y_1, hf⟩ := bindE hf
    refine st (sstrS (some 14) 9 ([48, 48, 48, 49, 48, 50, 48, 51, 48, 52, 48, 53, 48, 54, 48, 55, 48, 56, 48, 57, 49, 48, 49, 49, 49, 50, 49, 51, 49, 52, 49, 53, 49, 54, 49, 55, 49, 56, 49, 57, 50, 48, 50, 49, 50, 50, 50, 51, 50, 52, 50, 53, 50, 54, 50, 55, 50, 56, 50, 57, 51, 48, 51, 49, 51, 50, 51, 51, 51, 52, 51, 53, 51, 54, 51, 55, 51, 56, 51, 57, 52, 48, 52, 49, 52, 50, 52, 51, 52, 52, 52, 53, 52, 54, 52, 55, 52, 56, 52, 57, 53, 48, 53, 49, 53, 50, 53, 51, 53, 52, 53, 53, 53, 54, 53, 55, 53, 56, 53, 57, 54, 48, 54, 49, 54, 50, 54, 51, 54, 52, 54, 53, 54, 54, 54, 55, 54, 56, 54, 57, 55, 48, 55, 49, 55, 50, 55, 51, 55, 52, 55, 53, 55, 54, 55, 55, 55, 56, 55, 57, 56, 48, 56, 49, 56, 50, 56, 51, 56, 52, 56, 53, 56, 54, 56, 55, 56, 56, 56, 57, 57, 48, 57, 49, 57, 50, 57, 51, 57, 52, 57, 53, 57, 54, 57, 55, 57, 56, 57, 57] : List UInt8) y_1 (some (.int .i64 (IntKind.i64.wrap (i * 2)))) (some (.int .i64 (IntKind.i64.wrap ((IntKind.i64.wrap (i * 2)) + 2)))) (IntKind.i64.wrap (i * 2)) (IntKind.i64.wrap ((IntKind.i64.wrap (i * 2)) + 2)) (by kernel_rfl) (by kernel_rfl) (.inr ⟨_, rfl⟩) (.inr ⟨_, rfl⟩) h_y_1 ?_)
    have hl5 : y_1.length ≤ 9223372036854775807 := Nat.le_trans (slc_le h_y_1) (Nat.le_of_ble_eq_true rfl)
    refine seg 2 [.co [1, 1, 1]] [(2, .string ⟨y_1.toArray⟩)] (by kernel_rfl) ?_
    refine retR [2] [.string ⟨y_1.toArray⟩] (by kernel_rfl) (by kernel_rfl) (by kernel_rfl) ?_
    have hret := (Option.some.inj hf)
    subst hret
    exact ⟨_, rfl, rfl, H.scalar, hl5⟩
theorem math_bits_Len64_c {m : Mem} {w : World} (hm : Has m w) (x_ : UInt64) {r : Int} (hf : math_bits_Len64 x_ = some r) :
    Calls Tryd.prog 58 #[.int .u64 (x_.toNat : Int)] w fun e w' => ∃ v, e = .returned v ∧ v = .int .i64 r ∧ Ex w w' := by
  unfold math_bits_Len64 at hf
  have H := St.start0 hm
  refine callsR Tryd.func58 (by kernel_rfl) (by kernel_rfl) ?_
  refine seg 10 [.co [1, 0, 1], .co [1, 1]] [(0, .int .u64 (x_.toNat : Int)), (2, .int .i64 0), (4, .bool (decide ((x_.toNat : Int) ≥ 4294967296)))] (by kernel_rfl) ?_
  rcases condT hf with ⟨hb9, hf⟩ | ⟨hb9, hf⟩
  · rw [hb9]
    have p9 := of_decide_eq_true hb9
    refine seg 4 [.op [1, 0, 1, 0, 0] 1, .co [1, 0, 1, 0, 1], .co [1, 1]] [(5, .int .u64 (x_.toNat : Int))] (by kernel_rfl) ?_
    refine st (runR (by kernel_rfl : fetch _ _ _ _ _ = some ((some 6), vS (Op.shift .shr .u64 (x_.toNat : Int) .u64 32))) (shr64_run _ _ (by decide)) ?_)
    refine seg 11 [.co [1, 1, 0, 1], .co [1, 1, 1]] [(0, .int .u64 ((shr64 x_ 32).toNat : Int)), (2, .int .i64 32), (8, .bool (decide (((shr64 x_ 32).toNat : Int) ≥ 65536)))] (by kernel_rfl) ?_
    rcases condT hf with ⟨hb10, hf⟩ | ⟨hb10, hf⟩
    · rw [hb10]
      have p10 := of_decide_eq_true hb10
      refine seg 4 [.op [1, 1, 0, 1, 0, 0] 1, .co [1, 1, 0, 1, 0, 1], .co [1, 1, 1]] [(2, .int .i64 32), (9, .int .u64 ((shr64 x_ 32).toNat : Int))] (by kernel_rfl) ?_
      refine st (runR (by kernel_rfl : fetch _ _ _ _ _ = some ((some 10), vS (Op.shift .shr .u64 ((shr64 x_ 32).toNat : Int) .u64 16))) (shr64_run _ _ (by decide)) ?_)
      refine seg 13 [.co [1, 1, 1, 0, 1], .co [1, 1, 1, 1]] [(0, .int .u64 ((shr64 (shr64 x_ 32) 16).toNat : Int)), (2, .int .i64 48), (14, .bool (decide (((shr64 (shr64 x_ 32) 16).toNat : Int) ≥ 256)))] (by kernel_rfl) ?_
      rcases condT hf with ⟨hb11, hf⟩ | ⟨hb11, hf⟩
      · rw [hb11]
        have p11 := of_decide_eq_true hb11
        refine seg 4 [.op [1, 1, 1, 0, 1, 0, 0] 1, .co [1, 1, 1, 0, 1, 0, 1], .co [1, 1, 1, 1]] [(2, .int .i64 48), (15, .int .u64 ((shr64 (shr64 x_ 32) 16).toNat : Int))] (by kernel_rfl) ?_
        refine st (runR (by kernel_rfl : fetch _ _ _ _ _ = some ((some 16), vS (Op.shift .shr .u64 ((shr64 (shr64 x_ 32) 16).toNat : Int) .u64 8))) (shr64_run _ _ (by decide)) ?_)
        refine seg 12 [.op [1, 1, 1, 1, 0] 3, .co [1, 1, 1, 1, 1]] [(19, .int .i64 56), (21, .int .u8 (IntKind.u8.wrap ((shr64 (shr64 (shr64 x_ 32) 16) 8).toNat : Int)))] (by kernel_rfl) ?_
        rw [q8_u64 (shr64 (shr64 (shr64 x_ 32) 16) 8)]
        obtain ⟨c, h_c, hf⟩ := bindE hf
        refine st (strS (some 22) 9 ([0, 1, 2, 2, 3, 3, 3, 3, 4, 4, 4, 4, 4, 4, 4, 4, 5, 5, 5, 5, 5, 5, 5, 5, 5, 5, 5, 5, 5, 5, 5, 5, 6, 6, 6, 6, 6, 6, 6, 6, 6, 6, 6, 6, 6, 6, 6, 6, 6, 6, 6, 6, 6, 6, 6, 6, 6, 6, 6, 6, 6, 6, 6, 6, 7, 7, 7, 7, 7, 7, 7, 7, 7, 7, 7, 7, 7, 7, 7, 7, 7, 7, 7, 7, 7, 7, 7, 7, 7, 7, 7, 7, 7, 7, 7, 7, 7, 7, 7, 7, 7, 7, 7, 7, 7, 7, 7, 7, 7, 7, 7, 7, 7, 7, 7, 7, 7, 7, 7, 7, 7, 7, 7, 7, 7, 7, 7, 7, 8, 8, 8, 8, 8, 8, 8, 8, 8, 8, 8, 8, 8, 8, 8, 8, 8, 8, 8, 8, 8, 8, 8, 8, 8, 8, 8, 8, 8, 8, 8, 8, 8, 8, 8, 8, 8, 8, 8, 8, 8, 8, 8, 8, 8, 8, 8, 8, 8, 8, 8, 8, 8, 8, 8, 8, 8, 8, 8, 8, 8, 8, 8, 8, 8, 8, 8, 8, 8, 8, 8, 8, 8, 8, 8, 8, 8, 8, 8, 8, 8, 8, 8, 8, 8, 8, 8, 8, 8, 8, 8, 8, 8, 8, 8, 8, 8, 8, 8, 8, 8, 8, 8, 8, 8, 8, 8, 8, 8, 8, 8, 8, 8, 8, 8, 8, 8, 8, 8, 8, 8, 8, 8, 8, 8, 8, 8, 8] : List UInt8) .u8 (((shr64 (shr64 (shr64 x_ 32) 16) 8).toUInt8).toNat : Int) c (by kernel_rfl) (by kernel_rfl) h_c ?_)
        refine seg 4 [.co [1, 1, 1, 1, 1]] [(2, .int .i64 (IntKind.i64.wrap (56 + (IntKind.i64.wrap (c.toNat : Int)))))] (by kernel_rfl) ?_
        have := c.toNat_lt
        rw [show IntKind.i64.wrap (c.toNat : Int) = (c.toNat : Int) from w64 (by omega)]
        have := c.toNat_lt
        rw [show IntKind.i64.wrap (56 + (c.toNat : Int)) = (56 + (c.toNat : Int)) from w64 (by omega)]
        refine retR [2] [.int .i64 (56 + (c.toNat : Int))] (by kernel_rfl) (by kernel_rfl) (by kernel_rfl) ?_
        obtain rfl : (56 + (c.toNat : Int)) = r := (Option.some.inj hf)
        exact ⟨_, rfl, rfl, H.scalar⟩
      · rw [hb11]
        have p11 := of_decide_eq_false hb11
        refine seg 7 [.op [1, 1, 1, 1, 0] 3, .co [1, 1, 1, 1, 1]] [(19, .int .i64 48), (21, .int .u8 (IntKind.u8.wrap ((shr64 (shr64 x_ 32) 16).toNat : Int)))] (by kernel_rfl) ?_
        rw [q8_u64 (shr64 (shr64 x_ 32) 16)]
        obtain ⟨c1, h_c1, hf⟩ := bindE hf
        refine st (strS (some 22) 9 ([0, 1, 2, 2, 3, 3, 3, 3, 4, 4, 4, 4, 4, 4, 4, 4, 5, 5, 5, 5, 5, 5, 5, 5, 5, 5, 5, 5, 5, 5, 5, 5, 6, 6, 6, 6, 6, 6, 6, 6, 6, 6, 6, 6, 6, 6, 6, 6, 6, 6, 6, 6, 6, 6, 6, 6, 6, 6, 6, 6, 6, 6, 6, 6, 7, 7, 7, 7, 7, 7, 7, 7, 7, 7, 7, 7, 7, 7, 7, 7, 7, 7, 7, 7, 7, 7, 7, 7, 7, 7, 7, 7, 7, 7, 7, 7, 7, 7, 7, 7, 7, 7, 7, 7, 7, 7, 7, 7, 7, 7, 7, 7, 7, 7, 7, 7, 7, 7, 7, 7, 7, 7, 7, 7, 7, 7, 7, 7, 8, 8, 8, 8, 8, 8, 8, 8, 8, 8, 8, 8, 8, 8, 8, 8, 8, 8, 8, 8, 8, 8, 8, 8, 8, 8, 8, 8, 8, 8, 8, 8, 8, 8, 8, 8, 8, 8, 8, 8, 8, 8, 8, 8, 8, 8, 8, 8, 8, 8, 8, 8, 8, 8, 8, 8, 8, 8, 8, 8, 8, 8, 8, 8, 8, 8, 8, 8, 8, 8, 8, 8, 8, 8, 8, 8, 8, 8, 8, 8, 8, 8, 8, 8, 8, 8, 8, 8, 8, 8, 8, 8, 8, 8, 8, 8, 8, 8, 8, 8, 8, 8, 8, 8, 8, 8, 8, 8, 8, 8, 8, 8, 8, 8, 8, 8, 8, 8, 8, 8, 8, 8, 8, 8, 8, 8, 8, 8] : List UInt8) .u8 (((shr64 (shr64 x_ 32) 16).toUInt8).toNat : Int) c1 (by kernel_rfl) (by kernel_rfl) h_c1 ?_)
        refine seg 4 [.co [1, 1, 1, 1, 1]] [(2, .int .i64 (IntKind.i64.wrap (48 + (IntKind.i64.wrap (c1.toNat : Int)))))] (by kernel_rfl) ?_
        have := c1.toNat_lt
        rw [show IntKind.i64.wrap (c1.toNat : Int) = (c1.toNat : Int) from w64 (by omega)]
        have := c1.toNat_lt
        rw [show IntKind.i64.wrap (48 + (c1.toNat : Int)) = (48 + (c1.toNat : Int)) from w64 (by omega)]
        refine retR [2] [.int .i64 (48 + (c1.toNat : Int))] (by kernel_rfl) (by kernel_rfl) (by kernel_rfl) ?_
        obtain rfl : (48 + (c1.toNat : Int)) = r := (Option.some.inj hf)
        exact ⟨_, rfl, rfl, H.scalar⟩
    · rw [hb10]
      have p10 := of_decide_eq_false hb10
      refine seg 8 [.co [1, 1, 1, 0, 1], .co [1, 1, 1, 1]] [(0, .int .u64 ((shr64 x_ 32).toNat : Int)), (2, .int .i64 32), (14, .bool (decide (((shr64 x_ 32).toNat : Int) ≥ 256)))] (by kernel_rfl) ?_
      rcases condT hf with ⟨hb12, hf⟩ | ⟨hb12, hf⟩
      · rw [hb12]
        have p12 := of_decide_eq_true hb12
        refine seg 4 [.op [1, 1, 1, 0, 1, 0, 0] 1, .co [1, 1, 1, 0, 1, 0, 1], .co [1, 1, 1, 1]] [(2, .int .i64 32), (15, .int .u64 ((shr64 x_ 32).toNat : Int))] (by kernel_rfl) ?_
        refine st (runR (by kernel_rfl : fetch _ _ _ _ _ = some ((some 16), vS (Op.shift .shr .u64 ((shr64 x_ 32).toNat : Int) .u64 8))) (shr64_run _ _ (by decide)) ?_)
        refine seg 12 [.op [1, 1, 1, 1, 0] 3, .co [1, 1, 1, 1, 1]] [(19, .int .i64 40), (21, .int .u8 (IntKind.u8.wrap ((shr64 (shr64 x_ 32) 8).toNat : Int)))] (by kernel_rfl) ?_
        rw [q8_u64 (shr64 (shr64 x_ 32) 8)]
        obtain ⟨c2, h_c2, hf⟩ := bindE hf
        refine st (strS (some 22) 9 ([0, 1, 2, 2, 3, 3, 3, 3, 4, 4, 4, 4, 4, 4, 4, 4, 5, 5, 5, 5, 5, 5, 5, 5, 5, 5, 5, 5, 5, 5, 5, 5, 6, 6, 6, 6, 6, 6, 6, 6, 6, 6, 6, 6, 6, 6, 6, 6, 6, 6, 6, 6, 6, 6, 6, 6, 6, 6, 6, 6, 6, 6, 6, 6, 7, 7, 7, 7, 7, 7, 7, 7, 7, 7, 7, 7, 7, 7, 7, 7, 7, 7, 7, 7, 7, 7, 7, 7, 7, 7, 7, 7, 7, 7, 7, 7, 7, 7, 7, 7, 7, 7, 7, 7, 7, 7, 7, 7, 7, 7, 7, 7, 7, 7, 7, 7, 7, 7, 7, 7, 7, 7, 7, 7, 7, 7, 7, 7, 8, 8, 8, 8, 8, 8, 8, 8, 8, 8, 8, 8, 8, 8, 8, 8, 8, 8, 8, 8, 8, 8, 8, 8, 8, 8, 8, 8, 8, 8, 8, 8, 8, 8, 8, 8, 8, 8, 8, 8, 8, 8, 8, 8, 8, 8, 8, 8, 8, 8, 8, 8, 8, 8, 8, 8, 8, 8, 8, 8, 8, 8, 8, 8, 8, 8, 8, 8, 8, 8, 8, 8, 8, 8, 8, 8, 8, 8, 8, 8, 8, 8, 8, 8, 8, 8, 8, 8, 8, 8, 8, 8, 8, 8, 8, 8, 8, 8, 8, 8, 8, 8, 8, 8, 8, 8, 8, 8, 8, 8, 8, 8, 8, 8, 8, 8, 8, 8, 8, 8, 8, 8, 8, 8, 8, 8, 8, 8] : List UInt8) .u8 (((shr64 (shr64 x_ 32) 8).toUInt8).toNat : Int) c2 (by kernel_rfl) (by kernel_rfl) h_c2 ?_)
        refine seg 4 [.co [1, 1, 1, 1, 1]] [(2, .int .i64 (IntKind.i64.wrap (40 + (IntKind.i64.wrap (c2.toNat : Int)))))] (by kernel_rfl) ?_
        have := c2.toNat_lt
        rw [show IntKind.i64.wrap (c2.toNat : Int) = (c2.toNat : Int) from w64 (by omega)]
        have := c2.toNat_lt
        rw [show IntKind.i64.wrap (40 + (c2.toNat : Int)) = (40 + (c2.toNat : Int)) from w64 (by omega)]
        refine retR [2] [.int .i64 (40 + (c2.toNat : Int))] (by kernel_rfl) (by kernel_rfl) (by kernel_rfl) ?_
        obtain rfl : (40 + (c2.toNat : Int)) = r := (Option.some.inj hf)
        exact ⟨_, rfl, rfl, H.scalar⟩
      · rw [hb12]
        have p12 := of_decide_eq_false hb12
        refine seg 7 [.op [1, 1, 1, 1, 0] 3, .co [1, 1, 1, 1, 1]] [(19, .int .i64 32), (21, .int .u8 (IntKind.u8.wrap ((shr64 x_ 32).toNat : Int)))] (by kernel_rfl) ?_
        rw [q8_u64 (shr64 x_ 32)]
        obtain ⟨c3, h_c3, hf⟩ := bindE hf
        refine st (strS (some 22) 9 ([0, 1, 2, 2, 3, 3, 3, 3, 4, 4, 4, 4, 4, 4, 4, 4, 5, 5, 5, 5, 5, 5, 5, 5, 5, 5, 5, 5, 5, 5, 5, 5, 6, 6, 6, 6, 6, 6, 6, 6, 6, 6, 6, 6, 6, 6, 6, 6, 6, 6, 6, 6, 6, 6, 6, 6, 6, 6, 6, 6, 6, 6, 6, 6, 7, 7, 7, 7, 7, 7, 7, 7, 7, 7, 7, 7, 7, 7, 7, 7, 7, 7, 7, 7, 7, 7, 7, 7, 7, 7, 7, 7, 7, 7, 7, 7, 7, 7, 7, 7, 7, 7, 7, 7, 7, 7, 7, 7, 7, 7, 7, 7, 7, 7, 7, 7, 7, 7, 7, 7, 7, 7, 7, 7, 7, 7, 7, 7, 8, 8, 8, 8, 8, 8, 8, 8, 8, 8, 8, 8, 8, 8, 8, 8, 8, 8, 8, 8, 8, 8, 8, 8, 8, 8, 8, 8, 8, 8, 8, 8, 8, 8, 8, 8, 8, 8, 8, 8, 8, 8, 8, 8, 8, 8, 8, 8, 8, 8, 8, 8, 8, 8, 8, 8, 8, 8, 8, 8, 8, 8, 8, 8, 8, 8, 8, 8, 8, 8, 8, 8, 8, 8, 8, 8, 8, 8, 8, 8, 8, 8, 8, 8, 8, 8, 8, 8, 8, 8, 8, 8, 8, 8, 8, 8, 8, 8, 8, 8, 8, 8, 8, 8, 8, 8, 8, 8, 8, 8, 8, 8, 8, 8, 8, 8, 8, 8, 8, 8, 8, 8, 8, 8, 8, 8, 8, 8] : List UInt8) .u8 (((shr64 x_ 32).toUInt8).toNat : Int) c3 (by kernel_rfl) (by kernel_rfl) h_c3 ?_)
        refine seg 4 [.co [1, 1, 1, 1, 1]] [(2, .int .i64 (IntKind.i64.wrap (32 + (IntKind.i64.wrap (c3.toNat : Int)))))] (by kernel_rfl) ?_
        have := c3.toNat_lt
        rw [show IntKind.i64.wrap (c3.toNat : Int) = (c3.toNat : Int) from w64 (by omega)]
        have := c3.toNat_lt
        rw [show IntKind.i64.wrap (32 + (c3.toNat : Int)) = (32 + (c3.toNat : Int)) from w64 (by omega)]
        refine retR [2] [.int .i64 (32 + (c3.toNat : Int))] (by kernel_rfl) (by kernel_rfl) (by kernel_rfl) ?_
        obtain rfl : (32 + (c3.toNat : Int)) = r := (Option.some.inj hf)
        exact ⟨_, rfl, rfl, H.scalar⟩
  · rw [hb9]
    have p9 := of_decide_eq_false hb9
    refine seg 8 [.co [1, 1, 0, 1], .co [1, 1, 1]] [(0, .int .u64 (x_.toNat : Int)), (2, .int .i64 0), (8, .bool (decide ((x_.toNat : Int) ≥ 65536)))] (by kernel_rfl) ?_
    rcases condT hf with ⟨hb13, hf⟩ | ⟨hb13, hf⟩
    · rw [hb13]
      have p13 := of_decide_eq_true hb13
      refine seg 4 [.op [1, 1, 0, 1, 0, 0] 1, .co [1, 1, 0, 1, 0, 1], .co [1, 1, 1]] [(2, .int .i64 0), (9, .int .u64 (x_.toNat : Int))] (by kernel_rfl) ?_
      refine st (runR (by kernel_rfl : fetch _ _ _ _ _ = some ((some 10), vS (Op.shift .shr .u64 (x_.toNat : Int) .u64 16))) (shr64_run _ _ (by decide)) ?_)
      refine seg 13 [.co [1, 1, 1, 0, 1], .co [1, 1, 1, 1]] [(0, .int .u64 ((shr64 x_ 16).toNat : Int)), (2, .int .i64 16), (14, .bool (decide (((shr64 x_ 16).toNat : Int) ≥ 256)))] (by kernel_rfl) ?_
      rcases condT hf with ⟨hb14, hf⟩ | ⟨hb14, hf⟩
      · rw [hb14]
        have p14 := of_decide_eq_true hb14
        refine seg 4 [.op [1, 1, 1, 0, 1, 0, 0] 1, .co [1, 1, 1, 0, 1, 0, 1], .co [1, 1, 1, 1]] [(2, .int .i64 16), (15, .int .u64 ((shr64 x_ 16).toNat : Int))] (by kernel_rfl) ?_
        refine st (runR (by kernel_rfl : fetch _ _ _ _ _ = some ((some 16), vS (Op.shift .shr .u64 ((shr64 x_ 16).toNat : Int) .u64 8))) (shr64_run _ _ (by decide)) ?_)
        refine seg 12 [.op [1, 1, 1, 1, 0] 3, .co [1, 1, 1, 1, 1]] [(19, .int .i64 24), (21, .int .u8 (IntKind.u8.wrap ((shr64 (shr64 x_ 16) 8).toNat : Int)))] (by kernel_rfl) ?_
        rw [q8_u64 (shr64 (shr64 x_ 16) 8)]
        obtain ⟨c4, h_c4, hf⟩ := bindE hf
        refine st (strS (some 22) 9 ([0, 1, 2, 2, 3, 3, 3, 3, 4, 4, 4, 4, 4, 4, 4, 4, 5, 5, 5, 5, 5, 5, 5, 5, 5, 5, 5, 5, 5, 5, 5, 5, 6, 6, 6, 6, 6, 6, 6, 6, 6, 6, 6, 6, 6, 6, 6, 6, 6, 6, 6, 6, 6, 6, 6, 6, 6, 6, 6, 6, 6, 6, 6, 6, 7, 7, 7, 7, 7, 7, 7, 7, 7, 7, 7, 7, 7, 7, 7, 7, 7, 7, 7, 7, 7, 7, 7, 7, 7, 7, 7, 7, 7, 7, 7, 7, 7, 7, 7, 7, 7, 7, 7, 7, 7, 7, 7, 7, 7, 7, 7, 7, 7, 7, 7, 7, 7, 7, 7, 7, 7, 7, 7, 7, 7, 7, 7, 7, 8, 8, 8, 8, 8, 8, 8, 8, 8, 8, 8, 8, 8, 8, 8, 8, 8, 8, 8, 8, 8, 8, 8, 8, 8, 8, 8, 8, 8, 8, 8, 8, 8, 8, 8, 8, 8, 8, 8, 8, 8, 8, 8, 8, 8, 8, 8, 8, 8, 8, 8, 8, 8, 8, 8, 8, 8, 8, 8, 8, 8, 8, 8, 8, 8, 8, 8, 8, 8, 8, 8, 8, 8, 8, 8, 8, 8, 8, 8, 8, 8, 8, 8, 8, 8, 8, 8, 8, 8, 8, 8, 8, 8, 8, 8, 8, 8, 8, 8, 8, 8, 8, 8, 8, 8, 8, 8, 8, 8, 8, 8, 8, 8, 8, 8, 8, 8, 8, 8, 8, 8, 8, 8, 8, 8, 8, 8, 8] : List UInt8) .u8 (((shr64 (shr64 x_ 16) 8).toUInt8).toNat : Int) c4 (by kernel_rfl) (by kernel_rfl) h_c4 ?_)
        refine seg 4 [.co [1, 1, 1, 1, 1]] [(2, .int .i64 (IntKind.i64.wrap (24 + (IntKind.i64.wrap (c4.toNat : Int)))))] (by kernel_rfl) ?_
        have := c4.toNat_lt
        rw [show IntKind.i64.wrap (c4.toNat : Int) = (c4.toNat : Int) from w64 (by omega)]
        have := c4.toNat_lt
        rw [show IntKind.i64.wrap (24 + (c4.toNat : Int)) = (24 + (c4.toNat : Int)) from w64 (by omega)]
        refine retR [2] [.int .i64 (24 + (c4.toNat : Int))] (by kernel_rfl) (by kernel_rfl) (by kernel_rfl) ?_
        obtain rfl : (24 + (c4.toNat : Int)) = r := (Option.some.inj hf)
        exact ⟨_, rfl, rfl, H.scalar⟩
      · rw [hb14]
        have p14 := of_decide_eq_false hb14
        refine seg 7 [.op [1, 1, 1, 1, 0] 3, .co [1, 1, 1, 1, 1]] [(19, .int .i64 16), (21, .int .u8 (IntKind.u8.wrap ((shr64 x_ 16).toNat : Int)))] (by kernel_rfl) ?_
        rw [q8_u64 (shr64 x_ 16)]
        obtain ⟨c5, h_c5, hf⟩ := bindE hf
        refine st (strS (some 22) 9 ([0, 1, 2, 2, 3, 3, 3, 3, 4, 4, 4, 4, 4, 4, 4, 4, 5, 5, 5, 5, 5, 5, 5, 5, 5, 5, 5, 5, 5, 5, 5, 5, 6, 6, 6, 6, 6, 6, 6, 6, 6, 6, 6, 6, 6, 6, 6, 6, 6, 6, 6, 6, 6, 6, 6, 6, 6, 6, 6, 6, 6, 6, 6, 6, 7, 7, 7, 7, 7, 7, 7, 7, 7, 7, 7, 7, 7, 7, 7, 7, 7, 7, 7, 7, 7, 7, 7, 7, 7, 7, 7, 7, 7, 7, 7, 7, 7, 7, 7, 7, 7, 7, 7, 7, 7, 7, 7, 7, 7, 7, 7, 7, 7, 7, 7, 7, 7, 7, 7, 7, 7, 7, 7, 7, 7, 7, 7, 7, 8, 8, 8, 8, 8, 8, 8, 8, 8, 8, 8, 8, 8, 8, 8, 8, 8, 8, 8, 8, 8, 8, 8, 8, 8, 8, 8, 8, 8, 8, 8, 8, 8, 8, 8, 8, 8, 8, 8, 8, 8, 8, 8, 8, 8, 8, 8, 8, 8, 8, 8, 8, 8, 8, 8, 8, 8, 8, 8, 8, 8, 8, 8, 8, 8, 8, 8, 8, 8, 8, 8, 8, 8, 8, 8, 8, 8, 8, 8, 8, 8, 8, 8, 8, 8, 8, 8, 8, 8, 8, 8, 8, 8, 8, 8, 8, 8, 8, 8, 8, 8, 8, 8, 8, 8, 8, 8, 8, 8, 8, 8, 8, 8, 8, 8, 8, 8, 8, 8, 8, 8, 8, 8, 8, 8, 8, 8, 8] : List UInt8) .u8 (((shr64 x_ 16).toUInt8).toNat : Int) c5 (by kernel_rfl) (by kernel_rfl) h_c5 ?_)
        refine seg 4 [.co [1, 1, 1, 1, 1]] [(2, .int .i64 (IntKind.i64.wrap (16 + (IntKind.i64.wrap (c5.toNat : Int)))))] (by kernel_rfl) ?_
        have := c5.toNat_lt
        rw [show IntKind.i64.wrap (c5.toNat : Int) = (c5.toNat : Int) from w64 (by omega)]
        have := c5.toNat_lt
        rw [show IntKind.i64.wrap (16 + (c5.toNat : Int)) = (16 + (c5.toNat : Int)) from w64 (by omega)]
        refine retR [2] [.int .i64 (16 + (c5.toNat : Int))] (by kernel_rfl) (by kernel_rfl) (by kernel_rfl) ?_
        obtain rfl : (16 + (c5.toNat : Int)) = r := (Option.some.inj hf)
        exact ⟨_, rfl, rfl, H.scalar⟩
    · rw [hb13]
      have p13 := of_decide_eq_false hb13
      refine seg 8 [.co [1, 1, 1, 0, 1], .co [1, 1, 1, 1]] [(0, .int .u64 (x_.toNat : Int)), (2, .int .i64 0), (14, .bool (decide ((x_.toNat : Int) ≥ 256)))] (by kernel_rfl) ?_
      rcases condT hf with ⟨hb15, hf⟩ | ⟨hb15, hf⟩
      · rw [hb15]
        have p15 := of_decide_eq_true hb15
        refine seg 4 [.op [1, 1, 1, 0, 1, 0, 0] 1, .co [1, 1, 1, 0, 1, 0, 1], .co [1, 1, 1, 1]] [(2, .int .i64 0), (15, .int .u64 (x_.toNat : Int))] (by kernel_rfl) ?_
        refine st (runR (by kernel_rfl : fetch _ _ _ _ _ = some ((some 16), vS (Op.shift .shr .u64 (x_.toNat : Int) .u64 8))) (shr64_run _ _ (by decide)) ?_)
        refine seg 12 [.op [1, 1, 1, 1, 0] 3, .co [1, 1, 1, 1, 1]] [(19, .int .i64 8), (21, .int .u8 (IntKind.u8.wrap ((shr64 x_ 8).toNat : Int)))] (by kernel_rfl) ?_
        rw [q8_u64 (shr64 x_ 8)]
        obtain ⟨c6, h_c6, hf⟩ := bindE hf
        refine st (strS (some 22) 9 ([0, 1, 2, 2, 3, 3, 3, 3, 4, 4, 4, 4, 4, 4, 4, 4, 5, 5, 5, 5, 5, 5, 5, 5, 5, 5, 5, 5, 5, 5, 5, 5, 6, 6, 6, 6, 6, 6, 6, 6, 6, 6, 6, 6, 6, 6, 6, 6, 6, 6, 6, 6, 6, 6, 6, 6, 6, 6, 6, 6, 6, 6, 6, 6, 7, 7, 7, 7, 7, 7, 7, 7, 7, 7, 7, 7, 7, 7, 7, 7, 7, 7, 7, 7, 7, 7, 7, 7, 7, 7, 7, 7, 7, 7, 7, 7, 7, 7, 7, 7, 7, 7, 7, 7, 7, 7, 7, 7, 7, 7, 7, 7, 7, 7, 7, 7, 7, 7, 7, 7, 7, 7, 7, 7, 7, 7, 7, 7, 8, 8, 8, 8, 8, 8, 8, 8, 8, 8, 8, 8, 8, 8, 8, 8, 8, 8, 8, 8, 8, 8, 8, 8, 8, 8, 8, 8, 8, 8, 8, 8, 8, 8, 8, 8, 8, 8, 8, 8, 8, 8, 8, 8, 8, 8, 8, 8, 8, 8, 8, 8, 8, 8, 8, 8, 8, 8, 8, 8, 8, 8, 8, 8, 8, 8, 8, 8, 8, 8, 8, 8, 8, 8, 8, 8, 8, 8, 8, 8, 8, 8, 8, 8, 8, 8, 8, 8, 8, 8, 8, 8, 8, 8, 8, 8, 8, 8, 8, 8, 8, 8, 8, 8, 8, 8, 8, 8, 8, 8, 8, 8, 8, 8, 8, 8, 8, 8, 8, 8, 8, 8, 8, 8, 8, 8, 8, 8] : List UInt8) .u8 (((shr64 x_ 8).toUInt8).toNat : Int) c6 (by kernel_rfl) (by kernel_rfl) h_c6 ?_)
        refine seg 4 [.co [1, 1, 1, 1, 1]] [(2, .int .i64 (IntKind.i64.wrap (8 + (IntKind.i64.wrap (c6.toNat : Int)))))] (by kernel_rfl) ?_
        have := c6.toNat_lt
        rw [show IntKind.i64.wrap (c6.toNat : Int) = (c6.toNat : Int) from w64 (by omega)]
        have := c6.toNat_lt
        rw [show IntKind.i64.wrap (8 + (c6.toNat : Int)) = (8 + (c6.toNat : Int)) from w64 (by omega)]
        refine retR [2] [.int .i64 (8 + (c6.toNat : Int))] (by kernel_rfl) (by kernel_rfl) (by kernel_rfl) ?_
        obtain rfl : (8 + (c6.toNat : Int)) = r := (Option.some.inj hf)
        exact ⟨_, rfl, rfl, H.scalar⟩
      · rw [hb15]
        have p15 := of_decide_eq_false hb15
        refine seg 7 [.op [1, 1, 1, 1, 0] 3, .co [1, 1, 1, 1, 1]] [(19, .int .i64 0), (21, .int .u8 (IntKind.u8.wrap (x_.toNat : Int)))] (by kernel_rfl) ?_
        rw [q8_u64 x_]
        obtain ⟨c7, h_c7, hf⟩ := bindE hf
        refine st (strS (some 22) 9 ([0, 1, 2, 2, 3, 3, 3, 3, 4, 4, 4, 4, 4, 4, 4, 4, 5, 5, 5, 5, 5, 5, 5, 5, 5, 5, 5, 5, 5, 5, 5, 5, 6, 6, 6, 6, 6, 6, 6, 6, 6, 6, 6, 6, 6, 6, 6, 6, 6, 6, 6, 6, 6, 6, 6, 6, 6, 6, 6, 6, 6, 6, 6, 6, 7, 7, 7, 7, 7, 7, 7, 7, 7, 7, 7, 7, 7, 7, 7, 7, 7, 7, 7, 7, 7, 7, 7, 7, 7, 7, 7, 7, 7, 7, 7, 7, 7, 7, 7, 7, 7, 7, 7, 7, 7, 7, 7, 7, 7, 7, 7, 7, 7, 7, 7, 7, 7, 7, 7, 7, 7, 7, 7, 7, 7, 7, 7, 7, 8, 8, 8, 8, 8, 8, 8, 8, 8, 8, 8, 8, 8, 8, 8, 8, 8, 8, 8, 8, 8, 8, 8, 8, 8, 8, 8, 8, 8, 8, 8, 8, 8, 8, 8, 8, 8, 8, 8, 8, 8, 8, 8, 8, 8, 8, 8, 8, 8, 8, 8, 8, 8, 8, 8, 8, 8, 8, 8, 8, 8, 8, 8, 8, 8, 8, 8, 8, 8, 8, 8, 8, 8, 8, 8, 8, 8, 8, 8, 8, 8, 8, 8, 8, 8, 8, 8, 8, 8, 8, 8, 8, 8, 8, 8, 8, 8, 8, 8, 8, 8, 8, 8, 8, 8, 8, 8, 8, 8, 8, 8, 8, 8, 8, 8, 8, 8, 8, 8, 8, 8, 8, 8, 8, 8, 8, 8, 8] : List UInt8) .u8 (x_.toUInt8.toNat : Int) c7 (by kernel_rfl) (by kernel_rfl) h_c7 ?_)
        refine seg 4 [.co [1, 1, 1, 1, 1]] [(2, .int .i64 (IntKind.i64.wrap (0 + (IntKind.i64.wrap (c7.toNat : Int)))))] (by kernel_rfl) ?_
        have := c7.toNat_lt
        rw [show IntKind.i64.wrap (c7.toNat : Int) = (c7.toNat : Int) from w64 (by omega)]
        have := c7.toNat_lt
        rw [show IntKind.i64.wrap (0 + (c7.toNat : Int)) = (0 + (c7.toNat : Int)) from w64 (by omega)]
        refine retR [2] [.int .i64 (0 + (c7.toNat : Int))] (by kernel_rfl) (by kernel_rfl) (by kernel_rfl) ?_
        obtain rfl : (0 + (c7.toNat : Int)) = r := (Option.some.inj hf)
        exact ⟨_, rfl, rfl, H.scalar⟩
theorem internal_strconv_log10Pow2_c {m : Mem} {w : World} (hm : Has m w) (x_ : Int) :
    Calls Tryd.prog 57 #[.int .i64 x_] w fun e w' => ∃ v, e = .returned v ∧ v = .int .i64 (internal_strconv_log10Pow2 x_) ∧ Ex w w' := by
  generalize hf : internal_strconv_log10Pow2 x_ = r
  unfold internal_strconv_log10Pow2 at hf
  have H := St.start0 hm
  refine callsR Tryd.func57 (by kernel_rfl) (by kernel_rfl) ?_
  refine seg 8 [.op [1, 0] 2, .co [1, 1]] [(4, .int .i64 (IntKind.i64.wrap (x_ * 78913)))] (by kernel_rfl) ?_
  refine st (runR (by kernel_rfl : fetch _ _ _ _ _ = some ((some 5), vS (Op.shift .shr .i64 (IntKind.i64.wrap (x_ * 78913)) .u64 18))) (shrI_run _ _ (by decide)) ?_)
  refine seg 2 [.co [1, 1]] [(2, .int .i64 (shrI (IntKind.i64.wrap (x_ * 78913)) 18))] (by kernel_rfl) ?_
  refine retR [2] [.int .i64 (shrI (IntKind.i64.wrap (x_ * 78913)) 18)] (by kernel_rfl) (by kernel_rfl) (by kernel_rfl) ?_
  obtain rfl : (shrI (IntKind.i64.wrap (x_ * 78913)) 18) = r := hf
  exact ⟨_, rfl, rfl, H.scalar⟩
theorem internal_strconv_bool2_c {m : Mem} {w : World} (hm : Has m w) (b : Bool) :
    Calls Tryd.prog 59 #[.bool b] w fun e w' => ∃ v, e = .returned v ∧ v = .int .i64 (internal_strconv_bool2 b) ∧ Ex w w' := by
  generalize hf : internal_strconv_bool2 b = r
  unfold internal_strconv_bool2 at hf
  have H := St.start0 hm
  refine callsR Tryd.func59 (by kernel_rfl) (by kernel_rfl) ?_
  refine seg 9 [.co [1, 0, 1], .co [1, 1]] [(3, .bool b)] (by kernel_rfl) ?_
  rcases condT hf with ⟨hb2, hf⟩ | ⟨hb2, hf⟩
  · rw [hb2]
    refine seg 5 [.co [1, 0, 1, 0, 1], .co [1, 1]] [(2, .int .i64 1)] (by kernel_rfl) ?_
    refine retR [2] [.int .i64 1] (by kernel_rfl) (by kernel_rfl) (by kernel_rfl) ?_
    obtain rfl : 1 = r := hf
    exact ⟨_, rfl, rfl, H.scalar⟩
  · rw [hb2]
    refine seg 6 [.co [1, 1, 1]] [(2, .int .i64 0)] (by kernel_rfl) ?_
    refine retR [2] [.int .i64 0] (by kernel_rfl) (by kernel_rfl) (by kernel_rfl) ?_
    obtain rfl : 0 = r := hf
    exact ⟨_, rfl, rfl, H.scalar⟩
theorem internal_strconv_numDigits_c {m : Mem} {w : World} (hm : Has m w) (hG0 : TabM m 0 (tab0.map fU64)) (d : UInt64) {r : Int} (hf : internal_strconv_numDigits d = some r) :
    Calls Tryd.prog 54 #[.int .u64 (d.toNat : Int)] w fun e w' => ∃ v, e = .returned v ∧ v = .int .i64 r ∧ Ex w w' := by
  unfold internal_strconv_numDigits at hf
  have H := St.start0 hm
  refine callsR Tryd.func54 (by kernel_rfl) (by kernel_rfl) ?_
  refine seg 7 [.op [1, 0] 1, .co [1, 1]] [(0, .int .u64 (d.toNat : Int)), (4, .int .u64 (d.toNat : Int))] (by kernel_rfl) ?_
  obtain ⟨len64, h_len64, hf⟩ := bindE hf
  refine st (callR (some 5) 58 #[.int .u64 (d.toNat : Int)] Tryd.call58 (math_bits_Len64_c H.has d h_len64) (by kernel_rfl) ?_)
  rintro _ w1 ⟨rfl, hx1⟩
  replace H := H.ex hx1
  refine st (callR (some 6) 57 #[.int .i64 len64] Tryd.call57 (internal_strconv_log10Pow2_c H.has len64) (by kernel_rfl) ?_)
  rintro _ w2 ⟨rfl, hx2⟩
  replace H := H.ex hx2
  refine seg 7 [.op [1, 1, 0] 3, .co [1, 1, 1]] [(7, .int .i64 (internal_strconv_log10Pow2 len64)), (8, .int .u64 (d.toNat : Int)), (9, .int .i64 (internal_strconv_log10Pow2 len64))] (by kernel_rfl) ?_
  obtain ⟨x_, h_x_, hf⟩ := bindE hf
  obtain ⟨i03, i13, ix3⟩ := idx_some h_x_
  refine st (idxAS (some 10) 92 20 83 0 .i64 (internal_strconv_log10Pow2 len64) (by kernel_rfl) (by kernel_rfl) i03 i13 ?_)
  refine st (ldR (some 11) 83 (⟨0, (internal_strconv_log10Pow2 len64).toNat, none⟩) (.int .u64 (x_.toNat : Int)) (by kernel_rfl) (by kernel_rfl) (H.cellI (hG0.at_ ix3)) ?_)
  refine seg 1 [.op [1, 1, 0] 6, .co [1, 1, 1]] [(7, .int .i64 (internal_strconv_log10Pow2 len64)), (12, .bool (decide ((d.toNat : Int) ≥ (x_.toNat : Int))))] (by kernel_rfl) ?_
  refine st (callR (some 13) 59 #[.bool (decide ((d.toNat : Int) ≥ (x_.toNat : Int)))] Tryd.call59 (internal_strconv_bool2_c H.has (decide ((d.toNat : Int) ≥ (x_.toNat : Int)))) (by kernel_rfl) ?_)
  rintro _ w4 ⟨rfl, hx4⟩
  replace H := H.ex hx4
  refine seg 3 [.co [1, 1, 1]] [(2, .int .i64 (IntKind.i64.wrap ((internal_strconv_log10Pow2 len64) + (internal_strconv_bool2 (decide ((d.toNat : Int) ≥ (x_.toNat : Int)))))))] (by kernel_rfl) ?_
  refine retR [2] [.int .i64 (IntKind.i64.wrap ((internal_strconv_log10Pow2 len64) + (internal_strconv_bool2 (decide ((d.toNat : Int) ≥ (x_.toNat : Int))))))] (by kernel_rfl) (by kernel_rfl) (by kernel_rfl) ?_
  obtain rfl : (IntKind.i64.wrap ((internal_strconv_log10Pow2 len64) + (internal_strconv_bool2 (decide ((d.toNat : Int) ≥ (x_.toNat : Int)))))) = r := (Option.some.inj hf)
  exact ⟨_, rfl, rfl, H.scalar⟩
end Go.Proofs.YtebbaokcgnjfiaaDoor.F
