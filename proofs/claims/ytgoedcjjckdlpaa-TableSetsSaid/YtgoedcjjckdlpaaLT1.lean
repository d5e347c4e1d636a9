/- The code computes them: printed by lift.py, part 1. -/
import Derived.Test.YtgoedcjjckdlpaaProg
import Derived.Test.YtgoedcjjckdlpaaLTP
set_option linter.unusedVariables false
set_option linter.unusedSimpArgs false
namespace Go.Proofs.Ytgoedcjjckdlpaa.F
open Go Go.RowKit Go.Proofs.Ytgoedcjjckdlpaa Go.Proofs.Ytgoedcjjckdlpaa.K
set_option maxRecDepth 100000
theorem table_between_c {m : Mem} {w : World} (hm : Has m w) (n_ : Int) (low : Int) (high : Int) :
    Calls Try.prog 52 #[.int .i64 n_, .int .i64 low, .int .i64 high] w fun e w' => ∃ v, e = .returned v ∧ v = .bool (table_between n_ low high) ∧ Ex w w' := by
  generalize hf : table_between n_ low high = r
  unfold table_between at hf
  have H := St.start0 hm
  refine callsR Try.func52 (by kernel_rfl) (by kernel_rfl) ?_
  refine seg 10 [.op [1, 0] 4, .co [1, 1]] [(0, .int .i64 n_), (2, .int .i64 high), (10, .bool (decide (n_ ≥ low)))] (by kernel_rfl) ?_
  rcases condT hf with ⟨hb2, hf⟩ | ⟨hb2, hf⟩
  · rw [hb2]
    have p2 := of_decide_eq_true hb2
    refine seg 6 [.co [1, 1]] [(6, .bool (decide (n_ ≤ high)))] (by kernel_rfl) ?_
    refine retR [6] [.bool (decide (n_ ≤ high))] (by kernel_rfl) (by kernel_rfl) (by kernel_rfl) ?_
    obtain rfl : (decide (n_ ≤ high)) = r := hf
    exact ⟨_, rfl, rfl, H.scalar⟩
  · rw [hb2]
    have p2 := of_decide_eq_false hb2
    refine seg 6 [.co [1, 1]] [(6, .bool false)] (by kernel_rfl) ?_
    refine retR [6] [.bool false] (by kernel_rfl) (by kernel_rfl) (by kernel_rfl) ?_
    have hret := hf
    subst hret
    exact ⟨_, rfl, rfl, H.scalar⟩
theorem internal_stringslite_IndexByte_c {m : Mem} {w : World} (hm : Has m w) (s_ : (List UInt8)) (l0_0 : s_.length ≤ 9223372036854775807) (c : UInt8) :
    Calls Try.prog 85 #[.string ⟨s_.toArray⟩, .int .u8 (c.toNat : Int)] w fun e w' => ∃ v, e = .returned v ∧ v = .int .i64 (internal_stringslite_IndexByte s_ c) ∧ Ex w w' := by
  generalize hf : internal_stringslite_IndexByte s_ c = r
  unfold internal_stringslite_IndexByte at hf
  have H := St.start0 hm
  refine callsR Try.func85 (by kernel_rfl) (by kernel_rfl) ?_
  refine seg 8 [.op [1, 0] 2, .co [1, 1]] [(5, .string ⟨s_.toArray⟩), (6, .int .u8 (c.toNat : Int))] (by kernel_rfl) ?_
  refine st (ixbS (some 7) 92 s_ c Try.func92 (by kernel_rfl) (by kernel_rfl) (by kernel_rfl) (by kernel_rfl) (by kernel_rfl) ?_)
  refine seg 2 [.co [1, 1]] [(4, .int .i64 (Lib.indexByte s_ c))] (by kernel_rfl) ?_
  refine retR [4] [.int .i64 (Lib.indexByte s_ c)] (by kernel_rfl) (by kernel_rfl) (by kernel_rfl) ?_
  obtain rfl : (Lib.indexByte s_ c) = r := hf
  exact ⟨_, rfl, rfl, H.scalar⟩
theorem strings_IndexByte_c {m : Mem} {w : World} (hm : Has m w) (s_ : (List UInt8)) (l0_0 : s_.length ≤ 9223372036854775807) (c : UInt8) :
    Calls Try.prog 70 #[.string ⟨s_.toArray⟩, .int .u8 (c.toNat : Int)] w fun e w' => ∃ v, e = .returned v ∧ v = .int .i64 (strings_IndexByte s_ c) ∧ Ex w w' := by
  generalize hf : strings_IndexByte s_ c = r
  unfold strings_IndexByte at hf
  have H := St.start0 hm
  refine callsR Try.func70 (by kernel_rfl) (by kernel_rfl) ?_
  refine seg 8 [.op [1, 0] 2, .co [1, 1]] [(5, .string ⟨s_.toArray⟩), (6, .int .u8 (c.toNat : Int))] (by kernel_rfl) ?_
  refine st (callR (some 7) 85 #[.string ⟨s_.toArray⟩, .int .u8 (c.toNat : Int)] Try.call85 (internal_stringslite_IndexByte_c H.has s_ l0_0 c) (by kernel_rfl) ?_)
  rintro _ w1 ⟨rfl, hx1⟩
  replace H := H.ex hx1
  refine seg 2 [.co [1, 1]] [(4, .int .i64 (internal_stringslite_IndexByte s_ c))] (by kernel_rfl) ?_
  refine retR [4] [.int .i64 (internal_stringslite_IndexByte s_ c)] (by kernel_rfl) (by kernel_rfl) (by kernel_rfl) ?_
  obtain rfl : (internal_stringslite_IndexByte s_ c) = r := hf
  exact ⟨_, rfl, rfl, H.scalar⟩
theorem table_right_c {m : Mem} {w : World} (hm : Has m w) (l_ : (List TApiAttr)) (A0_0 : Option Addr) (c0_0 : Nat) (s0_0 : SlI rApiAttr m A0_0 c0_0 l_) {r : Bool} (hf : table_right l_ = some r) :
    Calls Try.prog 41 #[.slice A0_0 l_.length c0_0] w fun e w' => ∃ v, e = .returned v ∧ v = .bool r ∧ Ex w w' := by
  unfold table_right at hf
  have H := St.start0 hm
  refine callsR Try.func41 (by kernel_rfl) (by kernel_rfl) ?_
  refine seg 15 [.co [1, 1, 0, 1], .co [1, 1, 1]] [(0, .slice A0_0 l_.length c0_0), (3, .string ⟨([] : List UInt8).toArray⟩), (6, .slice A0_0 l_.length c0_0), (7, .int .i64 (l_.length : Int)), (8, .int .i64 0)] (by kernel_rfl) ?_
  obtain ⟨y105, hp105, hfl105, hfr105⟩ := bndE hf
  refine joinR 0 (fun (x : Unit) => [(0, .slice A0_0 l_.length c0_0)]) (fun (x : Unit) (wj105 : World) => y105 = .inl () ∧ St w noF m m [] wj105) (by kernel_rfl) ?_ ?_
  · refine seg 1 [.co [1, 1, 0, 1, 0], .bl 0, .le 0, .co [1, 1, 1]] [(0, .slice A0_0 l_.length c0_0), (3, .string ⟨([] : List UInt8).toArray⟩), (6, .slice A0_0 l_.length c0_0), (7, .int .i64 (l_.length : Int)), (8, .int .i64 0)] (by kernel_rfl) ?_
    obtain ⟨nn131, hR131⟩ := loopO_iff.1 hp105
    refine loopR 1 (fun (x : Nat × (List UInt8) × Nat) => [(0, .slice A0_0 l_.length c0_0), (3, .string ⟨x.2.1.toArray⟩), (6, .slice A0_0 l_.length c0_0), (7, .int .i64 (l_.length : Int)), (8, .int .i64 (x.2.2 : Int))]) (fun (x : Nat × (List UInt8) × Nat) (wl131 : World) => iter (fun s => table_right_l1 l_ s.1 s.2) x.1 (x.2.1, x.2.2) = some y105 ∧ St w noF m m [] wl131 ∧ x.2.1.length ≤ 9223372036854775807) (fun (x : Nat × (List UInt8) × Nat) => x.1) (nn131, ([] : List UInt8), 0) (by kernel_rfl) (by kernel_rfl) (by kernel_rfl) ?_ ?_
    · exact ⟨hR131, H, (Nat.le_of_ble_eq_true rfl)⟩
    rintro ⟨n131, last, t⟩ wl131 ⟨hR131, H, hl132_0⟩
    try dsimp only at hR131
    try dsimp only at H
    try dsimp only at hl132_0
    obtain ⟨nk131, q131, rfl, hb_131, hnx131, hfin131⟩ := iterE hR131
    replace hb_131 : table_right_l1 l_ last t = some q131 := hb_131
    unfold table_right_l1 at hb_131
    refine seg 5 [.co [1, 1, 0, 1, 0, 0, 1, 0], .co [1, 1, 0, 1, 0, 0, 1, 1], .le 1, .bl 0, .le 0, .co [1, 1, 1]] [(0, .slice A0_0 l_.length c0_0), (3, .string ⟨last.toArray⟩), (6, .slice A0_0 l_.length c0_0), (7, .int .i64 (l_.length : Int)), (8, .int .i64 (t : Int)), (9, .bool (decide ((t : Int) < (l_.length : Int))))] (by kernel_rfl) ?_
    rcases condT hb_131 with ⟨hb133, hb_131⟩ | ⟨hb133, hb_131⟩
    · rw [hb133]
      have p133 := of_decide_eq_true hb133
      refine seg 6 [.op [1, 1, 0, 1, 0, 0, 1, 1, 0, 0, 0] 0, .co [1, 1, 0, 1, 0, 0, 1, 1, 0, 0, 1], .bl 1, .co [1, 1, 0, 1, 0, 0, 1, 1, 1], .le 1, .bl 0, .le 0, .co [1, 1, 1]] [(0, .slice A0_0 l_.length c0_0), (3, .string ⟨last.toArray⟩), (6, .slice A0_0 l_.length c0_0), (7, .int .i64 (l_.length : Int)), (8, .int .i64 (t : Int))] (by kernel_rfl) ?_
      obtain ⟨x_, h_x_, hb_131⟩ := bindE hb_131
      obtain ⟨ad135, _, ea135, ⟨A135_1, c135_1, rfl, hl135_0, hs135_1⟩, hc135⟩ := s0_0.at_ h_x_ (by decide)
      refine st (idxS (some 10) 41 43 2 A0_0 ad135 l_.length c0_0 .i64 (t : Int) ea135 (by kernel_rfl) (by kernel_rfl) (by omega) (by have := (List.getElem?_eq_some_iff.1 h_x_).1; omega) ?_)
      refine st (ldAggR (some 11) 43 (ad135.add (t * 2)) [.string ⟨x_.Name.toArray⟩, .slice A135_1 x_.Value.length c135_1] (by kernel_rfl) (by kernel_rfl) (fun j v hj => H.cellI (hc135 j v hj)) ?_)
      refine st (newS (some 5) (fun g => .pointer (some ⟨g, 0, none⟩)) [.string ⟨([] : List UInt8).toArray⟩, .slice none 0 0] 43 H (by kernel_rfl) ?_)
      intro g136 w136 H
      refine st (stAggS none 43 0 g136 0 [.string ⟨x_.Name.toArray⟩, .slice A135_1 x_.Value.length c135_1] [.string ⟨([] : List UInt8).toArray⟩, .slice none 0 0] [.string ⟨x_.Name.toArray⟩, .slice A135_1 x_.Value.length c135_1] 43 H rfl (by kernel_rfl) (by kernel_rfl) (by rfl) (of_decide_eq_true rfl) rfl ?_)
      intro w137 H
      refine seg 5 [.op [1, 1, 0, 1, 0, 0, 1, 1, 0, 0, 1, 0, 0] 1, .co [1, 1, 0, 1, 0, 0, 1, 1, 0, 0, 1, 0, 1], .co [1, 1, 0, 1, 0, 0, 1, 1, 0, 0, 1, 1], .bl 1, .co [1, 1, 0, 1, 0, 0, 1, 1, 1], .le 1, .bl 0, .le 0, .co [1, 1, 1]] [(0, .slice A0_0 l_.length c0_0), (3, .string ⟨last.toArray⟩), (5, .pointer (some (⟨g136, 0, none⟩))), (6, .slice A0_0 l_.length c0_0), (7, .int .i64 (l_.length : Int)), (8, .int .i64 (t : Int)), (12, .pointer (some (⟨g136, 0, none⟩)))] (by kernel_rfl) ?_
      replace H : St w noF m m [blkI g136 [.string ⟨x_.Name.toArray⟩, .slice A135_1 x_.Value.length c135_1] 43] w137 := H
      refine st (ldR (some 13) 9 (⟨g136, 0, none⟩) (.string ⟨x_.Name.toArray⟩) (by kernel_rfl) (by kernel_rfl) (H.cellB 0 rfl rfl) ?_)
      refine seg 1 [.op [1, 1, 0, 1, 0, 0, 1, 1, 0, 0, 1, 0, 0] 3, .co [1, 1, 0, 1, 0, 0, 1, 1, 0, 0, 1, 0, 1], .co [1, 1, 0, 1, 0, 0, 1, 1, 0, 0, 1, 1], .bl 1, .co [1, 1, 0, 1, 0, 0, 1, 1, 1], .le 1, .bl 0, .le 0, .co [1, 1, 1]] [(0, .slice A0_0 l_.length c0_0), (3, .string ⟨last.toArray⟩), (5, .pointer (some (⟨g136, 0, none⟩))), (6, .slice A0_0 l_.length c0_0), (7, .int .i64 (l_.length : Int)), (8, .int .i64 (t : Int)), (14, .int .i64 (x_.Name.length : Int))] (by kernel_rfl) ?_
      refine st (callR (some 15) 52 #[.int .i64 (x_.Name.length : Int), .int .i64 1, .int .i64 255] Try.call52 (table_between_c H.has (x_.Name.length : Int) 1 255) (by kernel_rfl) ?_)
      rintro _ w138 ⟨rfl, hx138⟩
      replace H := H.ex hx138
      refine seg 2 [.op [1, 1, 0, 1, 0, 0, 1, 1, 0, 0, 1, 0, 0] 6, .co [1, 1, 0, 1, 0, 0, 1, 1, 0, 0, 1, 0, 1], .co [1, 1, 0, 1, 0, 0, 1, 1, 0, 0, 1, 1], .bl 1, .co [1, 1, 0, 1, 0, 0, 1, 1, 1], .le 1, .bl 0, .le 0, .co [1, 1, 1]] [(0, .slice A0_0 l_.length c0_0), (3, .string ⟨last.toArray⟩), (5, .pointer (some (⟨g136, 0, none⟩))), (6, .slice A0_0 l_.length c0_0), (7, .int .i64 (l_.length : Int)), (8, .int .i64 (t : Int)), (17, .bool (!(table_between (x_.Name.length : Int) 1 255)))] (by kernel_rfl) ?_
      rcases condT hb_131 with ⟨hb139, hb_131⟩ | ⟨hb139, hb_131⟩
      · rw [hb139]
        refine seg 1 [.op [1, 1, 0, 1, 0, 0, 1, 1, 0, 0, 1, 0, 0] 7, .co [1, 1, 0, 1, 0, 0, 1, 1, 0, 0, 1, 0, 1], .co [1, 1, 0, 1, 0, 0, 1, 1, 0, 0, 1, 1], .bl 1, .co [1, 1, 0, 1, 0, 0, 1, 1, 1], .le 1, .bl 0, .le 0, .co [1, 1, 1]] [(0, .slice A0_0 l_.length c0_0), (3, .string ⟨last.toArray⟩), (5, .pointer (some (⟨g136, 0, none⟩))), (6, .slice A0_0 l_.length c0_0), (7, .int .i64 (l_.length : Int)), (8, .int .i64 (t : Int)), (17, .bool false), (18, .pointer (some (⟨g136, 0, none⟩)))] (by kernel_rfl) ?_
        refine st (ldR (some 19) 9 (⟨g136, 0, none⟩) (.string ⟨x_.Name.toArray⟩) (by kernel_rfl) (by kernel_rfl) (H.cellB 0 rfl rfl) ?_)
        refine st (callR (some 20) 70 #[.string ⟨x_.Name.toArray⟩, .int .u8 0] Try.call70 (strings_IndexByte_c H.has x_.Name hl135_0 (0 : UInt8)) (by kernel_rfl) ?_)
        rintro _ w140 ⟨rfl, hx140⟩
        replace H := H.ex hx140
        refine seg 3 [.op [1, 1, 0, 1, 0, 0, 1, 1, 0, 0, 1, 0, 0] 12, .co [1, 1, 0, 1, 0, 0, 1, 1, 0, 0, 1, 0, 1], .co [1, 1, 0, 1, 0, 0, 1, 1, 0, 0, 1, 1], .bl 1, .co [1, 1, 0, 1, 0, 0, 1, 1, 1], .le 1, .bl 0, .le 0, .co [1, 1, 1]] [(0, .slice A0_0 l_.length c0_0), (3, .string ⟨last.toArray⟩), (5, .pointer (some (⟨g136, 0, none⟩))), (6, .slice A0_0 l_.length c0_0), (7, .int .i64 (l_.length : Int)), (8, .int .i64 (t : Int)), (23, .bool (decide ((strings_IndexByte x_.Name (0 : UInt8)) ≥ 0)))] (by kernel_rfl) ?_
        rcases condT hb_131 with ⟨hb141, hb_131⟩ | ⟨hb141, hb_131⟩
        · rw [hb141]
          have p141 := of_decide_eq_true hb141
          refine seg 17 [.co [1, 1, 0, 1, 0, 0, 1, 1, 0, 0, 1, 0, 1, 0, 1], .co [1, 1, 0, 1, 0, 0, 1, 1, 0, 0, 1, 1], .bl 1, .co [1, 1, 0, 1, 0, 0, 1, 1, 1], .le 1, .bl 0, .le 0, .co [1, 1, 1]] [(2, .bool false)] (by kernel_rfl) ?_
          refine retR [2] [.bool false] (by kernel_rfl) (by kernel_rfl) (by kernel_rfl) ?_
          have hret := (hfr105 _ (hfin131 _ (Option.some.inj hb_131).symm).symm)
          subst hret
          exact ⟨_, rfl, rfl, H.scalar⟩
        · rw [hb141]
          have p141 := of_decide_eq_false hb141
          refine seg 1 [.op [1, 1, 0, 1, 0, 0, 1, 1, 0, 0, 1, 0, 0] 13, .co [1, 1, 0, 1, 0, 0, 1, 1, 0, 0, 1, 0, 1], .co [1, 1, 0, 1, 0, 0, 1, 1, 0, 0, 1, 1], .bl 1, .co [1, 1, 0, 1, 0, 0, 1, 1, 1], .le 1, .bl 0, .le 0, .co [1, 1, 1]] [(0, .slice A0_0 l_.length c0_0), (3, .string ⟨last.toArray⟩), (5, .pointer (some (⟨g136, 0, none⟩))), (6, .slice A0_0 l_.length c0_0), (7, .int .i64 (l_.length : Int)), (8, .int .i64 (t : Int)), (23, .bool false), (24, .pointer (some (⟨g136, 0, none⟩)))] (by kernel_rfl) ?_
          refine st (ldR (some 25) 9 (⟨g136, 0, none⟩) (.string ⟨x_.Name.toArray⟩) (by kernel_rfl) (by kernel_rfl) (H.cellB 0 rfl rfl) ?_)
          refine seg 4 [.op [1, 1, 0, 1, 0, 0, 1, 1, 0, 0, 1, 0, 0] 18, .co [1, 1, 0, 1, 0, 0, 1, 1, 0, 0, 1, 0, 1], .co [1, 1, 0, 1, 0, 0, 1, 1, 0, 0, 1, 1], .bl 1, .co [1, 1, 0, 1, 0, 0, 1, 1, 1], .le 1, .bl 0, .le 0, .co [1, 1, 1]] [(0, .slice A0_0 l_.length c0_0), (5, .pointer (some (⟨g136, 0, none⟩))), (6, .slice A0_0 l_.length c0_0), (7, .int .i64 (l_.length : Int)), (8, .int .i64 (t : Int)), (29, .bool (Go.Op.bytesLess (ByteArray.toList ⟨x_.Name.toArray⟩) (ByteArray.toList ⟨last.toArray⟩) || (ByteArray.toList ⟨x_.Name.toArray⟩) == (ByteArray.toList ⟨last.toArray⟩)))] (by kernel_rfl) ?_
          rw [leB_raw x_.Name last]
          rcases condT hb_131 with ⟨hb142, hb_131⟩ | ⟨hb142, hb_131⟩
          · rw [hb142]
            refine seg 11 [.co [1, 1, 0, 1, 0, 0, 1, 1, 0, 0, 1, 0, 1, 0, 1], .co [1, 1, 0, 1, 0, 0, 1, 1, 0, 0, 1, 1], .bl 1, .co [1, 1, 0, 1, 0, 0, 1, 1, 1], .le 1, .bl 0, .le 0, .co [1, 1, 1]] [(2, .bool false)] (by kernel_rfl) ?_
            refine retR [2] [.bool false] (by kernel_rfl) (by kernel_rfl) (by kernel_rfl) ?_
            have hret := (hfr105 _ (hfin131 _ (Option.some.inj hb_131).symm).symm)
            subst hret
            exact ⟨_, rfl, rfl, H.scalar⟩
          · rw [hb142]
            refine seg 1 [.op [1, 1, 0, 1, 0, 0, 1, 1, 0, 0, 1, 0, 0] 19, .co [1, 1, 0, 1, 0, 0, 1, 1, 0, 0, 1, 0, 1], .co [1, 1, 0, 1, 0, 0, 1, 1, 0, 0, 1, 1], .bl 1, .co [1, 1, 0, 1, 0, 0, 1, 1, 1], .le 1, .bl 0, .le 0, .co [1, 1, 1]] [(0, .slice A0_0 l_.length c0_0), (5, .pointer (some (⟨g136, 0, none⟩))), (6, .slice A0_0 l_.length c0_0), (7, .int .i64 (l_.length : Int)), (8, .int .i64 (t : Int)), (29, .bool false), (30, .pointer (some (⟨g136, 1, none⟩)))] (by kernel_rfl) ?_
            refine st (ldR (some 31) 29 (⟨g136, 1, none⟩) (.slice A135_1 x_.Value.length c135_1) (by kernel_rfl) (by kernel_rfl) (H.cellB 0 rfl rfl) ?_)
            refine seg 4 [.co [1, 1, 0, 1, 0, 0, 1, 1, 0, 0, 1, 0, 1], .co [1, 1, 0, 1, 0, 0, 1, 1, 0, 0, 1, 1], .bl 1, .co [1, 1, 0, 1, 0, 0, 1, 1, 1], .le 1, .bl 0, .le 0, .co [1, 1, 1]] [(0, .slice A0_0 l_.length c0_0), (5, .pointer (some (⟨g136, 0, none⟩))), (6, .slice A0_0 l_.length c0_0), (7, .int .i64 (l_.length : Int)), (8, .int .i64 (t : Int)), (34, .bool (decide ((x_.Value.length : Int) > 4096)))] (by kernel_rfl) ?_
            rcases condT hb_131 with ⟨hb143, hb_131⟩ | ⟨hb143, hb_131⟩
            · rw [hb143]
              have p143 := of_decide_eq_true hb143
              refine seg 5 [.co [1, 1, 0, 1, 0, 0, 1, 1, 0, 0, 1, 0, 1, 0, 1], .co [1, 1, 0, 1, 0, 0, 1, 1, 0, 0, 1, 1], .bl 1, .co [1, 1, 0, 1, 0, 0, 1, 1, 1], .le 1, .bl 0, .le 0, .co [1, 1, 1]] [(2, .bool false)] (by kernel_rfl) ?_
              refine retR [2] [.bool false] (by kernel_rfl) (by kernel_rfl) (by kernel_rfl) ?_
              have hret := (hfr105 _ (hfin131 _ (Option.some.inj hb_131).symm).symm)
              subst hret
              exact ⟨_, rfl, rfl, H.scalar⟩
            · rw [hb143]
              have p143 := of_decide_eq_false hb143
              refine seg 4 [.op [1, 1, 0, 1, 0, 0, 1, 1, 0, 0, 1, 1] 1, .bl 1, .co [1, 1, 0, 1, 0, 0, 1, 1, 1], .le 1, .bl 0, .le 0, .co [1, 1, 1]] [(0, .slice A0_0 l_.length c0_0), (6, .slice A0_0 l_.length c0_0), (7, .int .i64 (l_.length : Int)), (8, .int .i64 (t : Int)), (35, .pointer (some (⟨g136, 0, none⟩)))] (by kernel_rfl) ?_
              refine st (ldR (some 36) 9 (⟨g136, 0, none⟩) (.string ⟨x_.Name.toArray⟩) (by kernel_rfl) (by kernel_rfl) (H.cellB 0 rfl rfl) ?_)
              refine seg 7 [.le 1, .bl 0, .le 0, .co [1, 1, 1]] [(0, .slice A0_0 l_.length c0_0), (3, .string ⟨x_.Name.toArray⟩), (6, .slice A0_0 l_.length c0_0), (7, .int .i64 (l_.length : Int)), (8, .int .i64 (IntKind.i64.wrap ((t : Int) + 1)))] (by kernel_rfl) ?_
              have := s0_0.bound
              rw [show IntKind.i64.wrap ((t : Int) + 1) = ((t : Int) + 1) from w64 (by omega)]
              refine leR (nk131, x_.Name, (t + 1)) (Nat.lt_succ_self _) ⟨hnx131 _ (Option.some.inj hb_131).symm, (St.takeN 0 H), hl135_0⟩ (by kernel_rfl)
      · rw [hb139]
        refine seg 23 [.co [1, 1, 0, 1, 0, 0, 1, 1, 0, 0, 1, 0, 1, 0, 1], .co [1, 1, 0, 1, 0, 0, 1, 1, 0, 0, 1, 1], .bl 1, .co [1, 1, 0, 1, 0, 0, 1, 1, 1], .le 1, .bl 0, .le 0, .co [1, 1, 1]] [(2, .bool false)] (by kernel_rfl) ?_
        refine retR [2] [.bool false] (by kernel_rfl) (by kernel_rfl) (by kernel_rfl) ?_
        have hret := (hfr105 _ (hfin131 _ (Option.some.inj hb_131).symm).symm)
        subst hret
        exact ⟨_, rfl, rfl, H.scalar⟩
    · rw [hb133]
      have p133 := of_decide_eq_false hb133
      refine seg 2 [.le 0, .co [1, 1, 1]] [(0, .slice A0_0 l_.length c0_0)] (by kernel_rfl) ?_
      refine leR_up (k' := []) (by rfl) ?_
      refine leJ () ⟨(hfin131 _ (Option.some.inj hb_131).symm).symm, H⟩ (by kernel_rfl)
  rintro _ wj105 ⟨hy105, H⟩
  have hf := hfl105 _ hy105
  try dsimp only at hf
  refine seg 4 [.op [1, 1, 1, 0] 2, .co [1, 1, 1, 1]] [(39, .int .i64 (l_.length : Int))] (by kernel_rfl) ?_
  refine st (callR (some 40) 52 #[.int .i64 (l_.length : Int), .int .i64 1, .int .i64 64] Try.call52 (table_between_c H.has (l_.length : Int) 1 64) (by kernel_rfl) ?_)
  rintro _ w144 ⟨rfl, hx144⟩
  replace H := H.ex hx144
  refine seg 2 [.co [1, 1, 1, 1]] [(2, .bool (table_between (l_.length : Int) 1 64))] (by kernel_rfl) ?_
  refine retR [2] [.bool (table_between (l_.length : Int) 1 64)] (by kernel_rfl) (by kernel_rfl) (by kernel_rfl) ?_
  obtain rfl : (table_between (l_.length : Int) 1 64) = r := (Option.some.inj hf)
  exact ⟨_, rfl, rfl, H.scalar⟩
theorem field_wide_c {m : Mem} {w : World} (hm : Has m w) (width : Int) :
    Calls Try.prog 63 #[.int .i64 width] w fun e w' => ∃ v, e = .returned v ∧ v = .bool (field_wide width) ∧ Ex w w' := by
  generalize hf : field_wide width = r
  unfold field_wide at hf
  have H := St.start0 hm
  refine callsR Try.func63 (by kernel_rfl) (by kernel_rfl) ?_
  refine seg 21 [.co [1, 0, 1, 0, 0, 0, 0, 0, 0, 0, 1], .co [1, 0, 1, 0, 0, 0, 0, 0, 0, 1], .co [1, 0, 1, 0, 0, 0, 0, 0, 1], .co [1, 0, 1, 0, 0, 0, 0, 1], .bl 1, .bl 2, .co [1, 0, 1, 0, 1], .bl 0, .co [1, 1]] [(3, .int .i64 width), (4, .bool (width == 1))] (by kernel_rfl) ?_
  rcases condT hf with ⟨hb19, hf⟩ | ⟨hb19, hf⟩
  · rw [hb19]
    refine seg 10 [.co [1, 0, 1, 0, 1, 0, 1], .co [1, 0, 1, 0, 1, 1], .bl 0, .co [1, 1]] [(2, .bool true)] (by kernel_rfl) ?_
    refine retR [2] [.bool true] (by kernel_rfl) (by kernel_rfl) (by kernel_rfl) ?_
    have hret := hf
    subst hret
    exact ⟨_, rfl, rfl, H.scalar⟩
  · rw [hb19]
    refine seg 5 [.co [1, 0, 1, 0, 0, 0, 0, 0, 0, 1], .co [1, 0, 1, 0, 0, 0, 0, 0, 1], .co [1, 0, 1, 0, 0, 0, 0, 1], .bl 1, .bl 2, .co [1, 0, 1, 0, 1], .bl 0, .co [1, 1]] [(3, .int .i64 width), (4, .bool (width == 2))] (by kernel_rfl) ?_
    rcases condT hf with ⟨hb20, hf⟩ | ⟨hb20, hf⟩
    · rw [hb20]
      refine seg 8 [.co [1, 0, 1, 0, 1, 0, 1], .co [1, 0, 1, 0, 1, 1], .bl 0, .co [1, 1]] [(2, .bool true)] (by kernel_rfl) ?_
      refine retR [2] [.bool true] (by kernel_rfl) (by kernel_rfl) (by kernel_rfl) ?_
      have hret := hf
      subst hret
      exact ⟨_, rfl, rfl, H.scalar⟩
    · rw [hb20]
      refine seg 8 [.co [1, 0, 1, 0, 0, 0, 0, 0, 1, 0, 1], .co [1, 0, 1, 0, 0, 0, 0, 0, 1, 1], .co [1, 0, 1, 0, 0, 0, 0, 1], .bl 1, .bl 2, .co [1, 0, 1, 0, 1], .bl 0, .co [1, 1]] [(3, .int .i64 width), (7, .bool (width == 4))] (by kernel_rfl) ?_
      rcases condT hf with ⟨hb21, hf⟩ | ⟨hb21, hf⟩
      · rw [hb21]
        refine seg 9 [.co [1, 0, 1, 0, 1, 0, 1], .co [1, 0, 1, 0, 1, 1], .bl 0, .co [1, 1]] [(2, .bool true)] (by kernel_rfl) ?_
        refine retR [2] [.bool true] (by kernel_rfl) (by kernel_rfl) (by kernel_rfl) ?_
        have hret := hf
        subst hret
        exact ⟨_, rfl, rfl, H.scalar⟩
      · rw [hb21]
        refine seg 5 [.co [1, 0, 1, 0, 0, 0, 0, 0, 1, 1], .co [1, 0, 1, 0, 0, 0, 0, 1], .bl 1, .bl 2, .co [1, 0, 1, 0, 1], .bl 0, .co [1, 1]] [(7, .bool (width == 8))] (by kernel_rfl) ?_
        rcases condT hf with ⟨hb22, hf⟩ | ⟨hb22, hf⟩
        · rw [hb22]
          refine seg 7 [.co [1, 0, 1, 0, 1, 0, 1], .co [1, 0, 1, 0, 1, 1], .bl 0, .co [1, 1]] [(2, .bool true)] (by kernel_rfl) ?_
          refine retR [2] [.bool true] (by kernel_rfl) (by kernel_rfl) (by kernel_rfl) ?_
          have hret := hf
          subst hret
          exact ⟨_, rfl, rfl, H.scalar⟩
        · rw [hb22]
          refine seg 7 [.co [1, 1, 1]] [(2, .bool false)] (by kernel_rfl) ?_
          refine retR [2] [.bool false] (by kernel_rfl) (by kernel_rfl) (by kernel_rfl) ?_
          have hret := hf
          subst hret
          exact ⟨_, rfl, rfl, H.scalar⟩
theorem field_fits_c {m : Mem} {w : World} (hm : Has m w) (n_ : UInt64) (width : Int) {r : Bool} (hf : field_fits n_ width = some r) :
    Calls Try.prog 64 #[.int .u64 (n_.toNat : Int), .int .i64 width] w fun e w' => ∃ v, e = .returned v ∧ v = .bool r ∧ Ex w w' := by
  unfold field_fits at hf
  have H := St.start0 hm
  refine callsR Try.func64 (by kernel_rfl) (by kernel_rfl) ?_
  refine seg 9 [.op [1, 0] 3, .co [1, 1]] [(0, .int .u64 (n_.toNat : Int)), (1, .int .i64 width), (7, .bool (width == 8))] (by kernel_rfl) ?_
  rcases condT hf with ⟨hb3, hf⟩ | ⟨hb3, hf⟩
  · rw [hb3]
    refine seg 8 [.co [1, 1]] [(4, .bool true)] (by kernel_rfl) ?_
    refine retR [4] [.bool true] (by kernel_rfl) (by kernel_rfl) (by kernel_rfl) ?_
    have hret := (Option.some.inj hf)
    subst hret
    exact ⟨_, rfl, rfl, H.scalar⟩
  · rw [hb3]
    refine seg 3 [.op [1, 0] 6, .co [1, 1]] [(7, .bool false), (8, .int .u64 (n_.toNat : Int)), (10, .int .i64 (IntKind.i64.wrap (8 * width)))] (by kernel_rfl) ?_
    obtain ⟨hc4, hf⟩ := chkE hf
    refine st (runR (by kernel_rfl : fetch _ _ _ _ _ = some ((some 11), vS (Op.shift .shr .u64 (n_.toNat : Int) .i64 (IntKind.i64.wrap (8 * width))))) (shr64_run _ _ (of_decide_eq_true hc4)) ?_)
    refine seg 4 [.co [1, 1]] [(4, .bool (((shr64 n_ (IntKind.i64.wrap (8 * width))).toNat : Int) == 0))] (by kernel_rfl) ?_
    refine retR [4] [.bool (((shr64 n_ (IntKind.i64.wrap (8 * width))).toNat : Int) == 0)] (by kernel_rfl) (by kernel_rfl) (by kernel_rfl) ?_
    obtain rfl : (((shr64 n_ (IntKind.i64.wrap (8 * width))).toNat : Int) == 0) = r := (Option.some.inj hf)
    exact ⟨_, rfl, rfl, H.scalar⟩
theorem field_copied_c {m : Mem} {w : World} (hm : Has m w) (b : (List UInt8)) (A0_0 : Option Addr) (c0_0 : Nat) (s0_0 : SlI rU8 m A0_0 c0_0 b) {r : (List UInt8)} (hf : field_copied b = some r) :
    Calls Try.prog 71 #[.slice A0_0 b.length c0_0] w fun e w' => ∃ v, e = .returned v ∧ ∃ Az_0 : Option Addr, ∃ cz_0 : Nat, ∃ m' : Mem, v = .slice Az_0 r.length cz_0 ∧ St w noF m m' [rowI rU8 5 Az_0 cz_0 r] w' := by
  unfold field_copied at hf
  have H := St.start0 hm
  refine callsR Try.func71 (by kernel_rfl) (by kernel_rfl) ?_
  refine seg 6 [.op [1, 0] 0, .co [1, 1]] [(0, .slice A0_0 b.length c0_0)] (by kernel_rfl) ?_
  refine st (newS (some 3) (fun g => .slice (some ⟨g, 0, none⟩) 0 0) [] 5 H (by kernel_rfl) ?_)
  intro g1 w1 H
  refine seg 1 [.op [1, 0] 2, .co [1, 1]] [(3, .slice (some ⟨g1, 0, none⟩) 0 0), (4, .slice A0_0 b.length c0_0)] (by kernel_rfl) ?_
  have H := H.toRow (r := rU8) (l := ([] : List UInt8)) 0 rfl (Rows.u8.2 rfl) (Nat.le_of_ble_eq_true rfl)
  obtain ⟨xs2, hr2, hx2⟩ := s0_0.cs
  obtain ⟨b1, h_b1, hf⟩ := bindE hf
  refine st (appS (r := rU8) (some 5) 29 5 1 (.int .u8 0) 29 0 (some ⟨g1, 0, none⟩) A0_0 0 b.length c0_0 ([] : List UInt8) b b1 _ H rfl ⟨Try.underlying29, by kernel_rfl⟩ rfl (by decide) (by kernel_rfl) (hx2.cs H.has) hr2 rfl h_b1 (by decide) (by decide) ?_)
  intro A3 c3 w3 H
  refine seg 2 [.co [1, 1]] [(2, .slice A3 b1.length c3)] (by kernel_rfl) ?_
  refine retR [2] [.slice A3 b1.length c3] (by kernel_rfl) (by kernel_rfl) (by kernel_rfl) ?_
  have hret := (Option.some.inj hf)
  subst hret
  exact ⟨_, rfl, A3, c3, m, rfl, H⟩
theorem field_store_c {m : Mem} {w : World} (hm : Has m w) (b : (List UInt8)) (A0_0 : Option Addr) (c0_0 : Nat) (n_ : UInt64) (width : Int) {F : Nat → Prop} (hsep : Sep m w [rowI rU8 5 A0_0 c0_0 b] F) (hF : ∀ k, F k → m k = none) {r : (List UInt8)} (hf : field_store b n_ width = some r) :
    Calls Try.prog 66 #[.slice A0_0 b.length c0_0, .int .u64 (n_.toNat : Int), .int .i64 width] w fun e w' => ∃ v, e = .returned v ∧ ∃ Az_0 : Option Addr, ∃ cz_0 : Nat, ∃ m' : Mem, v = .slice Az_0 r.length cz_0 ∧ St w F m m' [rowI rU8 5 Az_0 cz_0 r] w' := by
  unfold field_store at hf
  have H := St.start hm hsep hF
  refine callsR Try.func66 (by kernel_rfl) (by kernel_rfl) ?_
  refine seg 10 [.co [1, 0, 1], .co [1, 1]] [(0, .slice A0_0 b.length c0_0), (1, .int .u64 (n_.toNat : Int)), (8, .int .i64 width), (9, .int .i64 0)] (by kernel_rfl) ?_
  obtain ⟨y51, hp51, hf⟩ := bindE hf
  refine joinR 0 (fun (x : (List UInt8) × Option Addr × Nat) => [(0, .slice (x.2.1) x.1.length (x.2.2))]) (fun (x : (List UInt8) × Option Addr × Nat) (wj51 : World) => y51 = x.1 ∧ St w F m m [rowI rU8 5 (x.2.1) (x.2.2) x.1] wj51) (by kernel_rfl) ?_ ?_
  · refine seg 1 [.co [1, 0, 1, 0], .bl 0, .le 0, .co [1, 1]] [(0, .slice A0_0 b.length c0_0), (1, .int .u64 (n_.toNat : Int)), (8, .int .i64 width), (9, .int .i64 0)] (by kernel_rfl) ?_
    obtain ⟨nn68, hR68⟩ := loopO_iff.1 hp51
    refine loopR 1 (fun (x : Nat × (List UInt8) × Int × Option Addr × Nat) => [(0, .slice (x.2.2.2.1) x.2.1.length (x.2.2.2.2)), (1, .int .u64 (n_.toNat : Int)), (8, .int .i64 width), (9, .int .i64 x.2.2.1)]) (fun (x : Nat × (List UInt8) × Int × Option Addr × Nat) (wl68 : World) => iter (fun s => field_store_l1 n_ width s.1 s.2) x.1 (x.2.1, x.2.2.1) = some y51 ∧ St w F m m [rowI rU8 5 (x.2.2.2.1) (x.2.2.2.2) x.2.1] wl68) (fun (x : Nat × (List UInt8) × Int × Option Addr × Nat) => x.1) (nn68, b, 0, A0_0, c0_0) (by kernel_rfl) (by kernel_rfl) (by kernel_rfl) ?_ ?_
    · exact ⟨hR68, H⟩
    rintro ⟨n68, b1, t, A_1_69, c_2_69⟩ wl68 ⟨hR68, H⟩
    try dsimp only at hR68
    try dsimp only at H
    obtain ⟨nk68, q68, rfl, hb_68, hnx68, hfin68⟩ := iterE hR68
    replace hb_68 : field_store_l1 n_ width b1 t = some q68 := hb_68
    unfold field_store_l1 at hb_68
    refine seg 5 [.co [1, 0, 1, 0, 0, 1, 0], .co [1, 0, 1, 0, 0, 1, 1], .le 1, .bl 0, .le 0, .co [1, 1]] [(0, .slice A_1_69 b1.length c_2_69), (1, .int .u64 (n_.toNat : Int)), (8, .int .i64 width), (9, .int .i64 t), (10, .bool (decide (t < width)))] (by kernel_rfl) ?_
    rcases condT hb_68 with ⟨hb70, hb_68⟩ | ⟨hb70, hb_68⟩
    · rw [hb70]
      have p70 := of_decide_eq_true hb70
      refine seg 14 [.op [1, 0, 1, 0, 0, 1, 1, 0, 0, 1] 4, .bl 1, .co [1, 0, 1, 0, 0, 1, 1, 1], .le 1, .bl 0, .le 0, .co [1, 1]] [(1, .int .u64 (n_.toNat : Int)), (8, .int .i64 width), (9, .int .i64 t), (12, .slice A_1_69 b1.length c_2_69), (13, .int .u64 (n_.toNat : Int)), (15, .int .i64 (IntKind.i64.wrap (8 * t)))] (by kernel_rfl) ?_
      replace H : St w F m m [rowI rU8 5 A_1_69 c_2_69 b1] wl68 := H
      obtain ⟨hc71, hb_68⟩ := chkE hb_68
      refine st (runR (by kernel_rfl : fetch _ _ _ _ _ = some ((some 16), vS (Op.shift .shr .u64 (n_.toNat : Int) .i64 (IntKind.i64.wrap (8 * t))))) (shr64_run _ _ (of_decide_eq_true hc71)) ?_)
      refine seg 1 [.op [1, 0, 1, 0, 0, 1, 1, 0, 0, 1] 6, .bl 1, .co [1, 0, 1, 0, 0, 1, 1, 1], .le 1, .bl 0, .le 0, .co [1, 1]] [(1, .int .u64 (n_.toNat : Int)), (8, .int .i64 width), (9, .int .i64 t), (12, .slice A_1_69 b1.length c_2_69), (17, .int .u8 (IntKind.u8.wrap ((shr64 n_ (IntKind.i64.wrap (8 * t))).toNat : Int)))] (by kernel_rfl) ?_
      rw [q8_u64 (shr64 n_ (IntKind.i64.wrap (8 * t)))]
      refine st (newS (some 18) (fun g => .slice (some ⟨g, 0, none⟩) 1 1) [.int .u8 (((shr64 n_ (IntKind.i64.wrap (8 * t))).toUInt8).toNat : Int)] 5 H (by kernel_rfl) ?_)
      intro g72 w72 H
      obtain ⟨b2, h_b2, hb_68⟩ := bindE hb_68
      refine st (appS (r := rU8) (some 19) 29 5 1 (.int .u8 0) 29 1 A_1_69 (some ⟨g72, 0, none⟩) c_2_69 1 1 b1 [(shr64 n_ (IntKind.i64.wrap (8 * t))).toUInt8] b2 _ H rfl ⟨Try.underlying29, by kernel_rfl⟩ rfl (by decide) (by kernel_rfl) (Cs.of_blk (H.blk 0 rfl)) (Rows.u8.2 rfl) rfl h_b2 (by decide) (by decide) ?_)
      intro A73 c73 w73 H
      replace H := H.drop 0 rfl
      refine seg 7 [.le 1, .bl 0, .le 0, .co [1, 1]] [(0, .slice A73 b2.length c73), (1, .int .u64 (n_.toNat : Int)), (8, .int .i64 width), (9, .int .i64 (IntKind.i64.wrap (t + 1)))] (by kernel_rfl) ?_
      refine leR (nk68, b2, (IntKind.i64.wrap (t + 1)), A73, c73) (Nat.lt_succ_self _) ⟨hnx68 _ (Option.some.inj hb_68).symm, H⟩ (by kernel_rfl)
    · rw [hb70]
      have p70 := of_decide_eq_false hb70
      refine seg 2 [.le 0, .co [1, 1]] [(0, .slice A_1_69 b1.length c_2_69)] (by kernel_rfl) ?_
      refine leR_up (k' := []) (by rfl) ?_
      refine leJ (b1, A_1_69, c_2_69) ⟨(hfin68 _ (Option.some.inj hb_68).symm).symm, H⟩ (by kernel_rfl)
  rintro ⟨b1, A_1_52, c_2_52⟩ wj51 ⟨hy51, H⟩
  try dsimp only at hy51
  try dsimp only at H
  rw [hy51] at hf
  refine seg 5 [.co [1, 1, 1]] [(6, .slice A_1_52 b1.length c_2_52)] (by kernel_rfl) ?_
  refine retR [6] [.slice A_1_52 b1.length c_2_52] (by kernel_rfl) (by kernel_rfl) (by kernel_rfl) ?_
  have hret := (Option.some.inj hf)
  subst hret
  exact ⟨_, rfl, A_1_52, c_2_52, m, rfl, H⟩
theorem field_Put_c {m : Mem} {w : World} (hm : Has m w) (b : (List UInt8)) (A0_0 : Option Addr) (c0_0 : Nat) (s0_0 : SlI rU8 m A0_0 c0_0 b) (n_ : UInt64) (width : Int) {r : ((List UInt8) × Int)} (hf : field_Put b n_ width = some r) :
    Calls Try.prog 42 #[.slice A0_0 b.length c0_0, .int .u64 (n_.toNat : Int), .int .i64 width] w fun e w' => ∃ v, e = .returned v ∧ ∃ Az_0 : Option Addr, ∃ cz_0 : Nat, ∃ m' : Mem, v = .tuple #[.slice Az_0 r.1.length cz_0, .int .i64 r.2] ∧ St w noF m m' [rowI rU8 5 Az_0 cz_0 r.1] w' := by
  unfold field_Put at hf
  have H := St.start0 hm
  refine callsR Try.func42 (by kernel_rfl) (by kernel_rfl) ?_
  refine seg 10 [.op [1, 0, 0, 0] 1, .co [1, 0, 0, 1], .bl 0, .co [1, 1]] [(0, .slice A0_0 b.length c0_0), (1, .int .u64 (n_.toNat : Int)), (2, .int .i64 width), (9, .int .i64 width)] (by kernel_rfl) ?_
  refine st (callR (some 10) 63 #[.int .i64 width] Try.call63 (field_wide_c H.has width) (by kernel_rfl) ?_)
  rintro _ w10 ⟨rfl, hx10⟩
  replace H := H.ex hx10
  refine seg 3 [.co [1, 0, 0, 1], .bl 0, .co [1, 1]] [(0, .slice A0_0 b.length c0_0), (1, .int .u64 (n_.toNat : Int)), (2, .int .i64 width), (8, .bool (!(field_wide width)))] (by kernel_rfl) ?_
  rcases condT hf with ⟨hb11, hf⟩ | ⟨hb11, hf⟩
  · rw [hb11]
    refine seg 5 [.op [1, 0, 0, 1, 1, 0] 2, .co [1, 0, 0, 1, 1, 1], .bl 0, .co [1, 1]] [(0, .slice A0_0 b.length c0_0), (1, .int .u64 (n_.toNat : Int)), (2, .int .i64 width), (13, .int .u64 (n_.toNat : Int)), (14, .int .i64 width)] (by kernel_rfl) ?_
    replace H : St w noF m m [] w10 := H
    obtain ⟨fits, h_fits, hf⟩ := bindE hf
    refine st (callR (some 15) 64 #[.int .u64 (n_.toNat : Int), .int .i64 width] Try.call64 (field_fits_c H.has n_ width h_fits) (by kernel_rfl) ?_)
    rintro _ w12 ⟨rfl, hx12⟩
    replace H := H.ex hx12
    refine seg 3 [.co [1, 0, 0, 1, 1, 1], .bl 0, .co [1, 1]] [(0, .slice A0_0 b.length c0_0), (1, .int .u64 (n_.toNat : Int)), (2, .int .i64 width), (12, .bool (!fits))] (by kernel_rfl) ?_
    rcases condT hf with ⟨hb13, hf⟩ | ⟨hb13, hf⟩
    · rw [hb13]
      refine seg 6 [.op [1, 1, 0] 1, .co [1, 1, 1]] [(1, .int .u64 (n_.toNat : Int)), (2, .int .i64 width), (17, .slice A0_0 b.length c0_0)] (by kernel_rfl) ?_
      obtain ⟨copied, h_copied, hf⟩ := bindE hf
      refine st (callR (some 18) 71 #[.slice A0_0 b.length c0_0] Try.call71 (field_copied_c H.has b A0_0 c0_0 s0_0 h_copied) (by kernel_rfl) ?_)
      rintro _ w14 ⟨A14_0, c14_0, mk14, rfl, hS14⟩
      have hsub14 := hS14.sub
      replace H := H.call0 hS14
      refine seg 2 [.op [1, 1, 0] 4, .co [1, 1, 1]] [(18, .slice A14_0 copied.length c14_0), (19, .int .u64 (n_.toNat : Int)), (20, .int .i64 width)] (by kernel_rfl) ?_
      obtain ⟨store, h_store, hf⟩ := bindE hf
      obtain ⟨F15, hse15, hFn15, hcl15⟩ := St.call [rowI rU8 5 A14_0 c14_0 copied] H
      refine st (callR (some 21) 66 #[.slice A14_0 copied.length c14_0, .int .u64 (n_.toNat : Int), .int .i64 width] Try.call66 (field_store_c H.has copied A14_0 c14_0 n_ width hse15 hFn15 h_store) (by kernel_rfl) ?_)
      rintro _ w15 ⟨A15_0, c15_0, mk15, rfl, hS15⟩
      have hsub15 := hS15.sub
      replace H := hcl15 _ _ _ hS15
      refine seg 3 [.co [1, 1, 1]] [(6, .slice A15_0 store.length c15_0), (7, .int .i64 0)] (by kernel_rfl) ?_
      refine retR [6, 7] [.slice A15_0 store.length c15_0, .int .i64 0] (by kernel_rfl) (by kernel_rfl) (by kernel_rfl) ?_
      obtain rfl : (store, 0) = r := (Option.some.inj hf)
      exact ⟨_, rfl, A15_0, c15_0, mk15, rfl, H⟩
    · rw [hb13]
      refine seg 6 [.co [1, 0, 0, 1, 1, 1, 0, 1], .bl 0, .co [1, 1]] [(6, .slice none 0 0), (7, .int .i64 9)] (by kernel_rfl) ?_
      have H := H.nilR rU8 5
      refine retR [6, 7] [.slice none 0 0, .int .i64 9] (by kernel_rfl) (by kernel_rfl) (by kernel_rfl) ?_
      obtain rfl : ([], 9) = r := (Option.some.inj hf)
      exact ⟨_, rfl, none, 0, m, rfl, H⟩
  · rw [hb11]
    refine seg 6 [.co [1, 0, 0, 1, 0, 1], .bl 0, .co [1, 1]] [(6, .slice none 0 0), (7, .int .i64 1)] (by kernel_rfl) ?_
    have H := H.nilR rU8 5
    refine retR [6, 7] [.slice none 0 0, .int .i64 1] (by kernel_rfl) (by kernel_rfl) (by kernel_rfl) ?_
    obtain rfl : ([], 1) = r := (Option.some.inj hf)
    exact ⟨_, rfl, none, 0, m, rfl, H⟩
theorem field_NewWriter_c {m : Mem} {w : World} (hm : Has m w) (most : Int) :
    Calls Try.prog 61 #[.int .i64 most] w fun e w' => ∃ v, e = .returned v ∧ ∃ gz_0 : Nat, ∃ Az_0_0 : Option Addr, ∃ cz_0_0 : Nat, ∃ m' : Mem, v = .pointer (some (⟨gz_0, 0, none⟩)) ∧ St w noF m m' [blkI gz_0 [.slice Az_0_0 (((field_NewWriter most).f_b).length) cz_0_0, .int .i64 ((field_NewWriter most).f_most), .int .i64 ((field_NewWriter most).f_e)] 108, rowI rU8 5 Az_0_0 cz_0_0 ((field_NewWriter most).f_b)] w' := by
  generalize hf : field_NewWriter most = r
  unfold field_NewWriter at hf
  have H := St.start0 hm
  refine callsR Try.func61 (by kernel_rfl) (by kernel_rfl) ?_
  refine seg 9 [.op [1, 0] 3, .co [1, 1]] [(5, .agg #[.slice none 0 0, .int .i64 (if 0 > most then 0 else most), .int .i64 0])] (by kernel_rfl) ?_
  refine st (newS (some 6) (fun g => .pointer (some ⟨g, 0, none⟩)) [.slice none 0 0, .int .i64 (if 0 > most then 0 else most), .int .i64 0] 108 H (by kernel_rfl) ?_)
  intro g1 w1 H
  refine seg 2 [.co [1, 1]] [(2, .pointer (some (⟨g1, 0, none⟩)))] (by kernel_rfl) ?_
  have H := H.nilR rU8 5
  refine retR [2] [.pointer (some (⟨g1, 0, none⟩))] (by kernel_rfl) (by kernel_rfl) (by kernel_rfl) ?_
  obtain rfl : ({ f_b := [], f_most := (if 0 > most then 0 else most), f_e := 0 } : TFieldWriter) = r := hf
  exact ⟨_, rfl, g1, none, 0, m, rfl, (H.pull 1 rfl)⟩
theorem field_Writer_right_c {m : Mem} {w : World} (hm : Has m w) (g0 : Nat) (w_ : TFieldWriter) (A0_0 : Option Addr) (c0_0 : Nat) (e_ : Int) (more : Int) {F : Nat → Prop} (hsep : Sep m w [blkI g0 [.slice A0_0 w_.f_b.length c0_0, .int .i64 w_.f_most, .int .i64 w_.f_e] 108, rowI rU8 5 A0_0 c0_0 w_.f_b] F) (hF : ∀ k, F k → m k = none) {r : (Bool × TFieldWriter)} (hf : field_Writer_right w_ e_ more = some r) :
    Calls Try.prog 65 #[.pointer (some (⟨g0, 0, none⟩)), .int .i64 e_, .int .i64 more] w fun e w' => ∃ v, e = .returned v ∧ ∃ Az_o0_0 : Option Addr, ∃ cz_o0_0 : Nat, ∃ m' : Mem, v = .bool r.1 ∧ St w F m m' [blkI g0 [.slice Az_o0_0 r.2.f_b.length cz_o0_0, .int .i64 r.2.f_most, .int .i64 r.2.f_e] 108, rowI rU8 5 Az_o0_0 cz_o0_0 r.2.f_b] w' := by
  unfold field_Writer_right at hf
  have H := St.start hm hsep hF
  refine callsR Try.func65 (by kernel_rfl) (by kernel_rfl) ?_
  refine seg 13 [.op [1, 0, 0] 6, .co [1, 0, 1], .co [1, 1]] [(0, .pointer (some (⟨g0, 0, none⟩))), (1, .int .i64 e_), (2, .int .i64 more), (9, .bool false), (12, .pointer (some (⟨g0, 2, none⟩)))] (by kernel_rfl) ?_
  refine st (ldR (some 13) 30 (⟨g0, 2, none⟩) (.int .i64 w_.f_e) (by kernel_rfl) (by kernel_rfl) (H.cellB 0 rfl rfl) ?_)
  refine seg 3 [.co [1, 0, 1], .co [1, 1]] [(0, .pointer (some (⟨g0, 0, none⟩))), (1, .int .i64 e_), (2, .int .i64 more), (15, .bool (w_.f_e != 0))] (by kernel_rfl) ?_
  rcases condT hf with ⟨hb2, hf⟩ | ⟨hb2, hf⟩
  · rw [hb2]
    refine seg 5 [.co [1, 0, 1, 0, 1], .co [1, 1]] [(6, .bool false)] (by kernel_rfl) ?_
    refine retR [6] [.bool false] (by kernel_rfl) (by kernel_rfl) (by kernel_rfl) ?_
    obtain rfl : (false, w_) = r := (Option.some.inj hf)
    exact ⟨_, rfl, A0_0, c0_0, m, rfl, H⟩
  · rw [hb2]
    refine seg 4 [.co [1, 1, 0, 0], .co [1, 1, 0, 1], .co [1, 1, 1]] [(0, .pointer (some (⟨g0, 0, none⟩))), (1, .int .i64 e_), (2, .int .i64 more)] (by kernel_rfl) ?_
    rcases condT hf with ⟨hb10, hf⟩ | ⟨hb10, hf⟩
    · have hst : statB (bodyOf Try.f65) [1, 1, 0, 0] = true := by kernel_rfl
      refine drawS (fun w' => Has m w' ∧ w'.heap[g0]? = some (.cells [.slice A0_0 w_.f_b.length c0_0, .int .i64 w_.f_most, .int .i64 w_.f_e].toArray 108 (0, 0))) H (by kernel_rfl) (by kernel_rfl) ?_
      intro w11 H
      refine segD2 hst [0, 1] [0, 1] [(0, .pointer (some (⟨g0, 0, none⟩))), (1, .int .i64 e_), (2, .int .i64 more), (17, .bool (e_ == 0))] (by kernel_rfl) ?_
      rw [show (e_ == 0) = true from hb10]
      refine segD2 hst [2, 3, 4, 5, 6, 8, 9, 10] [0, 1, 2, 3, 4, 5, 6, 8, 9, 10] [(0, .pointer (some (⟨g0, 0, none⟩))), (1, .int .i64 e_), (18, .bool true), (19, .int .i64 more), (22, .pointer (some (⟨g0, 1, none⟩))), (26, .pointer (some (⟨g0, 0, none⟩)))] (by kernel_rfl) ?_
      refine takeD2 (i := 7) (d := (some 23)) (s := vS (Instr.loadAt 3 (.pointer (some (⟨g0, 1, none⟩))))) (v := (.int .i64 w_.f_most)) hst (by kernel_rfl) (by kernel_rfl) (fun w' hw' => ld_run _ _ _ (by kernel_rfl) (blk_cell hw'.2 rfl)) ?_
      refine stD2 (i := 11) (by kernel_rfl) ⟨H.has, H.blk 0 rfl⟩ (ldR (some 27) 29 (⟨g0, 0, none⟩) (.slice A0_0 w_.f_b.length c0_0) (by kernel_rfl) (by kernel_rfl) (H.cellB 0 rfl rfl) ?_)
      refine segD2 hst [12, 13] [0, 1, 2, 3, 4, 5, 6, 8, 9, 10, 7, 11, 12, 13] [(0, .pointer (some (⟨g0, 0, none⟩))), (1, .int .i64 e_), (18, .bool true), (19, .int .i64 more), (29, .int .i64 (IntKind.i64.wrap (w_.f_most - (w_.f_b.length : Int))))] (by kernel_rfl) ?_
      refine segD2 hst [14] [0, 1, 2, 3, 4, 5, 6, 8, 9, 10, 7, 11, 12, 13, 14] [(0, .pointer (some (⟨g0, 0, none⟩))), (1, .int .i64 e_), (18, .bool true), (30, .bool (decide (more > (IntKind.i64.wrap (w_.f_most - (w_.f_b.length : Int))))))] (by kernel_rfl) ?_
      refine segD2 hst [15] [0, 1, 2, 3, 4, 5, 6, 8, 9, 10, 7, 11, 12, 13, 14, 15] [(0, .pointer (some (⟨g0, 0, none⟩))), (1, .int .i64 e_), (31, .bool (decide (more > (IntKind.i64.wrap (w_.f_most - (w_.f_b.length : Int))))))] (by kernel_rfl) ?_
      refine endD2 (by kernel_rfl) ⟨H.has, H.blk 0 rfl⟩ ?_
      rcases condT hf with ⟨hb12, hf⟩ | ⟨hb12, hf⟩
      · rw [hb12]
        have p12 := of_decide_eq_true hb12
        refine seg 10 [.op [1, 1, 1, 0] 4, .co [1, 1, 1, 1]] [(1, .int .i64 2), (33, .int .i64 2), (35, .pointer (some (⟨g0, 2, none⟩)))] (by kernel_rfl) ?_
        refine st (stS none 30 0 g0 2 (.int .i64 2) [.slice A0_0 w_.f_b.length c0_0, .int .i64 w_.f_most, .int .i64 w_.f_e] 108 H rfl (by kernel_rfl) (by kernel_rfl) rfl (of_decide_eq_true rfl) ?_)
        intro w13 H
        refine seg 7 [.co [1, 1, 1, 1, 1]] [(6, .bool false)] (by kernel_rfl) ?_
        refine retR [6] [.bool false] (by kernel_rfl) (by kernel_rfl) (by kernel_rfl) ?_
        obtain rfl : (false, ({ f_b := w_.f_b, f_most := w_.f_most, f_e := 2 } : TFieldWriter)) = r := (Option.some.inj hf)
        exact ⟨_, rfl, A0_0, c0_0, m, rfl, H⟩
      · rw [hb12]
        have p12 := of_decide_eq_false hb12
        refine seg 8 [.op [1, 1, 1, 0] 4, .co [1, 1, 1, 1]] [(1, .int .i64 e_), (33, .int .i64 e_), (35, .pointer (some (⟨g0, 2, none⟩)))] (by kernel_rfl) ?_
        replace H : St w F m m [blkI g0 [.slice A0_0 w_.f_b.length c0_0, .int .i64 w_.f_most, .int .i64 w_.f_e] 108, rowI rU8 5 A0_0 c0_0 w_.f_b] w11 := H
        refine st (stS none 30 0 g0 2 (.int .i64 e_) [.slice A0_0 w_.f_b.length c0_0, .int .i64 w_.f_most, .int .i64 w_.f_e] 108 H rfl (by kernel_rfl) (by kernel_rfl) rfl (of_decide_eq_true rfl) ?_)
        intro w14 H
        refine seg 7 [.co [1, 1, 1, 1, 1]] [(6, .bool (e_ == 0))] (by kernel_rfl) ?_
        refine retR [6] [.bool (e_ == 0)] (by kernel_rfl) (by kernel_rfl) (by kernel_rfl) ?_
        obtain rfl : ((e_ == 0), ({ f_b := w_.f_b, f_most := w_.f_most, f_e := e_ } : TFieldWriter)) = r := (Option.some.inj hf)
        exact ⟨_, rfl, A0_0, c0_0, m, rfl, H⟩
    · have hst : statB (bodyOf Try.f65) [1, 1, 0, 0] = true := by kernel_rfl
      refine drawS (fun w' => Has m w' ∧ w'.heap[g0]? = some (.cells [.slice A0_0 w_.f_b.length c0_0, .int .i64 w_.f_most, .int .i64 w_.f_e].toArray 108 (0, 0))) H (by kernel_rfl) (by kernel_rfl) ?_
      intro w15 H
      refine segD2 hst [0, 1] [0, 1] [(0, .pointer (some (⟨g0, 0, none⟩))), (1, .int .i64 e_), (2, .int .i64 more), (17, .bool (e_ == 0))] (by kernel_rfl) ?_
      rw [show (e_ == 0) = false from hb10]
      refine segD2 hst [2, 3, 4, 5, 6, 7, 8, 9, 10, 11, 12, 13, 14, 15] [0, 1, 2, 3, 4, 5, 6, 7, 8, 9, 10, 11, 12, 13, 14, 15] [(0, .pointer (some (⟨g0, 0, none⟩))), (1, .int .i64 e_), (31, .bool false)] (by kernel_rfl) ?_
      refine endD2 (by kernel_rfl) ⟨H.has, H.blk 0 rfl⟩ ?_
      refine seg 8 [.op [1, 1, 1, 0] 4, .co [1, 1, 1, 1]] [(1, .int .i64 e_), (33, .int .i64 e_), (35, .pointer (some (⟨g0, 2, none⟩)))] (by kernel_rfl) ?_
      refine st (stS none 30 0 g0 2 (.int .i64 e_) [.slice A0_0 w_.f_b.length c0_0, .int .i64 w_.f_most, .int .i64 w_.f_e] 108 H rfl (by kernel_rfl) (by kernel_rfl) rfl (of_decide_eq_true rfl) ?_)
      intro w17 H
      refine seg 7 [.co [1, 1, 1, 1, 1]] [(6, .bool (e_ == 0))] (by kernel_rfl) ?_
      refine retR [6] [.bool (e_ == 0)] (by kernel_rfl) (by kernel_rfl) (by kernel_rfl) ?_
      obtain rfl : ((e_ == 0), ({ f_b := w_.f_b, f_most := w_.f_most, f_e := e_ } : TFieldWriter)) = r := (Option.some.inj hf)
      exact ⟨_, rfl, A0_0, c0_0, m, rfl, H⟩
theorem field_Writer_Num_c {m : Mem} {w : World} (hm : Has m w) (g0 : Nat) (w_ : TFieldWriter) (A0_0 : Option Addr) (c0_0 : Nat) (n_ : UInt64) (width : Int) {F : Nat → Prop} (hsep : Sep m w [blkI g0 [.slice A0_0 w_.f_b.length c0_0, .int .i64 w_.f_most, .int .i64 w_.f_e] 108, rowI rU8 5 A0_0 c0_0 w_.f_b] F) (hF : ∀ k, F k → m k = none) {r : TFieldWriter} (hf : field_Writer_Num w_ n_ width = some r) :
    Calls Try.prog 35 #[.pointer (some (⟨g0, 0, none⟩)), .int .u64 (n_.toNat : Int), .int .i64 width] w fun e w' => ∃ v, e = .returned v ∧ ∃ Az_o0_0 : Option Addr, ∃ cz_o0_0 : Nat, ∃ m' : Mem, v = .tuple #[] ∧ St w F m m' [blkI g0 [.slice Az_o0_0 r.f_b.length cz_o0_0, .int .i64 r.f_most, .int .i64 r.f_e] 108, rowI rU8 5 Az_o0_0 cz_o0_0 r.f_b] w' := by
  unfold field_Writer_Num at hf
  have H := St.start hm hsep hF
  refine callsR Try.func35 (by kernel_rfl) (by kernel_rfl) ?_
  refine seg 5 [.co [1, 0], .co [1, 1]] [(0, .pointer (some (⟨g0, 0, none⟩))), (1, .int .u64 (n_.toNat : Int)), (2, .int .i64 width), (6, .int .i64 0)] (by kernel_rfl) ?_
  obtain ⟨y22, hp22, hf⟩ := bindE hf
  refine joinR 0 (fun (x : Nat) => [(0, .pointer (some (⟨g0, 0, none⟩))), (1, .int .u64 (n_.toNat : Int)), (2, .int .i64 width), (6, .int .i64 (x : Int))]) (fun (x : Nat) (wj22 : World) => y22 = x ∧ St w F m m [blkI g0 [.slice A0_0 w_.f_b.length c0_0, .int .i64 w_.f_most, .int .i64 w_.f_e] 108, rowI rU8 5 A0_0 c0_0 w_.f_b] wj22) (by kernel_rfl) ?_ ?_
  · refine seg 4 [.op [1, 0, 0, 0] 1, .co [1, 0, 0, 1], .bl 0, .le 0, .co [1, 1]] [(0, .pointer (some (⟨g0, 0, none⟩))), (1, .int .u64 (n_.toNat : Int)), (2, .int .i64 width), (6, .int .i64 0), (8, .int .i64 width)] (by kernel_rfl) ?_
    refine st (callR (some 9) 63 #[.int .i64 width] Try.call63 (field_wide_c H.has width) (by kernel_rfl) ?_)
    rintro _ w24 ⟨rfl, hx24⟩
    replace H := H.ex hx24
    refine seg 3 [.co [1, 0, 0, 1], .bl 0, .le 0, .co [1, 1]] [(0, .pointer (some (⟨g0, 0, none⟩))), (1, .int .u64 (n_.toNat : Int)), (2, .int .i64 width), (6, .int .i64 0), (7, .bool (!(field_wide width)))] (by kernel_rfl) ?_
    rcases condT hp22 with ⟨hb25, hp22⟩ | ⟨hb25, hp22⟩
    · rw [hb25]
      refine seg 5 [.op [1, 0, 0, 1, 1, 0] 2, .co [1, 0, 0, 1, 1, 1], .bl 0, .le 0, .co [1, 1]] [(0, .pointer (some (⟨g0, 0, none⟩))), (1, .int .u64 (n_.toNat : Int)), (2, .int .i64 width), (6, .int .i64 0), (12, .int .u64 (n_.toNat : Int)), (13, .int .i64 width)] (by kernel_rfl) ?_
      obtain ⟨fits, h_fits, hp22⟩ := bindE hp22
      refine st (callR (some 14) 64 #[.int .u64 (n_.toNat : Int), .int .i64 width] Try.call64 (field_fits_c H.has n_ width h_fits) (by kernel_rfl) ?_)
      rintro _ w26 ⟨rfl, hx26⟩
      replace H := H.ex hx26
      refine seg 3 [.co [1, 0, 0, 1, 1, 1], .bl 0, .le 0, .co [1, 1]] [(0, .pointer (some (⟨g0, 0, none⟩))), (1, .int .u64 (n_.toNat : Int)), (2, .int .i64 width), (6, .int .i64 0), (11, .bool (!fits))] (by kernel_rfl) ?_
      rcases condT hp22 with ⟨hb27, hp22⟩ | ⟨hb27, hp22⟩
      · rw [hb27]
        refine seg 3 [.le 0, .co [1, 1]] [(0, .pointer (some (⟨g0, 0, none⟩))), (1, .int .u64 (n_.toNat : Int)), (2, .int .i64 width), (6, .int .i64 0)] (by kernel_rfl) ?_
        refine leJ (0) ⟨(Option.some.inj hp22).symm, H⟩ (by kernel_rfl)
      · rw [hb27]
        refine seg 5 [.le 0, .co [1, 1]] [(0, .pointer (some (⟨g0, 0, none⟩))), (1, .int .u64 (n_.toNat : Int)), (2, .int .i64 width), (6, .int .i64 9)] (by kernel_rfl) ?_
        refine leJ (9) ⟨(Option.some.inj hp22).symm, H⟩ (by kernel_rfl)
    · rw [hb25]
      refine seg 5 [.le 0, .co [1, 1]] [(0, .pointer (some (⟨g0, 0, none⟩))), (1, .int .u64 (n_.toNat : Int)), (2, .int .i64 width), (6, .int .i64 1)] (by kernel_rfl) ?_
      refine leJ (1) ⟨(Option.some.inj hp22).symm, H⟩ (by kernel_rfl)
  rintro e_ wj22 ⟨hy22, H⟩
  rw [hy22] at hf
  refine seg 5 [.op [1, 1, 0] 3, .co [1, 1, 1]] [(0, .pointer (some (⟨g0, 0, none⟩))), (1, .int .u64 (n_.toNat : Int)), (2, .int .i64 width), (16, .pointer (some (⟨g0, 0, none⟩))), (17, .int .i64 (e_ : Int)), (18, .int .i64 width)] (by kernel_rfl) ?_
  replace H : St w F m m [blkI g0 [.slice A0_0 w_.f_b.length c0_0, .int .i64 w_.f_most, .int .i64 w_.f_e] 108, rowI rU8 5 A0_0 c0_0 w_.f_b] wj22 := H
  obtain ⟨right, h_right, hf⟩ := bindE hf
  obtain ⟨F28, hse28, hFn28, hcl28⟩ := St.call [blkI g0 [.slice A0_0 w_.f_b.length c0_0, .int .i64 w_.f_most, .int .i64 w_.f_e] 108, rowI rU8 5 A0_0 c0_0 w_.f_b] ((H.pull 1 rfl).pull 1 rfl)
  refine st (callR (some 19) 65 #[.pointer (some (⟨g0, 0, none⟩)), .int .i64 (e_ : Int), .int .i64 width] Try.call65 (field_Writer_right_c H.has g0 w_ A0_0 c0_0 (e_ : Int) width hse28 hFn28 h_right) (by kernel_rfl) ?_)
  rintro _ w28 ⟨A28_o0_0, c28_o0_0, mk28, rfl, hS28⟩
  have hsub28 := hS28.sub
  replace H := hcl28 _ _ _ hS28
  refine seg 1 [.co [1, 1, 1]] [(0, .pointer (some (⟨g0, 0, none⟩))), (1, .int .u64 (n_.toNat : Int)), (2, .int .i64 width), (19, .bool right.1)] (by kernel_rfl) ?_
  rcases condT hf with ⟨hb29, hf⟩ | ⟨hb29, hf⟩
  · rw [hb29]
    refine seg 6 [.op [1, 1, 1, 0] 4] [(1, .int .u64 (n_.toNat : Int)), (2, .int .i64 width), (20, .pointer (some (⟨g0, 0, none⟩))), (23, .pointer (some (⟨g0, 0, none⟩)))] (by kernel_rfl) ?_
    refine st (ldR (some 24) 29 (⟨g0, 0, none⟩) (.slice A28_o0_0 right.2.f_b.length c28_o0_0) (by kernel_rfl) (by kernel_rfl) (H.cellB 0 rfl rfl) ?_)
    refine seg 2 [.op [1, 1, 1, 0] 7] [(20, .pointer (some (⟨g0, 0, none⟩))), (24, .slice A28_o0_0 right.2.f_b.length c28_o0_0), (25, .int .u64 (n_.toNat : Int)), (26, .int .i64 width)] (by kernel_rfl) ?_
    obtain ⟨store, h_store, hf⟩ := bindE hf
    obtain ⟨F30, hse30, hFn30, hcl30⟩ := St.call [rowI rU8 5 A28_o0_0 c28_o0_0 right.2.f_b] (H.pull 1 rfl)
    refine st (callR (some 27) 66 #[.slice A28_o0_0 right.2.f_b.length c28_o0_0, .int .u64 (n_.toNat : Int), .int .i64 width] Try.call66 (field_store_c H.has right.2.f_b A28_o0_0 c28_o0_0 n_ width hse30 hFn30 h_store) (by kernel_rfl) ?_)
    rintro _ w30 ⟨A30_0, c30_0, mk30, rfl, hS30⟩
    have hsub30 := hS30.sub
    replace H := hcl30 _ _ _ hS30
    refine seg 2 [.op [1, 1, 1, 0] 10] [(27, .slice A30_0 store.length c30_0), (29, .pointer (some (⟨g0, 0, none⟩)))] (by kernel_rfl) ?_
    refine st (stS none 29 1 g0 0 (.slice A30_0 store.length c30_0) [.slice A28_o0_0 right.2.f_b.length c28_o0_0, .int .i64 right.2.f_most, .int .i64 right.2.f_e] 108 H rfl (by kernel_rfl) (by kernel_rfl) rfl (of_decide_eq_true rfl) ?_)
    intro w31 H
    refine seg 1 [] [] (by kernel_rfl) ?_
    refine endR [] [] (by kernel_rfl) (by kernel_rfl) ?_
    obtain rfl : ({ f_b := store, f_most := right.2.f_most, f_e := right.2.f_e } : TFieldWriter) = r := (Option.some.inj hf)
    exact ⟨_, rfl, A30_0, c30_0, mk30, rfl, (H.pull 1 rfl)⟩
  · rw [hb29]
    refine seg 2 [] [] (by kernel_rfl) ?_
    refine endR [] [] (by kernel_rfl) (by kernel_rfl) ?_
    obtain rfl : right.2 = r := (Option.some.inj hf)
    exact ⟨_, rfl, A28_o0_0, c28_o0_0, mk28, rfl, H⟩
theorem field_Writer_Bytes_c {m : Mem} {w : World} (hm : Has m w) (g0 : Nat) (w_ : TFieldWriter) (A0_0 : Option Addr) (c0_0 : Nat) (b : (List UInt8)) (A1_0 : Option Addr) (c1_0 : Nat) (s1_0 : SlI rU8 m A1_0 c1_0 b) {F : Nat → Prop} (hsep : Sep m w [blkI g0 [.slice A0_0 w_.f_b.length c0_0, .int .i64 w_.f_most, .int .i64 w_.f_e] 108, rowI rU8 5 A0_0 c0_0 w_.f_b] F) (hF : ∀ k, F k → m k = none) {r : TFieldWriter} (hf : field_Writer_Bytes w_ b = some r) :
    Calls Try.prog 45 #[.pointer (some (⟨g0, 0, none⟩)), .slice A1_0 b.length c1_0] w fun e w' => ∃ v, e = .returned v ∧ ∃ Az_o0_0 : Option Addr, ∃ cz_o0_0 : Nat, ∃ m' : Mem, v = .tuple #[] ∧ St w F m m' [blkI g0 [.slice Az_o0_0 r.f_b.length cz_o0_0, .int .i64 r.f_most, .int .i64 r.f_e] 108, rowI rU8 5 Az_o0_0 cz_o0_0 r.f_b] w' := by
  unfold field_Writer_Bytes at hf
  have H := St.start hm hsep hF
  refine callsR Try.func45 (by kernel_rfl) (by kernel_rfl) ?_
  refine seg 5 [.op [0] 3, .co [1]] [(0, .pointer (some (⟨g0, 0, none⟩))), (1, .slice A1_0 b.length c1_0), (4, .pointer (some (⟨g0, 0, none⟩))), (6, .int .i64 (b.length : Int))] (by kernel_rfl) ?_
  obtain ⟨right, h_right, hf⟩ := bindE hf
  obtain ⟨F1, hse1, hFn1, hcl1⟩ := St.call [blkI g0 [.slice A0_0 w_.f_b.length c0_0, .int .i64 w_.f_most, .int .i64 w_.f_e] 108, rowI rU8 5 A0_0 c0_0 w_.f_b] ((H.pull 1 rfl).pull 1 rfl)
  refine st (callR (some 7) 65 #[.pointer (some (⟨g0, 0, none⟩)), .int .i64 0, .int .i64 (b.length : Int)] Try.call65 (field_Writer_right_c H.has g0 w_ A0_0 c0_0 0 (b.length : Int) hse1 hFn1 h_right) (by kernel_rfl) ?_)
  rintro _ w1 ⟨A1_o0_0, c1_o0_0, mk1, rfl, hS1⟩
  have hsub1 := hS1.sub
  replace H := hcl1 _ _ _ hS1
  refine seg 1 [.co [1]] [(0, .pointer (some (⟨g0, 0, none⟩))), (1, .slice A1_0 b.length c1_0), (7, .bool right.1)] (by kernel_rfl) ?_
  rcases condT hf with ⟨hb6, hf⟩ | ⟨hb6, hf⟩
  · rw [hb6]
    refine seg 6 [.op [1, 0] 4] [(1, .slice A1_0 b.length c1_0), (8, .pointer (some (⟨g0, 0, none⟩))), (11, .pointer (some (⟨g0, 0, none⟩)))] (by kernel_rfl) ?_
    refine st (ldR (some 12) 29 (⟨g0, 0, none⟩) (.slice A1_o0_0 right.2.f_b.length c1_o0_0) (by kernel_rfl) (by kernel_rfl) (H.cellB 0 rfl rfl) ?_)
    refine seg 1 [.op [1, 0] 6] [(8, .pointer (some (⟨g0, 0, none⟩))), (12, .slice A1_o0_0 right.2.f_b.length c1_o0_0), (13, .slice A1_0 b.length c1_0)] (by kernel_rfl) ?_
    obtain ⟨xs7, hr7, hx7⟩ := (s1_0.mono hsub1).cs
    obtain ⟨b1, h_b1, hf⟩ := bindE hf
    refine st (appS (r := rU8) (some 14) 29 5 1 (.int .u8 0) 29 1 A1_o0_0 A1_0 c1_o0_0 b.length c1_0 right.2.f_b b b1 _ H rfl ⟨Try.underlying29, by kernel_rfl⟩ rfl (by decide) (by kernel_rfl) (hx7.cs H.has) hr7 rfl h_b1 (by decide) (by decide) ?_)
    intro A9 c9 w9 H
    refine seg 2 [.op [1, 0] 9] [(14, .slice A9 b1.length c9), (16, .pointer (some (⟨g0, 0, none⟩)))] (by kernel_rfl) ?_
    replace H : St w F m mk1 [blkI g0 [.slice A1_o0_0 right.2.f_b.length c1_o0_0, .int .i64 right.2.f_most, .int .i64 right.2.f_e] 108, rowI rU8 5 A9 c9 b1] w9 := H
    refine st (stS none 29 0 g0 0 (.slice A9 b1.length c9) [.slice A1_o0_0 right.2.f_b.length c1_o0_0, .int .i64 right.2.f_most, .int .i64 right.2.f_e] 108 H rfl (by kernel_rfl) (by kernel_rfl) rfl (of_decide_eq_true rfl) ?_)
    intro w10 H
    refine seg 1 [] [] (by kernel_rfl) ?_
    refine endR [] [] (by kernel_rfl) (by kernel_rfl) ?_
    obtain rfl : ({ f_b := b1, f_most := right.2.f_most, f_e := right.2.f_e } : TFieldWriter) = r := (Option.some.inj hf)
    exact ⟨_, rfl, A9, c9, mk1, rfl, H⟩
  · rw [hb6]
    refine seg 2 [] [] (by kernel_rfl) ?_
    refine endR [] [] (by kernel_rfl) (by kernel_rfl) ?_
    obtain rfl : right.2 = r := (Option.some.inj hf)
    exact ⟨_, rfl, A1_o0_0, c1_o0_0, mk1, rfl, H⟩
theorem field_Writer_Text_c {m : Mem} {w : World} (hm : Has m w) (g0 : Nat) (w_ : TFieldWriter) (A0_0 : Option Addr) (c0_0 : Nat) (b : (List UInt8)) (A1_0 : Option Addr) (c1_0 : Nat) (s1_0 : SlI rU8 m A1_0 c1_0 b) {F : Nat → Prop} (hsep : Sep m w [blkI g0 [.slice A0_0 w_.f_b.length c0_0, .int .i64 w_.f_most, .int .i64 w_.f_e] 108, rowI rU8 5 A0_0 c0_0 w_.f_b] F) (hF : ∀ k, F k → m k = none) {r : TFieldWriter} (hf : field_Writer_Text w_ b = some r) :
    Calls Try.prog 46 #[.pointer (some (⟨g0, 0, none⟩)), .slice A1_0 b.length c1_0] w fun e w' => ∃ v, e = .returned v ∧ ∃ Az_o0_0 : Option Addr, ∃ cz_o0_0 : Nat, ∃ m' : Mem, v = .tuple #[] ∧ St w F m m' [blkI g0 [.slice Az_o0_0 r.f_b.length cz_o0_0, .int .i64 r.f_most, .int .i64 r.f_e] 108, rowI rU8 5 Az_o0_0 cz_o0_0 r.f_b] w' := by
  unfold field_Writer_Text at hf
  have H := St.start hm hsep hF
  refine callsR Try.func46 (by kernel_rfl) (by kernel_rfl) ?_
  refine seg 11 [.co [1, 0, 1], .co [1, 1]] [(0, .pointer (some (⟨g0, 0, none⟩))), (1, .slice A1_0 b.length c1_0), (4, .int .i64 0), (7, .bool (decide ((b.length : Int) > 65535)))] (by kernel_rfl) ?_
  rcases condT hf with ⟨hb14, hf⟩ | ⟨hb14, hf⟩
  · rw [hb14]
    have p14 := of_decide_eq_true hb14
    refine seg 12 [.op [1, 1, 0] 6, .co [1, 1, 1]] [(0, .pointer (some (⟨g0, 0, none⟩))), (1, .slice A1_0 b.length c1_0), (8, .pointer (some (⟨g0, 0, none⟩))), (9, .int .i64 9), (13, .int .i64 (IntKind.i64.wrap ((if 65535 < (b.length : Int) then 65535 else (b.length : Int)) + 2)))] (by kernel_rfl) ?_
    obtain ⟨right, h_right, hf⟩ := bindE hf
    obtain ⟨F15, hse15, hFn15, hcl15⟩ := St.call [blkI g0 [.slice A0_0 w_.f_b.length c0_0, .int .i64 w_.f_most, .int .i64 w_.f_e] 108, rowI rU8 5 A0_0 c0_0 w_.f_b] ((H.pull 1 rfl).pull 1 rfl)
    refine st (callR (some 14) 65 #[.pointer (some (⟨g0, 0, none⟩)), .int .i64 9, .int .i64 (IntKind.i64.wrap ((if 65535 < (b.length : Int) then 65535 else (b.length : Int)) + 2))] Try.call65 (field_Writer_right_c H.has g0 w_ A0_0 c0_0 9 (IntKind.i64.wrap ((if 65535 < (b.length : Int) then 65535 else (b.length : Int)) + 2)) hse15 hFn15 h_right) (by kernel_rfl) ?_)
    rintro _ w15 ⟨A15_o0_0, c15_o0_0, mk15, rfl, hS15⟩
    have hsub15 := hS15.sub
    replace H := hcl15 _ _ _ hS15
    refine seg 1 [.co [1, 1, 1]] [(0, .pointer (some (⟨g0, 0, none⟩))), (1, .slice A1_0 b.length c1_0), (14, .bool right.1)] (by kernel_rfl) ?_
    rcases condT hf with ⟨hb17, hf⟩ | ⟨hb17, hf⟩
    · rw [hb17]
      refine seg 6 [.op [1, 1, 1, 0] 4] [(1, .slice A1_0 b.length c1_0), (15, .pointer (some (⟨g0, 0, none⟩))), (18, .pointer (some (⟨g0, 0, none⟩)))] (by kernel_rfl) ?_
      replace H : St w F m mk15 [blkI g0 [.slice A15_o0_0 right.2.f_b.length c15_o0_0, .int .i64 right.2.f_most, .int .i64 right.2.f_e] 108, rowI rU8 5 A15_o0_0 c15_o0_0 right.2.f_b] w15 := H
      refine st (ldR (some 19) 29 (⟨g0, 0, none⟩) (.slice A15_o0_0 right.2.f_b.length c15_o0_0) (by kernel_rfl) (by kernel_rfl) (H.cellB 0 rfl rfl) ?_)
      refine seg 3 [.op [1, 1, 1, 0] 8] [(1, .slice A1_0 b.length c1_0), (15, .pointer (some (⟨g0, 0, none⟩))), (19, .slice A15_o0_0 right.2.f_b.length c15_o0_0), (22, .int .u64 (IntKind.u64.wrap (b.length : Int)))] (by kernel_rfl) ?_
      rw [q64_wrap (b.length : Int)]
      obtain ⟨store, h_store, hf⟩ := bindE hf
      obtain ⟨F18, hse18, hFn18, hcl18⟩ := St.call [rowI rU8 5 A15_o0_0 c15_o0_0 right.2.f_b] (H.pull 1 rfl)
      refine st (callR (some 23) 66 #[.slice A15_o0_0 right.2.f_b.length c15_o0_0, .int .u64 ((UInt64.ofInt (b.length : Int)).toNat : Int), .int .i64 2] Try.call66 (field_store_c H.has right.2.f_b A15_o0_0 c15_o0_0 (UInt64.ofInt (b.length : Int)) 2 hse18 hFn18 h_store) (by kernel_rfl) ?_)
      rintro _ w18 ⟨A18_0, c18_0, mk18, rfl, hS18⟩
      have hsub18 := hS18.sub
      replace H := hcl18 _ _ _ hS18
      refine seg 1 [.op [1, 1, 1, 0] 10] [(15, .pointer (some (⟨g0, 0, none⟩))), (23, .slice A18_0 store.length c18_0), (24, .slice A1_0 b.length c1_0)] (by kernel_rfl) ?_
      obtain ⟨xs19, hr19, hx19⟩ := (s1_0.mono (hsub15.trans hsub18)).cs
      obtain ⟨b1, h_b1, hf⟩ := bindE hf
      refine st (appS (r := rU8) (some 25) 29 5 1 (.int .u8 0) 29 0 A18_0 A1_0 c18_0 b.length c1_0 store b b1 _ H rfl ⟨Try.underlying29, by kernel_rfl⟩ rfl (by decide) (by kernel_rfl) (hx19.cs H.has) hr19 rfl h_b1 (by decide) (by decide) ?_)
      intro A20 c20 w20 H
      refine seg 2 [.op [1, 1, 1, 0] 13] [(25, .slice A20 b1.length c20), (27, .pointer (some (⟨g0, 0, none⟩)))] (by kernel_rfl) ?_
      refine st (stS none 29 1 g0 0 (.slice A20 b1.length c20) [.slice A15_o0_0 right.2.f_b.length c15_o0_0, .int .i64 right.2.f_most, .int .i64 right.2.f_e] 108 H rfl (by kernel_rfl) (by kernel_rfl) rfl (of_decide_eq_true rfl) ?_)
      intro w21 H
      refine seg 1 [] [] (by kernel_rfl) ?_
      refine endR [] [] (by kernel_rfl) (by kernel_rfl) ?_
      obtain rfl : ({ f_b := b1, f_most := right.2.f_most, f_e := right.2.f_e } : TFieldWriter) = r := (Option.some.inj hf)
      exact ⟨_, rfl, A20, c20, mk18, rfl, (H.pull 1 rfl)⟩
    · rw [hb17]
      refine seg 2 [] [] (by kernel_rfl) ?_
      refine endR [] [] (by kernel_rfl) (by kernel_rfl) ?_
      obtain rfl : right.2 = r := (Option.some.inj hf)
      exact ⟨_, rfl, A15_o0_0, c15_o0_0, mk15, rfl, H⟩
  · rw [hb14]
    have p14 := of_decide_eq_false hb14
    refine seg 10 [.op [1, 1, 0] 6, .co [1, 1, 1]] [(0, .pointer (some (⟨g0, 0, none⟩))), (1, .slice A1_0 b.length c1_0), (8, .pointer (some (⟨g0, 0, none⟩))), (9, .int .i64 0), (13, .int .i64 (IntKind.i64.wrap ((if 65535 < (b.length : Int) then 65535 else (b.length : Int)) + 2)))] (by kernel_rfl) ?_
    have := s1_0.bound
    rw [show IntKind.i64.wrap ((if 65535 < (b.length : Int) then 65535 else (b.length : Int)) + 2) = ((if 65535 < (b.length : Int) then 65535 else (b.length : Int)) + 2) from w64 (by omega)]
    obtain ⟨right1, h_right1, hf⟩ := bindE hf
    obtain ⟨F22, hse22, hFn22, hcl22⟩ := St.call [blkI g0 [.slice A0_0 w_.f_b.length c0_0, .int .i64 w_.f_most, .int .i64 w_.f_e] 108, rowI rU8 5 A0_0 c0_0 w_.f_b] ((H.pull 1 rfl).pull 1 rfl)
    refine st (callR (some 14) 65 #[.pointer (some (⟨g0, 0, none⟩)), .int .i64 0, .int .i64 ((if 65535 < (b.length : Int) then 65535 else (b.length : Int)) + 2)] Try.call65 (field_Writer_right_c H.has g0 w_ A0_0 c0_0 0 ((if 65535 < (b.length : Int) then 65535 else (b.length : Int)) + 2) hse22 hFn22 h_right1) (by kernel_rfl) ?_)
    rintro _ w22 ⟨A22_o0_0, c22_o0_0, mk22, rfl, hS22⟩
    have hsub22 := hS22.sub
    replace H := hcl22 _ _ _ hS22
    refine seg 1 [.co [1, 1, 1]] [(0, .pointer (some (⟨g0, 0, none⟩))), (1, .slice A1_0 b.length c1_0), (14, .bool right1.1)] (by kernel_rfl) ?_
    rcases condT hf with ⟨hb23, hf⟩ | ⟨hb23, hf⟩
    · rw [hb23]
      refine seg 6 [.op [1, 1, 1, 0] 4] [(1, .slice A1_0 b.length c1_0), (15, .pointer (some (⟨g0, 0, none⟩))), (18, .pointer (some (⟨g0, 0, none⟩)))] (by kernel_rfl) ?_
      replace H : St w F m mk22 [blkI g0 [.slice A22_o0_0 right1.2.f_b.length c22_o0_0, .int .i64 right1.2.f_most, .int .i64 right1.2.f_e] 108, rowI rU8 5 A22_o0_0 c22_o0_0 right1.2.f_b] w22 := H
      refine st (ldR (some 19) 29 (⟨g0, 0, none⟩) (.slice A22_o0_0 right1.2.f_b.length c22_o0_0) (by kernel_rfl) (by kernel_rfl) (H.cellB 0 rfl rfl) ?_)
      refine seg 3 [.op [1, 1, 1, 0] 8] [(1, .slice A1_0 b.length c1_0), (15, .pointer (some (⟨g0, 0, none⟩))), (19, .slice A22_o0_0 right1.2.f_b.length c22_o0_0), (22, .int .u64 (IntKind.u64.wrap (b.length : Int)))] (by kernel_rfl) ?_
      rw [q64_wrap (b.length : Int)]
      obtain ⟨store1, h_store1, hf⟩ := bindE hf
      obtain ⟨F24, hse24, hFn24, hcl24⟩ := St.call [rowI rU8 5 A22_o0_0 c22_o0_0 right1.2.f_b] (H.pull 1 rfl)
      refine st (callR (some 23) 66 #[.slice A22_o0_0 right1.2.f_b.length c22_o0_0, .int .u64 ((UInt64.ofInt (b.length : Int)).toNat : Int), .int .i64 2] Try.call66 (field_store_c H.has right1.2.f_b A22_o0_0 c22_o0_0 (UInt64.ofInt (b.length : Int)) 2 hse24 hFn24 h_store1) (by kernel_rfl) ?_)
      rintro _ w24 ⟨A24_0, c24_0, mk24, rfl, hS24⟩
      have hsub24 := hS24.sub
      replace H := hcl24 _ _ _ hS24
      refine seg 1 [.op [1, 1, 1, 0] 10] [(15, .pointer (some (⟨g0, 0, none⟩))), (23, .slice A24_0 store1.length c24_0), (24, .slice A1_0 b.length c1_0)] (by kernel_rfl) ?_
      obtain ⟨xs25, hr25, hx25⟩ := (s1_0.mono (hsub22.trans hsub24)).cs
      obtain ⟨b2, h_b2, hf⟩ := bindE hf
      refine st (appS (r := rU8) (some 25) 29 5 1 (.int .u8 0) 29 0 A24_0 A1_0 c24_0 b.length c1_0 store1 b b2 _ H rfl ⟨Try.underlying29, by kernel_rfl⟩ rfl (by decide) (by kernel_rfl) (hx25.cs H.has) hr25 rfl h_b2 (by decide) (by decide) ?_)
      intro A26 c26 w26 H
      refine seg 2 [.op [1, 1, 1, 0] 13] [(25, .slice A26 b2.length c26), (27, .pointer (some (⟨g0, 0, none⟩)))] (by kernel_rfl) ?_
      refine st (stS none 29 1 g0 0 (.slice A26 b2.length c26) [.slice A22_o0_0 right1.2.f_b.length c22_o0_0, .int .i64 right1.2.f_most, .int .i64 right1.2.f_e] 108 H rfl (by kernel_rfl) (by kernel_rfl) rfl (of_decide_eq_true rfl) ?_)
      intro w27 H
      refine seg 1 [] [] (by kernel_rfl) ?_
      refine endR [] [] (by kernel_rfl) (by kernel_rfl) ?_
      obtain rfl : ({ f_b := b2, f_most := right1.2.f_most, f_e := right1.2.f_e } : TFieldWriter) = r := (Option.some.inj hf)
      exact ⟨_, rfl, A26, c26, mk24, rfl, (H.pull 1 rfl)⟩
    · rw [hb23]
      refine seg 2 [] [] (by kernel_rfl) ?_
      refine endR [] [] (by kernel_rfl) (by kernel_rfl) ?_
      obtain rfl : right1.2 = r := (Option.some.inj hf)
      exact ⟨_, rfl, A22_o0_0, c22_o0_0, mk22, rfl, H⟩
theorem table_EncodeAttrs_1_c {m : Mem} {w : World} (hm : Has m w) (g0 : Nat) (w_ : TFieldWriter) (A0_0 : Option Addr) (c0_0 : Nat) (a : TApiAttr) (l1_0 : a.Name.length ≤ 9223372036854775807) (A1_1 : Option Addr) (c1_1 : Nat) (s1_1 : SlI rU8 m A1_1 c1_1 a.Value) {F : Nat → Prop} (hsep : Sep m w [blkI g0 [.slice A0_0 w_.f_b.length c0_0, .int .i64 w_.f_most, .int .i64 w_.f_e] 108, rowI rU8 5 A0_0 c0_0 w_.f_b] F) (hF : ∀ k, F k → m k = none) {r : TFieldWriter} (hf : table_EncodeAttrs_1 w_ a = some r) :
    Calls Try.prog 44 #[.pointer (some (⟨g0, 0, none⟩)), .agg #[.string ⟨a.Name.toArray⟩, .slice A1_1 a.Value.length c1_1]] w fun e w' => ∃ v, e = .returned v ∧ ∃ Az_o0_0 : Option Addr, ∃ cz_o0_0 : Nat, ∃ m' : Mem, v = .tuple #[] ∧ St w F m m' [blkI g0 [.slice Az_o0_0 r.f_b.length cz_o0_0, .int .i64 r.f_most, .int .i64 r.f_e] 108, rowI rU8 5 Az_o0_0 cz_o0_0 r.f_b] w' := by
  unfold table_EncodeAttrs_1 at hf
  have H := St.start hm hsep hF
  refine callsR Try.func44 (by kernel_rfl) (by kernel_rfl) ?_
  refine seg 2 [.op [0] 0, .co [1]] [(0, .pointer (some (⟨g0, 0, none⟩))), (1, .agg #[.string ⟨a.Name.toArray⟩, .slice A1_1 a.Value.length c1_1])] (by kernel_rfl) ?_
  refine st (newS (some 3) (fun g => .pointer (some ⟨g, 0, none⟩)) [.string ⟨a.Name.toArray⟩, .slice A1_1 a.Value.length c1_1] 43 H (by kernel_rfl) ?_)
  intro g1 w1 H
  refine seg 5 [.op [1, 0] 2, .co [1, 1]] [(0, .pointer (some (⟨g0, 0, none⟩))), (3, .pointer (some (⟨g1, 0, none⟩))), (4, .pointer (some (⟨g0, 0, none⟩))), (5, .pointer (some (⟨g1, 0, none⟩)))] (by kernel_rfl) ?_
  refine st (ldR (some 6) 9 (⟨g1, 0, none⟩) (.string ⟨a.Name.toArray⟩) (by kernel_rfl) (by kernel_rfl) (H.cellB 0 rfl rfl) ?_)
  refine seg 2 [.op [1, 0] 5, .co [1, 1]] [(0, .pointer (some (⟨g0, 0, none⟩))), (3, .pointer (some (⟨g1, 0, none⟩))), (4, .pointer (some (⟨g0, 0, none⟩))), (8, .int .u64 (IntKind.u64.wrap (a.Name.length : Int)))] (by kernel_rfl) ?_
  rw [q64_wrap (a.Name.length : Int)]
  obtain ⟨num, h_num, hf⟩ := bindE hf
  obtain ⟨F2, hse2, hFn2, hcl2⟩ := St.call [blkI g0 [.slice A0_0 w_.f_b.length c0_0, .int .i64 w_.f_most, .int .i64 w_.f_e] 108, rowI rU8 5 A0_0 c0_0 w_.f_b] ((H.pull 2 rfl).pull 2 rfl)
  refine st (callR (some 9) 35 #[.pointer (some (⟨g0, 0, none⟩)), .int .u64 ((UInt64.ofInt (a.Name.length : Int)).toNat : Int), .int .i64 1] Try.call35 (field_Writer_Num_c H.has g0 w_ A0_0 c0_0 (UInt64.ofInt (a.Name.length : Int)) 1 hse2 hFn2 h_num) (by kernel_rfl) ?_)
  rintro _ w2 ⟨A2_o0_0, c2_o0_0, mk2, rfl, hS2⟩
  have hsub2 := hS2.sub
  replace H := hcl2 _ _ _ hS2
  refine seg 5 [.op [1, 1, 0] 2, .co [1, 1, 1]] [(0, .pointer (some (⟨g0, 0, none⟩))), (3, .pointer (some (⟨g1, 0, none⟩))), (10, .pointer (some (⟨g0, 0, none⟩))), (11, .pointer (some (⟨g1, 0, none⟩)))] (by kernel_rfl) ?_
  refine st (ldR (some 12) 9 (⟨g1, 0, none⟩) (.string ⟨a.Name.toArray⟩) (by kernel_rfl) (by kernel_rfl) (H.cellB 2 rfl rfl) ?_)
  refine st (s2bS (some 13) 9 29 5 a.Name H Try.underlying9 Try.underlying29 Try.underlying5 (by kernel_rfl) ?_ l1_0)
  intro A3 c3 mc3 w3 hsub3 hs3 H
  obtain ⟨bytes, h_bytes, hf⟩ := bindE hf
  obtain ⟨F4, hse4, hFn4, hcl4⟩ := St.call [blkI g0 [.slice A2_o0_0 num.f_b.length c2_o0_0, .int .i64 num.f_most, .int .i64 num.f_e] 108, rowI rU8 5 A2_o0_0 c2_o0_0 num.f_b] ((H.pull 1 rfl).pull 1 rfl)
  refine st (callR (some 14) 45 #[.pointer (some (⟨g0, 0, none⟩)), .slice A3 a.Name.length c3] Try.call45 (field_Writer_Bytes_c H.has g0 num A2_o0_0 c2_o0_0 a.Name A3 c3 hs3 hse4 hFn4 h_bytes) (by kernel_rfl) ?_)
  rintro _ w4 ⟨A4_o0_0, c4_o0_0, mk4, rfl, hS4⟩
  have hsub4 := hS4.sub
  replace H := hcl4 _ _ _ hS4
  refine seg 4 [.op [1, 1, 1] 2] [(15, .pointer (some (⟨g0, 0, none⟩))), (16, .pointer (some (⟨g1, 1, none⟩)))] (by kernel_rfl) ?_
  replace H : St w F m mk4 [blkI g0 [.slice A4_o0_0 bytes.f_b.length c4_o0_0, .int .i64 bytes.f_most, .int .i64 bytes.f_e] 108, rowI rU8 5 A4_o0_0 c4_o0_0 bytes.f_b, blkI g1 [.string ⟨a.Name.toArray⟩, .slice A1_1 a.Value.length c1_1] 43] w4 := H
  refine st (ldR (some 17) 29 (⟨g1, 1, none⟩) (.slice A1_1 a.Value.length c1_1) (by kernel_rfl) (by kernel_rfl) (H.cellB 2 rfl rfl) ?_)
  obtain ⟨text, h_text, hf⟩ := bindE hf
  obtain ⟨F5, hse5, hFn5, hcl5⟩ := St.call [blkI g0 [.slice A4_o0_0 bytes.f_b.length c4_o0_0, .int .i64 bytes.f_most, .int .i64 bytes.f_e] 108, rowI rU8 5 A4_o0_0 c4_o0_0 bytes.f_b] ((H.pull 1 rfl).pull 1 rfl)
  refine st (callR (some 18) 46 #[.pointer (some (⟨g0, 0, none⟩)), .slice A1_1 a.Value.length c1_1] Try.call46 (field_Writer_Text_c H.has g0 bytes A4_o0_0 c4_o0_0 a.Value A1_1 c1_1 (s1_1.mono ((hsub2.trans hsub3).trans hsub4)) hse5 hFn5 h_text) (by kernel_rfl) ?_)
  rintro _ w5 ⟨A5_o0_0, c5_o0_0, mk5, rfl, hS5⟩
  have hsub5 := hS5.sub
  replace H := hcl5 _ _ _ hS5
  refine seg 1 [] [] (by kernel_rfl) ?_
  refine endR [] [] (by kernel_rfl) (by kernel_rfl) ?_
  have hret := (Option.some.inj hf)
  subst hret
  exact ⟨_, rfl, A5_o0_0, c5_o0_0, mk5, rfl, (St.takeN 2 ((H.pull 1 rfl).pull 1 rfl))⟩
theorem field_Writer_Done_c {m : Mem} {w : World} (hm : Has m w) (g0 : Nat) (w_ : TFieldWriter) (A0_0 : Option Addr) (c0_0 : Nat) {F : Nat → Prop} (hsep : Sep m w [blkI g0 [.slice A0_0 w_.f_b.length c0_0, .int .i64 w_.f_most, .int .i64 w_.f_e] 108, rowI rU8 5 A0_0 c0_0 w_.f_b] F) (hF : ∀ k, F k → m k = none) {r : ((List UInt8) × Int)} (hf : field_Writer_Done w_ = some r) :
    Calls Try.prog 62 #[.pointer (some (⟨g0, 0, none⟩))] w fun e w' => ∃ v, e = .returned v ∧ ∃ Az_0 : Option Addr, ∃ cz_0 : Nat, ∃ m' : Mem, v = .tuple #[.slice Az_0 r.1.length cz_0, .int .i64 r.2] ∧ St w F m m' [rowI rU8 5 Az_0 cz_0 r.1, blkI g0 [.slice A0_0 w_.f_b.length c0_0, .int .i64 w_.f_most, .int .i64 w_.f_e] 108, rowI rU8 5 A0_0 c0_0 w_.f_b] w' := by
  unfold field_Writer_Done at hf
  have H := St.start hm hsep hF
  refine callsR Try.func62 (by kernel_rfl) (by kernel_rfl) ?_
  refine seg 19 [.op [1, 0, 0, 1, 1, 0] 3, .co [1, 0, 0, 1, 1, 1], .bl 0, .co [1, 1]] [(0, .pointer (some (⟨g0, 0, none⟩))), (10, .pointer (some (⟨g0, 2, none⟩)))] (by kernel_rfl) ?_
  refine st (ldR (some 11) 30 (⟨g0, 2, none⟩) (.int .i64 w_.f_e) (by kernel_rfl) (by kernel_rfl) (H.cellB 0 rfl rfl) ?_)
  refine seg 3 [.co [1, 0, 0, 1, 1, 1], .bl 0, .co [1, 1]] [(0, .pointer (some (⟨g0, 0, none⟩))), (7, .bool (w_.f_e != 0))] (by kernel_rfl) ?_
  rcases condT hf with ⟨hb3, hf⟩ | ⟨hb3, hf⟩
  · rw [hb3]
    refine seg 2 [.co [1, 0, 0, 1, 1, 1, 0, 0], .co [1, 0, 0, 1, 1, 1, 0, 1], .bl 0, .co [1, 1]] [(0, .pointer (some (⟨g0, 0, none⟩)))] (by kernel_rfl) ?_
    have hst : statB (bodyOf Try.f62) [1, 0, 0, 1, 1, 1, 0, 0] = true := by kernel_rfl
    refine drawS (fun w' => Has m w' ∧ w'.heap[g0]? = some (.cells [.slice A0_0 w_.f_b.length c0_0, .int .i64 w_.f_most, .int .i64 w_.f_e].toArray 108 (0, 0))) H (by kernel_rfl) (by kernel_rfl) ?_
    intro w4 H
    refine segD2 hst [0, 1, 2, 4] [0, 1, 2, 4] [(2, .slice none 0 0), (15, .pointer (some (⟨g0, 2, none⟩)))] (by kernel_rfl) ?_
    refine stD2 (i := 3) (by kernel_rfl) ⟨H.has, H.blk 0 rfl⟩ (ldR (some 16) 30 (⟨g0, 2, none⟩) (.int .i64 w_.f_e) (by kernel_rfl) (by kernel_rfl) (H.cellB 0 rfl rfl) ?_)
    refine segD2 hst [5] [0, 1, 2, 4, 3, 5] [(2, .slice none 0 0), (3, .int .i64 w_.f_e)] (by kernel_rfl) ?_
    refine endD2 (by kernel_rfl) ⟨H.has, H.blk 0 rfl⟩ ?_
    have H := H.nilR rU8 5
    refine retR [2, 3] [.slice none 0 0, .int .i64 w_.f_e] (by kernel_rfl) (by kernel_rfl) (by kernel_rfl) ?_
    obtain rfl : ([], w_.f_e) = r := (Option.some.inj hf)
    exact ⟨_, rfl, none, 0, m, rfl, H⟩
  · rw [hb3]
    refine seg 8 [.op [1, 1, 0] 3, .co [1, 1, 1]] [(19, .pointer (some (⟨g0, 0, none⟩)))] (by kernel_rfl) ?_
    refine st (ldR (some 20) 29 (⟨g0, 0, none⟩) (.slice A0_0 w_.f_b.length c0_0) (by kernel_rfl) (by kernel_rfl) (H.cellB 0 rfl rfl) ?_)
    have H0_5 := H
    obtain ⟨mf6, hsub6, hsf6, H⟩ := H.fixR 1 rfl
    obtain ⟨copied, h_copied, hf⟩ := bindE hf
    refine st (callR (some 21) 71 #[.slice A0_0 w_.f_b.length c0_0] Try.call71 (field_copied_c H.has w_.f_b A0_0 c0_0 hsf6 h_copied) (by kernel_rfl) ?_)
    rintro _ w7 ⟨A7_0, c7_0, mk7, rfl, hS7⟩
    replace H := H0_5.callB hS7 ⟨rowI_ind (fun _ _ _ _ h => h), trivial⟩
    refine seg 3 [.co [1, 1, 1]] [(2, .slice A7_0 copied.length c7_0), (3, .int .i64 0)] (by kernel_rfl) ?_
    refine retR [2, 3] [.slice A7_0 copied.length c7_0, .int .i64 0] (by kernel_rfl) (by kernel_rfl) (by kernel_rfl) ?_
    obtain rfl : (copied, 0) = r := (Option.some.inj hf)
    exact ⟨_, rfl, A7_0, c7_0, m, rfl, H⟩
theorem table_write1_c {m : Mem} {w : World} (hm : Has m w) (l_ : (List TApiAttr)) (A0_0 : Option Addr) (c0_0 : Nat) (s0_0 : SlI rApiAttr m A0_0 c0_0 l_) {r : (List UInt8)} (hf : table_write1 l_ = some r) :
    Calls Try.prog 43 #[.slice A0_0 l_.length c0_0, .func (.func 44) #[] #[]] w fun e w' => ∃ v, e = .returned v ∧ ∃ Az_0 : Option Addr, ∃ cz_0 : Nat, ∃ m' : Mem, v = .slice Az_0 r.length cz_0 ∧ St w noF m m' [rowI rU8 5 Az_0 cz_0 r] w' := by
  unfold table_write1 at hf
  have H := St.start0 hm
  refine callsR Try.func43 (by kernel_rfl) (by kernel_rfl) ?_
  refine seg 6 [.op [1, 0] 0, .co [1, 1]] [(0, .slice A0_0 l_.length c0_0), (1, .func (.func 44) #[] #[])] (by kernel_rfl) ?_
  refine st (callR (some 10) 61 #[.int .i64 16777216] Try.call61 (field_NewWriter_c H.has 16777216) (by kernel_rfl) ?_)
  rintro _ w1 ⟨g1_0, A1_0_0, c1_0_0, mk1, rfl, hS1⟩
  have hsub1 := hS1.sub
  replace H := H.call0 hS1
  refine seg 9 [.co [1, 1, 0, 1], .co [1, 1, 1]] [(1, .func (.func 44) #[] #[]), (5, .pointer (some (⟨g1_0, 0, none⟩))), (11, .slice A0_0 l_.length c0_0), (12, .int .i64 (l_.length : Int)), (13, .int .i64 0)] (by kernel_rfl) ?_
  obtain ⟨y58, hp58, hf⟩ := bindE hf
  refine joinR 0 (fun (x : (List UInt8) × Int × Int × Option Addr × Nat × Mem) => [(5, .pointer (some (⟨g1_0, 0, none⟩)))]) (fun (x : (List UInt8) × Int × Int × Option Addr × Nat × Mem) (wj58 : World) => y58 = (x.1, x.2.1, x.2.2.1) ∧ St w noF m x.2.2.2.2.2 [blkI g1_0 [.slice (x.2.2.2.1) x.1.length (x.2.2.2.2.1), .int .i64 x.2.1, .int .i64 x.2.2.1] 108, rowI rU8 5 (x.2.2.2.1) (x.2.2.2.2.1) x.1] wj58 ∧ Sub mk1 x.2.2.2.2.2) (by kernel_rfl) ?_ ?_
  · refine seg 1 [.co [1, 1, 0, 1, 0], .bl 0, .le 0, .co [1, 1, 1]] [(1, .func (.func 44) #[] #[]), (5, .pointer (some (⟨g1_0, 0, none⟩))), (11, .slice A0_0 l_.length c0_0), (12, .int .i64 (l_.length : Int)), (13, .int .i64 0)] (by kernel_rfl) ?_
    obtain ⟨nn75, hR75⟩ := loopO_iff.1 hp58
    refine loopR 1 (fun (x : Nat × (List UInt8) × Int × Int × Nat × Option Addr × Nat × Mem) => [(1, .func (.func 44) #[] #[]), (5, .pointer (some (⟨g1_0, 0, none⟩))), (11, .slice A0_0 l_.length c0_0), (12, .int .i64 (l_.length : Int)), (13, .int .i64 (x.2.2.2.2.1 : Int))]) (fun (x : Nat × (List UInt8) × Int × Int × Nat × Option Addr × Nat × Mem) (wl75 : World) => iter (fun s => table_write1_l1 l_ s.1 s.2.1 s.2.2.1 s.2.2.2) x.1 (x.2.1, x.2.2.1, x.2.2.2.1, x.2.2.2.2.1) = some y58 ∧ St w noF m x.2.2.2.2.2.2.2 [blkI g1_0 [.slice (x.2.2.2.2.2.1) x.2.1.length (x.2.2.2.2.2.2.1), .int .i64 x.2.2.1, .int .i64 x.2.2.2.1] 108, rowI rU8 5 (x.2.2.2.2.2.1) (x.2.2.2.2.2.2.1) x.2.1] wl75 ∧ Sub mk1 x.2.2.2.2.2.2.2) (fun (x : Nat × (List UInt8) × Int × Int × Nat × Option Addr × Nat × Mem) => x.1) (nn75, (field_NewWriter 16777216).f_b, (field_NewWriter 16777216).f_most, (field_NewWriter 16777216).f_e, 0, A1_0_0, c1_0_0, mk1) (by kernel_rfl) (by kernel_rfl) (by kernel_rfl) ?_ ?_
    · exact ⟨hR75, H, (Sub.refl _)⟩
    rintro ⟨n75, b, most, e_, t, A_1_76, c_2_76, mm76⟩ wl75 ⟨hR75, H, hsub76⟩
    try dsimp only at hR75
    try dsimp only at H
    try dsimp only at hsub76
    obtain ⟨nk75, q75, rfl, hb_75, hnx75, hfin75⟩ := iterE hR75
    replace hb_75 : table_write1_l1 l_ b most e_ t = some q75 := hb_75
    unfold table_write1_l1 at hb_75
    refine seg 5 [.co [1, 1, 0, 1, 0, 0, 1, 0], .co [1, 1, 0, 1, 0, 0, 1, 1], .le 1, .bl 0, .le 0, .co [1, 1, 1]] [(1, .func (.func 44) #[] #[]), (5, .pointer (some (⟨g1_0, 0, none⟩))), (11, .slice A0_0 l_.length c0_0), (12, .int .i64 (l_.length : Int)), (13, .int .i64 (t : Int)), (14, .bool (decide ((t : Int) < (l_.length : Int))))] (by kernel_rfl) ?_
    rcases condT hb_75 with ⟨hb77, hb_75⟩ | ⟨hb77, hb_75⟩
    · rw [hb77]
      have p77 := of_decide_eq_true hb77
      refine seg 6 [.op [1, 1, 0, 1, 0, 0, 1, 1, 0, 0, 0] 0, .co [1, 1, 0, 1, 0, 0, 1, 1, 0, 0, 1], .bl 1, .co [1, 1, 0, 1, 0, 0, 1, 1, 1], .le 1, .bl 0, .le 0, .co [1, 1, 1]] [(1, .func (.func 44) #[] #[]), (5, .pointer (some (⟨g1_0, 0, none⟩))), (11, .slice A0_0 l_.length c0_0), (12, .int .i64 (l_.length : Int)), (13, .int .i64 (t : Int))] (by kernel_rfl) ?_
      obtain ⟨x_, h_x_, hb_75⟩ := bindE hb_75
      obtain ⟨ad79, _, ea79, ⟨A79_1, c79_1, rfl, hl79_0, hs79_1⟩, hc79⟩ := (s0_0.mono (hsub1.trans hsub76)).at_ h_x_ (by decide)
      refine st (idxS (some 15) 41 43 2 A0_0 ad79 l_.length c0_0 .i64 (t : Int) ea79 (by kernel_rfl) (by kernel_rfl) (by omega) (by have := (List.getElem?_eq_some_iff.1 h_x_).1; omega) ?_)
      refine st (ldAggR (some 16) 43 (ad79.add (t * 2)) [.string ⟨x_.Name.toArray⟩, .slice A79_1 x_.Value.length c79_1] (by kernel_rfl) (by kernel_rfl) (fun j v hj => H.cellI (hc79 j v hj)) ?_)
      refine st (newS (some 7) (fun g => .pointer (some ⟨g, 0, none⟩)) [.string ⟨([] : List UInt8).toArray⟩, .slice none 0 0] 43 H (by kernel_rfl) ?_)
      intro g80 w80 H
      replace H : St w noF m mm76 [blkI g80 [.string ⟨([] : List UInt8).toArray⟩, .slice none 0 0] 43, blkI g1_0 [.slice A_1_76 b.length c_2_76, .int .i64 most, .int .i64 e_] 108, rowI rU8 5 A_1_76 c_2_76 b] w80 := H
      refine st (stAggS none 43 0 g80 0 [.string ⟨x_.Name.toArray⟩, .slice A79_1 x_.Value.length c79_1] [.string ⟨([] : List UInt8).toArray⟩, .slice none 0 0] [.string ⟨x_.Name.toArray⟩, .slice A79_1 x_.Value.length c79_1] 43 H rfl (by kernel_rfl) (by kernel_rfl) (by rfl) (of_decide_eq_true rfl) rfl ?_)
      intro w81 H
      refine seg 4 [.op [1, 1, 0, 1, 0, 0, 1, 1, 0, 0, 1] 2, .bl 1, .co [1, 1, 0, 1, 0, 0, 1, 1, 1], .le 1, .bl 0, .le 0, .co [1, 1, 1]] [(1, .func (.func 44) #[] #[]), (5, .pointer (some (⟨g1_0, 0, none⟩))), (7, .pointer (some (⟨g80, 0, none⟩))), (11, .slice A0_0 l_.length c0_0), (12, .int .i64 (l_.length : Int)), (13, .int .i64 (t : Int)), (17, .func (.func 44) #[] #[]), (18, .pointer (some (⟨g1_0, 0, none⟩)))] (by kernel_rfl) ?_
      refine st (ldAggR (some 19) 43 (⟨g80, 0, none⟩) [.string ⟨x_.Name.toArray⟩, .slice A79_1 x_.Value.length c79_1] (by kernel_rfl) (by kernel_rfl) (H.cellsB 0 rfl (by rfl)) ?_)
      obtain ⟨encode, h_encode, hb_75⟩ := bindE hb_75
      obtain ⟨F82, hse82, hFn82, hcl82⟩ := St.call [blkI g1_0 [.slice A_1_76 b.length c_2_76, .int .i64 most, .int .i64 e_] 108, rowI rU8 5 A_1_76 c_2_76 b] ((H.pull 2 rfl).pull 2 rfl)
      refine st (callR (some 20) 44 #[.pointer (some (⟨g1_0, 0, none⟩)), .agg #[.string ⟨x_.Name.toArray⟩, .slice A79_1 x_.Value.length c79_1]] Try.call44 (table_EncodeAttrs_1_c H.has g1_0 ({ f_b := b, f_most := most, f_e := e_ } : TFieldWriter) A_1_76 c_2_76 x_ hl79_0 A79_1 c79_1 hs79_1 hse82 hFn82 h_encode) (by kernel_rfl) ?_)
      rintro _ w82 ⟨A82_o0_0, c82_o0_0, mk82, rfl, hS82⟩
      have hsub82 := hS82.sub
      replace H := hcl82 _ _ _ hS82
      refine seg 6 [.le 1, .bl 0, .le 0, .co [1, 1, 1]] [(1, .func (.func 44) #[] #[]), (5, .pointer (some (⟨g1_0, 0, none⟩))), (11, .slice A0_0 l_.length c0_0), (12, .int .i64 (l_.length : Int)), (13, .int .i64 (IntKind.i64.wrap ((t : Int) + 1)))] (by kernel_rfl) ?_
      have := s0_0.bound
      rw [show IntKind.i64.wrap ((t : Int) + 1) = ((t : Int) + 1) from w64 (by omega)]
      refine leR (nk75, encode.f_b, encode.f_most, encode.f_e, (t + 1), A82_o0_0, c82_o0_0, mk82) (Nat.lt_succ_self _) ⟨hnx75 _ (Option.some.inj hb_75).symm, (St.takeN 2 ((H.pull 1 rfl).pull 1 rfl)), (hsub76.trans hsub82)⟩ (by kernel_rfl)
    · rw [hb77]
      have p77 := of_decide_eq_false hb77
      refine seg 2 [.le 0, .co [1, 1, 1]] [(5, .pointer (some (⟨g1_0, 0, none⟩)))] (by kernel_rfl) ?_
      refine leR_up (k' := []) (by rfl) ?_
      refine leJ (b, most, e_, A_1_76, c_2_76, mm76) ⟨(hfin75 _ (Option.some.inj hb_75).symm).symm, H, hsub76⟩ (by kernel_rfl)
  rintro ⟨b, most, e_, A_1_59, c_2_59, mm59⟩ wj58 ⟨hy58, H, hsub59⟩
  try dsimp only at hy58
  try dsimp only at H
  try dsimp only at hsub59
  rw [hy58] at hf
  try dsimp only at hf
  refine seg 3 [.op [1, 1, 1, 0] 1, .co [1, 1, 1, 1]] [(23, .pointer (some (⟨g1_0, 0, none⟩)))] (by kernel_rfl) ?_
  obtain ⟨done, h_done, hf⟩ := bindE hf
  obtain ⟨F83, hse83, hFn83, hcl83⟩ := St.call [blkI g1_0 [.slice A_1_59 b.length c_2_59, .int .i64 most, .int .i64 e_] 108, rowI rU8 5 A_1_59 c_2_59 b] ((H.pull 1 rfl).pull 1 rfl)
  refine st (callR (some 24) 62 #[.pointer (some (⟨g1_0, 0, none⟩))] Try.call62 (field_Writer_Done_c H.has g1_0 ({ f_b := b, f_most := most, f_e := e_ } : TFieldWriter) A_1_59 c_2_59 hse83 hFn83 h_done) (by kernel_rfl) ?_)
  rintro _ w83 ⟨A83_0, c83_0, mk83, rfl, hS83⟩
  have hsub83 := hS83.sub
  replace H := hcl83 _ _ _ hS83
  refine seg 11 [.co [1, 1, 1, 1, 1]] [(4, .slice A83_0 done.1.length c83_0)] (by kernel_rfl) ?_
  refine retR [4] [.slice A83_0 done.1.length c83_0] (by kernel_rfl) (by kernel_rfl) (by kernel_rfl) ?_
  obtain rfl : done.1 = r := (Option.some.inj hf)
  exact ⟨_, rfl, A83_0, c83_0, mk83, rfl, (St.takeN 1 H)⟩
theorem table_EncodeAttrs_c {m : Mem} {w : World} (hm : Has m w) (l_ : (List TApiAttr)) (A0_0 : Option Addr) (c0_0 : Nat) (s0_0 : SlI rApiAttr m A0_0 c0_0 l_) {r : ((List UInt8) × Int)} (hf : table_EncodeAttrs l_ = some r) :
    Calls Try.prog 19 #[.slice A0_0 l_.length c0_0] w fun e w' => ∃ v, e = .returned v ∧ ∃ Az_0 : Option Addr, ∃ cz_0 : Nat, ∃ m' : Mem, v = .tuple #[.slice Az_0 r.1.length cz_0, .int .i64 r.2] ∧ St w noF m m' [rowI rU8 5 Az_0 cz_0 r.1] w' := by
  unfold table_EncodeAttrs at hf
  have H := St.start0 hm
  refine callsR Try.func19 (by kernel_rfl) (by kernel_rfl) ?_
  refine seg 12 [.op [1, 0, 0] 4, .co [1, 0, 1], .co [1, 1]] [(0, .slice A0_0 l_.length c0_0), (9, .bool (decide ((l_.length : Int) > 64)))] (by kernel_rfl) ?_
  rcases condT hf with ⟨hb3, hf⟩ | ⟨hb3, hf⟩
  · rw [hb3]
    have p3 := of_decide_eq_true hb3
    refine seg 11 [.co [1, 0, 1, 0, 1], .co [1, 1]] [(2, .slice none 0 0), (3, .int .i64 1)] (by kernel_rfl) ?_
    have H := H.nilR rU8 5
    refine retR [2, 3] [.slice none 0 0, .int .i64 1] (by kernel_rfl) (by kernel_rfl) (by kernel_rfl) ?_
    obtain rfl : ([], 1) = r := (Option.some.inj hf)
    exact ⟨_, rfl, none, 0, m, rfl, H⟩
  · rw [hb3]
    have p3 := of_decide_eq_false hb3
    refine seg 1 [.op [1, 0, 0] 5, .co [1, 0, 1], .co [1, 1]] [(0, .slice A0_0 l_.length c0_0), (9, .bool false), (10, .slice A0_0 l_.length c0_0)] (by kernel_rfl) ?_
    obtain ⟨right, h_right, hf⟩ := bindE hf
    refine st (callR (some 11) 41 #[.slice A0_0 l_.length c0_0] Try.call41 (table_right_c H.has l_ A0_0 c0_0 s0_0 h_right) (by kernel_rfl) ?_)
    rintro _ w4 ⟨rfl, hx4⟩
    replace H := H.ex hx4
    refine seg 3 [.co [1, 0, 1], .co [1, 1]] [(0, .slice A0_0 l_.length c0_0), (13, .bool (!right))] (by kernel_rfl) ?_
    rcases condT hf with ⟨hb6, hf⟩ | ⟨hb6, hf⟩
    · rw [hb6]
      refine seg 7 [.op [1, 1, 0] 3, .co [1, 1, 1]] [(0, .slice A0_0 l_.length c0_0), (17, .int .u64 (IntKind.u64.wrap (l_.length : Int)))] (by kernel_rfl) ?_
      rw [q64_wrap (l_.length : Int)]
      obtain ⟨put, h_put, hf⟩ := bindE hf
      refine st (callR (some 18) 42 #[.slice none 0 0, .int .u64 ((UInt64.ofInt (l_.length : Int)).toNat : Int), .int .i64 2] Try.call42 (field_Put_c H.has [] none 0 (SlI.nil _ _) (UInt64.ofInt (l_.length : Int)) 2 h_put) (by kernel_rfl) ?_)
      rintro _ w7 ⟨A7_0, c7_0, mk7, rfl, hS7⟩
      have hsub7 := hS7.sub
      replace H := H.call0 hS7
      refine seg 10 [.op [1, 1, 1, 0] 2, .co [1, 1, 1, 1]] [(21, .slice A7_0 put.1.length c7_0), (22, .slice A0_0 l_.length c0_0)] (by kernel_rfl) ?_
      obtain ⟨attr, h_attr, hf⟩ := bindE hf
      refine st (callR (some 23) 43 #[.slice A0_0 l_.length c0_0, .func (.func 44) #[] #[]] Try.call43 (table_write1_c H.has l_ A0_0 c0_0 (s0_0.mono hsub7) h_attr) (by kernel_rfl) ?_)
      rintro _ w9 ⟨A9_0, c9_0, mk9, rfl, hS9⟩
      have hsub9 := hS9.sub
      replace H := H.call0 hS9
      replace H : St w noF m mk9 [rowI rU8 5 A9_0 c9_0 attr, rowI rU8 5 A7_0 c7_0 put.1] w9 := H
      obtain ⟨xs10, hr10, hx10⟩ := H.rowCs' 0 rfl
      obtain ⟨b, h_b, hf⟩ := bindE hf
      refine st (appS (r := rU8) (some 24) 29 5 1 (.int .u8 0) 29 1 A7_0 A9_0 c7_0 attr.length c9_0 put.1 attr b _ H rfl ⟨Try.underlying29, by kernel_rfl⟩ rfl (by decide) (by kernel_rfl) hx10 hr10 rfl h_b (by decide) (by decide) ?_)
      intro A11 c11 w11 H
      refine seg 3 [.co [1, 1, 1, 1]] [(2, .slice A11 b.length c11), (3, .int .i64 0)] (by kernel_rfl) ?_
      refine retR [2, 3] [.slice A11 b.length c11, .int .i64 0] (by kernel_rfl) (by kernel_rfl) (by kernel_rfl) ?_
      obtain rfl : (b, 0) = r := (Option.some.inj hf)
      exact ⟨_, rfl, A11, c11, mk9, rfl, (St.takeN 1 (H.pull 1 rfl))⟩
    · rw [hb6]
      refine seg 6 [.co [1, 0, 1, 0, 1], .co [1, 1]] [(2, .slice none 0 0), (3, .int .i64 1)] (by kernel_rfl) ?_
      have H := H.nilR rU8 5
      refine retR [2, 3] [.slice none 0 0, .int .i64 1] (by kernel_rfl) (by kernel_rfl) (by kernel_rfl) ?_
      obtain rfl : ([], 1) = r := (Option.some.inj hf)
      exact ⟨_, rfl, none, 0, m, rfl, H⟩
theorem law17_num_c {m : Mem} {w : World} (hm : Has m w) (e_ : Int) :
    Calls Try.prog 15 #[.int .i64 e_] w fun e w' => ∃ v, e = .returned v ∧ v = .int .i64 (law17_num e_) ∧ Ex w w' := by
  generalize hf : law17_num e_ = r
  unfold law17_num at hf
  have H := St.start0 hm
  refine callsR Try.func15 (by kernel_rfl) (by kernel_rfl) ?_
  refine seg 9 [.co [1, 1]] [(2, .int .i64 e_)] (by kernel_rfl) ?_
  refine retR [2] [.int .i64 e_] (by kernel_rfl) (by kernel_rfl) (by kernel_rfl) ?_
  have hret := hf
  subst hret
  exact ⟨_, rfl, rfl, H.scalar⟩
theorem table_Ids_c {m : Mem} {w : World} (hm : Has m w) (l_ : (List Int)) (A0_0 : Option Addr) (c0_0 : Nat) (s0_0 : SlI rI64 m A0_0 c0_0 l_) {r : (List Int)} (hf : table_Ids l_ = some r) :
    Calls Try.prog 9 #[.slice A0_0 l_.length c0_0] w fun e w' => ∃ v, e = .returned v ∧ ∃ Az_0 : Option Addr, ∃ cz_0 : Nat, ∃ m' : Mem, v = .slice Az_0 r.length cz_0 ∧ St w noF m m' [rowI rI64 3 Az_0 cz_0 r] w' := by
  unfold table_Ids at hf
  have H := St.start0 hm
  refine callsR Try.func9 (by kernel_rfl) (by kernel_rfl) ?_
  refine seg 6 [.op [1, 0] 0, .co [1, 1]] [(0, .slice A0_0 l_.length c0_0)] (by kernel_rfl) ?_
  refine st (mkmS kI64 fvI64 (some 7) 64 H (by kernel_rfl) ?_)
  intro g1 w1 H
  refine seg 13 [.co [1, 1, 1, 0, 1], .co [1, 1, 1, 1]] [(3, .map (some g1)), (4, .slice none 0 0), (8, .slice A0_0 l_.length c0_0), (9, .int .i64 (l_.length : Int)), (10, .int .i64 0)] (by kernel_rfl) ?_
  obtain ⟨y63, hp63, hf⟩ := bindE hf
  refine joinR 0 (fun (x : (List Int) × Option Addr × Nat) => [(4, .slice (x.2.1) x.1.length (x.2.2))]) (fun (x : (List Int) × Option Addr × Nat) (wj63 : World) => y63 = x.1 ∧ St w noF m m [rowI rI64 3 (x.2.1) (x.2.2) x.1] wj63) (by kernel_rfl) ?_ ?_
  · refine seg 1 [.co [1, 1, 1, 0, 1, 0], .bl 0, .le 0, .co [1, 1, 1, 1]] [(3, .map (some g1)), (4, .slice none 0 0), (8, .slice A0_0 l_.length c0_0), (9, .int .i64 (l_.length : Int)), (10, .int .i64 0)] (by kernel_rfl) ?_
    have H := H.nilR rI64 3
    obtain ⟨nn82, hR82⟩ := loopO_iff.1 hp63
    refine loopR 1 (fun (x : Nat × (List (Int × Int)) × (List Int) × Nat × Option Addr × Nat) => [(3, .map (some g1)), (4, .slice (x.2.2.2.2.1) x.2.2.1.length (x.2.2.2.2.2)), (8, .slice A0_0 l_.length c0_0), (9, .int .i64 (l_.length : Int)), (10, .int .i64 (x.2.2.2.1 : Int))]) (fun (x : Nat × (List (Int × Int)) × (List Int) × Nat × Option Addr × Nat) (wl82 : World) => iter (fun s => table_Ids_l1 l_ s.1 s.2.1 s.2.2) x.1 (x.2.1, x.2.2.1, x.2.2.2.1) = some y63 ∧ St w noF m m [mapI kI64 fvI64 g1 x.2.1, rowI rI64 3 (x.2.2.2.2.1) (x.2.2.2.2.2) x.2.2.1] wl82) (fun (x : Nat × (List (Int × Int)) × (List Int) × Nat × Option Addr × Nat) => x.1) (nn82, ([] : List (Int × Int)), [], 0, none, 0) (by kernel_rfl) (by kernel_rfl) (by kernel_rfl) ?_ ?_
    · exact ⟨hR82, (H.pull 1 rfl)⟩
    rintro ⟨n82, seen, out, t, A_1_83, c_2_83⟩ wl82 ⟨hR82, H⟩
    try dsimp only at hR82
    try dsimp only at H
    obtain ⟨nk82, q82, rfl, hb_82, hnx82, hfin82⟩ := iterE hR82
    replace hb_82 : table_Ids_l1 l_ seen out t = some q82 := hb_82
    unfold table_Ids_l1 at hb_82
    refine seg 5 [.co [1, 1, 1, 0, 1, 0, 0, 1, 0], .co [1, 1, 1, 0, 1, 0, 0, 1, 1], .le 1, .bl 0, .le 0, .co [1, 1, 1, 1]] [(3, .map (some g1)), (4, .slice A_1_83 out.length c_2_83), (8, .slice A0_0 l_.length c0_0), (9, .int .i64 (l_.length : Int)), (10, .int .i64 (t : Int)), (11, .bool (decide ((t : Int) < (l_.length : Int))))] (by kernel_rfl) ?_
    rcases condT hb_82 with ⟨hb84, hb_82⟩ | ⟨hb84, hb_82⟩
    · rw [hb84]
      have p84 := of_decide_eq_true hb84
      refine seg 6 [.op [1, 1, 1, 0, 1, 0, 0, 1, 1, 0, 0, 0] 0, .co [1, 1, 1, 0, 1, 0, 0, 1, 1, 0, 0, 1], .bl 1, .co [1, 1, 1, 0, 1, 0, 0, 1, 1, 1], .le 1, .bl 0, .le 0, .co [1, 1, 1, 1]] [(3, .map (some g1)), (4, .slice A_1_83 out.length c_2_83), (8, .slice A0_0 l_.length c0_0), (9, .int .i64 (l_.length : Int)), (10, .int .i64 (t : Int))] (by kernel_rfl) ?_
      obtain ⟨x_, h_x_, hb_82⟩ := bindE hb_82
      obtain ⟨ad86, _, ea86, rfl, hc86⟩ := s0_0.at_ h_x_ (by decide)
      refine st (idxS (some 12) 22 3 1 A0_0 ad86 l_.length c0_0 .i64 (t : Int) ea86 (by kernel_rfl) (by kernel_rfl) (by omega) (by have := (List.getElem?_eq_some_iff.1 h_x_).1; omega) ?_)
      refine st (ldR (some 13) 3 (ad86.add (t * 1)) (.int .i64 x_) (by kernel_rfl) (by kernel_rfl) (H.cellI (mc0 (hc86 0 _ rfl))) ?_)
      refine seg 6 [.op [1, 1, 1, 0, 1, 0, 0, 1, 1, 0, 0, 1, 0] 2, .co [1, 1, 1, 0, 1, 0, 0, 1, 1, 0, 0, 1, 1], .bl 1, .co [1, 1, 1, 0, 1, 0, 0, 1, 1, 1], .le 1, .bl 0, .le 0, .co [1, 1, 1, 1]] [(3, .map (some g1)), (4, .slice A_1_83 out.length c_2_83), (6, .int .i64 x_), (8, .slice A0_0 l_.length c0_0), (9, .int .i64 (l_.length : Int)), (10, .int .i64 (t : Int)), (14, .map (some g1)), (15, .int .i64 x_)] (by kernel_rfl) ?_
      refine st (lookS (some 16) 64 3 3 0 g1 false x_ 0 seen H rfl (by kernel_rfl) (by kernel_rfl) (by kernel_rfl) (fun _ => by kernel_rfl) ?_)
      refine seg 1 [.op [1, 1, 1, 0, 1, 0, 0, 1, 1, 0, 0, 1, 0] 4, .co [1, 1, 1, 0, 1, 0, 0, 1, 1, 0, 0, 1, 1], .bl 1, .co [1, 1, 1, 0, 1, 0, 0, 1, 1, 1], .le 1, .bl 0, .le 0, .co [1, 1, 1, 1]] [(3, .map (some g1)), (4, .slice A_1_83 out.length c_2_83), (6, .int .i64 x_), (8, .slice A0_0 l_.length c0_0), (9, .int .i64 (l_.length : Int)), (10, .int .i64 (t : Int)), (14, .map (some g1)), (15, .int .i64 x_), (17, .int .i64 (IntKind.i64.wrap (((mget seen x_).getD 0) + 1)))] (by kernel_rfl) ?_
      refine st (mputS none 64 3 3 0 g1 x_ (IntKind.i64.wrap (((mget seen x_).getD 0) + 1)) seen H rfl (by kernel_rfl) (by kernel_rfl) (by kernel_rfl) ?_)
      intro w87 H
      refine seg 5 [.op [1, 1, 1, 0, 1, 0, 0, 1, 1, 0, 0, 1, 1, 0] 2, .co [1, 1, 1, 0, 1, 0, 0, 1, 1, 0, 0, 1, 1, 1], .bl 1, .co [1, 1, 1, 0, 1, 0, 0, 1, 1, 1], .le 1, .bl 0, .le 0, .co [1, 1, 1, 1]] [(3, .map (some g1)), (4, .slice A_1_83 out.length c_2_83), (6, .int .i64 x_), (8, .slice A0_0 l_.length c0_0), (9, .int .i64 (l_.length : Int)), (10, .int .i64 (t : Int)), (18, .map (some g1)), (19, .int .i64 x_)] (by kernel_rfl) ?_
      refine st (lookS (some 20) 64 3 3 0 g1 false x_ 0 (mput seen x_ (IntKind.i64.wrap (((mget seen x_).getD 0) + 1))) H rfl (by kernel_rfl) (by kernel_rfl) (by kernel_rfl) (fun _ => by kernel_rfl) ?_)
      refine seg 2 [.co [1, 1, 1, 0, 1, 0, 0, 1, 1, 0, 0, 1, 1, 1], .bl 1, .co [1, 1, 1, 0, 1, 0, 0, 1, 1, 1], .le 1, .bl 0, .le 0, .co [1, 1, 1, 1]] [(3, .map (some g1)), (4, .slice A_1_83 out.length c_2_83), (6, .int .i64 x_), (8, .slice A0_0 l_.length c0_0), (9, .int .i64 (l_.length : Int)), (10, .int .i64 (t : Int)), (21, .bool (((mget (mput seen x_ (IntKind.i64.wrap (((mget seen x_).getD 0) + 1))) x_).getD 0) == 1))] (by kernel_rfl) ?_
      rcases condT hb_82 with ⟨hb88, hb_82⟩ | ⟨hb88, hb_82⟩
      · rw [hb88]
        refine seg 4 [.op [1, 1, 1, 0, 1, 0, 0, 1, 1, 0, 0, 1, 1, 1, 0] 2, .bl 1, .co [1, 1, 1, 0, 1, 0, 0, 1, 1, 1], .le 1, .bl 0, .le 0, .co [1, 1, 1, 1]] [(3, .map (some g1)), (8, .slice A0_0 l_.length c0_0), (9, .int .i64 (l_.length : Int)), (10, .int .i64 (t : Int)), (22, .slice A_1_83 out.length c_2_83), (23, .int .i64 x_)] (by kernel_rfl) ?_
        refine st (newS (some 24) (fun g => .slice (some ⟨g, 0, none⟩) 1 1) [.int .i64 x_] 3 H (by kernel_rfl) ?_)
        intro g89 w89 H
        replace H : St w noF m m [blkI g89 [.int .i64 x_] 3, mapI kI64 fvI64 g1 (mput seen x_ (IntKind.i64.wrap (((mget seen x_).getD 0) + 1))), rowI rI64 3 A_1_83 c_2_83 out] w89 := H
        obtain ⟨b, h_b, hb_82⟩ := bindE hb_82
        refine st (appS (r := rI64) (some 25) 22 3 8 (.int .i64 0) 22 2 A_1_83 (some ⟨g89, 0, none⟩) c_2_83 1 1 out [x_] b _ H rfl ⟨Try.underlying22, by kernel_rfl⟩ rfl (by decide) (by kernel_rfl) (Cs.of_blk (H.blk 0 rfl)) (Rows.cons (cs := [.int .i64 x_]) rfl Rows.nil) rfl h_b (by decide) (by decide) ?_)
        intro A90 c90 w90 H
        replace H := H.drop 0 rfl
        refine seg 7 [.le 1, .bl 0, .le 0, .co [1, 1, 1, 1]] [(3, .map (some g1)), (4, .slice A90 b.length c90), (8, .slice A0_0 l_.length c0_0), (9, .int .i64 (l_.length : Int)), (10, .int .i64 (IntKind.i64.wrap ((t : Int) + 1)))] (by kernel_rfl) ?_
        have := s0_0.bound
        rw [show IntKind.i64.wrap ((t : Int) + 1) = ((t : Int) + 1) from w64 (by omega)]
        refine leR (nk82, (mput seen x_ (IntKind.i64.wrap (((mget seen x_).getD 0) + 1))), b, (t + 1), A90, c90) (Nat.lt_succ_self _) ⟨hnx82 _ (Option.some.inj hb_82).symm, H⟩ (by kernel_rfl)
      · rw [hb88]
        refine seg 7 [.le 1, .bl 0, .le 0, .co [1, 1, 1, 1]] [(3, .map (some g1)), (4, .slice A_1_83 out.length c_2_83), (8, .slice A0_0 l_.length c0_0), (9, .int .i64 (l_.length : Int)), (10, .int .i64 (IntKind.i64.wrap ((t : Int) + 1)))] (by kernel_rfl) ?_
        have := s0_0.bound
        rw [show IntKind.i64.wrap ((t : Int) + 1) = ((t : Int) + 1) from w64 (by omega)]
        refine leR (nk82, (mput seen x_ (IntKind.i64.wrap (((mget seen x_).getD 0) + 1))), out, (t + 1), A_1_83, c_2_83) (Nat.lt_succ_self _) ⟨hnx82 _ (Option.some.inj hb_82).symm, H⟩ (by kernel_rfl)
    · rw [hb84]
      have p84 := of_decide_eq_false hb84
      refine seg 2 [.le 0, .co [1, 1, 1, 1]] [(4, .slice A_1_83 out.length c_2_83)] (by kernel_rfl) ?_
      refine leR_up (k' := []) (by rfl) ?_
      refine leJ (out, A_1_83, c_2_83) ⟨(hfin82 _ (Option.some.inj hb_82).symm).symm, (St.takeN 1 (H.pull 1 rfl))⟩ (by kernel_rfl)
  rintro ⟨out, A_1_65, c_2_65⟩ wj63 ⟨hy63, H⟩
  try dsimp only at hy63
  try dsimp only at H
  rw [hy63] at hf
  refine seg 3 [.op [1, 1, 1, 1, 0] 1, .co [1, 1, 1, 1, 1]] [(4, .slice A_1_65 out.length c_2_65), (27, .slice A_1_65 out.length c_2_65)] (by kernel_rfl) ?_
  obtain ⟨hc91, hf⟩ := chkE hf
  refine st (sortS lays189 (some 28) 31 0 3 A_1_65 c_2_65 out rfl (of_decide_eq_true hc91) H rfl Try.call31 (by kernel_rfl) ?_)
  intro w92 H
  rw [show out.length = (sortI out).length from (sortI_len _).symm]
  refine seg 6 [.co [1, 1, 1, 1, 1, 1]] [(2, .slice A_1_65 ((sortI out).length) c_2_65)] (by kernel_rfl) ?_
  refine retR [2] [.slice A_1_65 ((sortI out).length) c_2_65] (by kernel_rfl) (by kernel_rfl) (by kernel_rfl) ?_
  obtain rfl : (sortI out) = r := (Option.some.inj hf)
  exact ⟨_, rfl, A_1_65, c_2_65, m, rfl, H⟩
theorem ref17_SameInts_c {m : Mem} {w : World} (hm : Has m w) (a : (List Int)) (A0_0 : Option Addr) (c0_0 : Nat) (s0_0 : SlI rI64 m A0_0 c0_0 a) (b : (List Int)) (A1_0 : Option Addr) (c1_0 : Nat) (s1_0 : SlI rI64 m A1_0 c1_0 b) {r : Bool} (hf : ref17_SameInts a b = some r) :
    Calls Try.prog 10 #[.slice A0_0 a.length c0_0, .slice A1_0 b.length c1_0] w fun e w' => ∃ v, e = .returned v ∧ v = .bool r ∧ Ex w w' := by
  unfold ref17_SameInts at hf
  have H := St.start0 hm
  refine callsR Try.func10 (by kernel_rfl) (by kernel_rfl) ?_
  refine seg 13 [.co [1, 0, 1], .co [1, 1]] [(0, .slice A0_0 a.length c0_0), (1, .slice A1_0 b.length c1_0), (10, .bool ((a.length : Int) != (b.length : Int)))] (by kernel_rfl) ?_
  rcases condT hf with ⟨hb2, hf⟩ | ⟨hb2, hf⟩
  · rw [hb2]
    refine seg 5 [.co [1, 0, 1, 0, 1], .co [1, 1]] [(4, .bool false)] (by kernel_rfl) ?_
    refine retR [4] [.bool false] (by kernel_rfl) (by kernel_rfl) (by kernel_rfl) ?_
    have hret := (Option.some.inj hf)
    subst hret
    exact ⟨_, rfl, rfl, H.scalar⟩
  · rw [hb2]
    refine seg 7 [.co [1, 1, 0, 1], .co [1, 1, 1]] [(0, .slice A0_0 a.length c0_0), (1, .slice A1_0 b.length c1_0), (5, .int .i64 0)] (by kernel_rfl) ?_
    obtain ⟨y61, hp61, hfl61, hfr61⟩ := bndE hf
    refine joinR 0 (fun (x : Unit) => []) (fun (x : Unit) (wj61 : World) => y61 = .inl () ∧ St w noF m m [] wj61) (by kernel_rfl) ?_ ?_
    · refine seg 1 [.co [1, 1, 0, 1, 0], .bl 0, .le 0, .co [1, 1, 1]] [(0, .slice A0_0 a.length c0_0), (1, .slice A1_0 b.length c1_0), (5, .int .i64 0)] (by kernel_rfl) ?_
      obtain ⟨nn78, hR78⟩ := loopO_iff.1 hp61
      refine loopR 1 (fun (x : Nat × Nat) => [(0, .slice A0_0 a.length c0_0), (1, .slice A1_0 b.length c1_0), (5, .int .i64 (x.2 : Int))]) (fun (x : Nat × Nat) (wl78 : World) => iter (fun s => ref17_SameInts_l1 a b s) x.1 x.2 = some y61 ∧ St w noF m m [] wl78) (fun (x : Nat × Nat) => x.1) (nn78, 0) (by kernel_rfl) (by kernel_rfl) (by kernel_rfl) ?_ ?_
      · exact ⟨hR78, H⟩
      rintro ⟨n78, i⟩ wl78 ⟨hR78, H⟩
      try dsimp only at hR78
      try dsimp only at H
      obtain ⟨nk78, q78, rfl, hb_78, hnx78, hfin78⟩ := iterE hR78
      replace hb_78 : ref17_SameInts_l1 a b i = some q78 := hb_78
      unfold ref17_SameInts_l1 at hb_78
      refine seg 8 [.co [1, 1, 0, 1, 0, 0, 0, 1], .co [1, 1, 0, 1, 0, 0, 1], .le 1, .bl 0, .le 0, .co [1, 1, 1]] [(0, .slice A0_0 a.length c0_0), (1, .slice A1_0 b.length c1_0), (5, .int .i64 (i : Int)), (14, .bool (decide ((i : Int) < (a.length : Int))))] (by kernel_rfl) ?_
      rcases condT hb_78 with ⟨hb80, hb_78⟩ | ⟨hb80, hb_78⟩
      · rw [hb80]
        have p80 := of_decide_eq_true hb80
        refine seg 5 [.co [1, 1, 0, 1, 0, 0, 1, 0, 0, 0], .co [1, 1, 0, 1, 0, 0, 1, 0, 0, 1], .bl 1, .co [1, 1, 0, 1, 0, 0, 1, 1], .le 1, .bl 0, .le 0, .co [1, 1, 1]] [(0, .slice A0_0 a.length c0_0), (1, .slice A1_0 b.length c1_0), (5, .int .i64 (i : Int))] (by kernel_rfl) ?_
        obtain ⟨x_, h_x_, hb_78⟩ := bindE hb_78
        obtain ⟨x_1, h_x_1, hb_78⟩ := bindE hb_78
        have hst : statB (bodyOf Try.f10) [1, 1, 0, 1, 0, 0, 1, 0, 0, 0] = true := by kernel_rfl
        refine drawS (Has m) H (by kernel_rfl) (by kernel_rfl) ?_
        intro w85 H
        refine segD2 hst [0, 1, 4, 5] [0, 1, 4, 5] [(0, .slice A0_0 a.length c0_0), (1, .slice A1_0 b.length c1_0), (5, .int .i64 (i : Int)), (17, .slice A0_0 a.length c0_0), (18, .int .i64 (i : Int)), (21, .slice A1_0 b.length c1_0), (22, .int .i64 (i : Int))] (by kernel_rfl) ?_
        obtain ⟨ad86, _, ea86, rfl, hc86⟩ := s0_0.at_ h_x_ (by decide)
        refine takeD2 (i := 2) (d := (some 19)) (s := vS (Instr.indexAt 22 (.slice A0_0 a.length c0_0) (.int .i64 (i : Int)))) (v := .pointer (some (ad86.add (i * 1)))) hst (by kernel_rfl) (by kernel_rfl) (fun w' hw' => idx_run 22 3 1 _ ad86 _ _ _ _ _ ea86 (by kernel_rfl) (by omega) (by have := (List.getElem?_eq_some_iff.1 h_x_).1; omega) rfl) ?_
        refine takeD2 (i := 3) (d := (some 20)) (s := vS (Instr.loadAt 3 (.pointer (some (ad86.add (i * 1)))))) (v := (.int .i64 x_)) hst (by kernel_rfl) (by kernel_rfl) (fun w' hw' => ld_run _ _ _ (by kernel_rfl) (hw'.cell (mc0 (hc86 0 _ rfl)))) ?_
        obtain ⟨ad87, _, ea87, rfl, hc87⟩ := s1_0.at_ h_x_1 (by decide)
        refine stD2 (i := 6) (by kernel_rfl) H.has (idxS (some 23) 22 3 1 A1_0 ad87 b.length c1_0 .i64 (i : Int) ea87 (by kernel_rfl) (by kernel_rfl) (by omega) (by have := (List.getElem?_eq_some_iff.1 h_x_1).1; omega) ?_)
        refine stD2 (i := 7) (by kernel_rfl) H.has (ldR (some 24) 3 (ad87.add (i * 1)) (.int .i64 x_1) (by kernel_rfl) (by kernel_rfl) (H.cellI (mc0 (hc87 0 _ rfl))) ?_)
        refine segD2 hst [8] [0, 1, 4, 5, 2, 3, 6, 7, 8] [(0, .slice A0_0 a.length c0_0), (1, .slice A1_0 b.length c1_0), (5, .int .i64 (i : Int)), (25, .bool (x_ != x_1))] (by kernel_rfl) ?_
        refine endD2 (by kernel_rfl) H.has ?_
        rcases condT hb_78 with ⟨hb88, hb_78⟩ | ⟨hb88, hb_78⟩
        · rw [hb88]
          refine seg 5 [.co [1, 1, 0, 1, 0, 0, 1, 0, 0, 1, 0, 1], .bl 1, .co [1, 1, 0, 1, 0, 0, 1, 1], .le 1, .bl 0, .le 0, .co [1, 1, 1]] [(4, .bool false)] (by kernel_rfl) ?_
          refine retR [4] [.bool false] (by kernel_rfl) (by kernel_rfl) (by kernel_rfl) ?_
          have hret := (hfr61 _ (hfin78 _ (Option.some.inj hb_78).symm).symm)
          subst hret
          exact ⟨_, rfl, rfl, H.scalar⟩
        · rw [hb88]
          refine seg 8 [.le 1, .bl 0, .le 0, .co [1, 1, 1]] [(0, .slice A0_0 a.length c0_0), (1, .slice A1_0 b.length c1_0), (5, .int .i64 (IntKind.i64.wrap ((i : Int) + 1)))] (by kernel_rfl) ?_
          have := s0_0.bound
          rw [show IntKind.i64.wrap ((i : Int) + 1) = ((i : Int) + 1) from w64 (by omega)]
          refine leR (nk78, (i + 1)) (Nat.lt_succ_self _) ⟨hnx78 _ (Option.some.inj hb_78).symm, H⟩ (by kernel_rfl)
      · rw [hb80]
        have p80 := of_decide_eq_false hb80
        refine seg 2 [.le 0, .co [1, 1, 1]] [] (by kernel_rfl) ?_
        refine leR_up (k' := []) (by rfl) ?_
        refine leJ () ⟨(hfin78 _ (Option.some.inj hb_78).symm).symm, H⟩ (by kernel_rfl)
    rintro _ wj61 ⟨hy61, H⟩
    have hf := hfl61 _ hy61
    try dsimp only at hf
    refine seg 4 [.co [1, 1, 1, 1]] [(4, .bool true)] (by kernel_rfl) ?_
    refine retR [4] [.bool true] (by kernel_rfl) (by kernel_rfl) (by kernel_rfl) ?_
    have hret := (Option.some.inj hf)
    subst hret
    exact ⟨_, rfl, rfl, H.scalar⟩
theorem law17_live_c {m : Mem} {w : World} (hm : Has m w) {r : Bool} (hf : law17_live = some r) :
    Calls Try.prog 8 #[] w fun e w' => ∃ v, e = .returned v ∧ v = .bool r ∧ Ex w w' := by
  unfold law17_live at hf
  have H := St.start0 hm
  refine callsR Try.func8 (by kernel_rfl) (by kernel_rfl) ?_
  refine seg 6 [.op [1, 0] 0, .co [1, 1]] [] (by kernel_rfl) ?_
  refine st (newS (some 4) (fun g => .slice (some ⟨g, 0, none⟩) 1 1) [.int .u8 118] 5 H (by kernel_rfl) ?_)
  intro g1 w1 H
  refine st (litcS (some 5) 29 5 0 g1 ([(118 : UInt8)] : List UInt8) H rfl (by kernel_rfl) Try.underlying29 Try.underlying5 (by decide) ?_)
  intro mc2 w2 hsub2 hs2 H
  refine seg 1 [.op [1, 0] 3, .co [1, 1]] [(6, .agg #[.string ⟨([107] : List UInt8).toArray⟩, .slice (some ⟨g1, 0, none⟩) 1 1])] (by kernel_rfl) ?_
  refine st (newS (some 7) (fun g => .slice (some ⟨g, 0, none⟩) 1 1) [.string ⟨([107] : List UInt8).toArray⟩, .slice (some ⟨g1, 0, none⟩) 1 1] 43 H (by kernel_rfl) ?_)
  intro g3 w3 H
  have H := H.toRow (r := rApiAttr) (l := [({ Name := ([107] : List UInt8), Value := ([(118 : UInt8)] : List UInt8) } : TApiAttr)]) 0 rfl (Rows.cons (cs := [.string ⟨([107] : List UInt8).toArray⟩, .slice (some ⟨g1, 0, none⟩) 1 1]) ⟨(some ⟨g1, 0, none⟩), 1, rfl, (Nat.le_of_ble_eq_true rfl), hs2⟩ Rows.nil) (Nat.le_of_ble_eq_true rfl)
  have H0_4 := H
  obtain ⟨mf5, hsub5, hsf5, H⟩ := H.fixR 0 rfl
  obtain ⟨encode, h_encode, hf⟩ := bindE hf
  refine st (callR (some 8) 19 #[.slice (some ⟨g3, 0, none⟩) 1 1] Try.call19 (table_EncodeAttrs_c H.has [({ Name := ([107] : List UInt8), Value := ([(118 : UInt8)] : List UInt8) } : TApiAttr)] (some ⟨g3, 0, none⟩) 1 hsf5 h_encode) (by kernel_rfl) ?_)
  rintro _ w6 ⟨A6_0, c6_0, mk6, rfl, hS6⟩
  replace H := H0_4.callB hS6 ⟨rowI_ind (fun _ _ _ _ h => h), trivial⟩
  refine seg 9 [.op [1, 1, 0] 1, .co [1, 1, 1]] [(1, .slice A6_0 encode.1.length c6_0), (11, .int .i64 encode.2)] (by kernel_rfl) ?_
  refine st (callR (some 12) 15 #[.int .i64 encode.2] Try.call15 (law17_num_c H.has encode.2) (by kernel_rfl) ?_)
  rintro _ w22 ⟨rfl, hx22⟩
  replace H := H.ex hx22
  refine seg 2 [.op [1, 1, 0] 4, .co [1, 1, 1]] [(1, .slice A6_0 encode.1.length c6_0), (14, .bool ((law17_num encode.2) == 0))] (by kernel_rfl) ?_
  rcases condT hf with ⟨hb23, hf⟩ | ⟨hb23, hf⟩
  · rw [hb23]
    refine seg 1 [.op [1, 1, 0] 5, .co [1, 1, 1]] [(14, .bool true), (15, .slice A6_0 encode.1.length c6_0)] (by kernel_rfl) ?_
    refine st (b2sS (some 16) 29 9 5 A6_0 c6_0 encode.1 Try.underlying29 Try.underlying5 Try.underlying9 (by kernel_rfl) (H.rowCs 0 rfl) ?_)
    have hl24 : encode.1.length ≤ 9223372036854775807 := (Nat.le_trans (H.rowCap 0 rfl).1 (H.rowCap 0 rfl).2)
    refine seg 3 [.op [1, 1, 0] 9, .co [1, 1, 1]] [(19, .bool ((ByteArray.toList ⟨encode.1.toArray⟩) == (ByteArray.toList ⟨([1, 0, 1, 107, 1, 0, 118] : List UInt8).toArray⟩)))] (by kernel_rfl) ?_
    rw [seq_raw encode.1 ([1, 0, 1, 107, 1, 0, 118] : List UInt8)]
    rcases condT hf with ⟨hb25, hf⟩ | ⟨hb25, hf⟩
    · rw [hb25]
      refine st (newS (some 20) (fun g => .slice (some ⟨g, 0, none⟩) 3 3) [.int .i64 5, .int .i64 0, .int .i64 5] 3 H (by kernel_rfl) ?_)
      intro g26 w26 H
      have H := H.toRow (r := rI64) (l := [5, 0, 5]) 0 rfl (Rows.cons (cs := [.int .i64 5]) rfl (Rows.cons (cs := [.int .i64 0]) rfl (Rows.cons (cs := [.int .i64 5]) rfl Rows.nil))) (Nat.le_of_ble_eq_true rfl)
      have H0_27 := H
      obtain ⟨mf28, hsub28, hsf28, H⟩ := H.fixR 0 rfl
      obtain ⟨ids, h_ids, hf⟩ := bindE hf
      refine st (callR (some 21) 9 #[.slice (some ⟨g26, 0, none⟩) 3 3] Try.call9 (table_Ids_c H.has [5, 0, 5] (some ⟨g26, 0, none⟩) 3 hsf28 h_ids) (by kernel_rfl) ?_)
      rintro _ w29 ⟨A29_0, c29_0, mk29, rfl, hS29⟩
      replace H := H0_27.callB hS29 ⟨rowI_ind (fun _ _ _ _ h => h), trivial⟩
      replace H : St w noF m mc2 [rowI rI64 3 A29_0 c29_0 ids] w29 := (((H.drop 3 rfl).drop 2 rfl).drop 1 rfl)
      refine st (newS (some 22) (fun g => .slice (some ⟨g, 0, none⟩) 2 2) [.int .i64 0, .int .i64 5] 3 H (by kernel_rfl) ?_)
      intro g30 w30 H
      have H := H.toRow (r := rI64) (l := [0, 5]) 0 rfl (Rows.cons (cs := [.int .i64 0]) rfl (Rows.cons (cs := [.int .i64 5]) rfl Rows.nil)) (Nat.le_of_ble_eq_true rfl)
      have H0_31 := H
      obtain ⟨mf33, hsub33, hsf33, H⟩ := H.fixR 1 rfl
      obtain ⟨mf34, hsub34, hsf34, H⟩ := H.fixR 0 rfl
      obtain ⟨sameIn, h_sameIn, hf⟩ := bindE hf
      refine st (callR (some 23) 10 #[.slice A29_0 ids.length c29_0, .slice (some ⟨g30, 0, none⟩) 2 2] Try.call10 (ref17_SameInts_c H.has ids A29_0 c29_0 (hsf33.mono hsub34) [0, 5] (some ⟨g30, 0, none⟩) 2 hsf34 h_sameIn) (by kernel_rfl) ?_)
      rintro _ w35 ⟨rfl, hx35⟩
      replace H := H0_31.ex hx35
      refine seg 3 [.co [1, 1, 1]] [(0, .bool sameIn)] (by kernel_rfl) ?_
      refine retR [0] [.bool sameIn] (by kernel_rfl) (by kernel_rfl) (by kernel_rfl) ?_
      have hret := (Option.some.inj hf)
      subst hret
      exact ⟨_, rfl, rfl, H.scalar⟩
    · rw [hb25]
      refine seg 7 [.co [1, 1, 1]] [(0, .bool false)] (by kernel_rfl) ?_
      refine retR [0] [.bool false] (by kernel_rfl) (by kernel_rfl) (by kernel_rfl) ?_
      have hret := (Option.some.inj hf)
      subst hret
      exact ⟨_, rfl, rfl, H.scalar⟩
  · rw [hb23]
    refine seg 12 [.co [1, 1, 1]] [(0, .bool false)] (by kernel_rfl) ?_
    refine retR [0] [.bool false] (by kernel_rfl) (by kernel_rfl) (by kernel_rfl) ?_
    have hret := (Option.some.inj hf)
    subst hret
    exact ⟨_, rfl, rfl, H.scalar⟩
theorem ref17_Ids_c {m : Mem} {w : World} (hm : Has m w) (l_ : (List Int)) (A0_0 : Option Addr) (c0_0 : Nat) (s0_0 : SlI rI64 m A0_0 c0_0 l_) {r : (List Int)} (hf : ref17_Ids l_ = some r) :
    Calls Try.prog 11 #[.slice A0_0 l_.length c0_0] w fun e w' => ∃ v, e = .returned v ∧ ∃ Az_0 : Option Addr, ∃ cz_0 : Nat, ∃ m' : Mem, v = .slice Az_0 r.length cz_0 ∧ St w noF m m' [rowI rI64 3 Az_0 cz_0 r] w' := by
  unfold ref17_Ids at hf
  have H := St.start0 hm
  refine callsR Try.func11 (by kernel_rfl) (by kernel_rfl) ?_
  refine seg 9 [.co [1, 1, 0], .bl 0] [(0, .slice A0_0 l_.length c0_0), (3, .slice none 0 0)] (by kernel_rfl) ?_
  have H := H.nilR rI64 3
  obtain ⟨nn384, hR384⟩ := loopO_iff.1 hf
  refine loopR 0 (fun (x : Nat × (List Int) × Option Addr × Nat) => [(0, .slice A0_0 l_.length c0_0), (3, .slice (x.2.2.1) x.2.1.length (x.2.2.2))]) (fun (x : Nat × (List Int) × Option Addr × Nat) (wl384 : World) => iter (fun s => ref17_Ids_l1 l_ s) x.1 x.2.1 = some r ∧ St w noF m m [rowI rI64 3 (x.2.2.1) (x.2.2.2) x.2.1] wl384) (fun (x : Nat × (List Int) × Option Addr × Nat) => x.1) (nn384, [], none, 0) (by kernel_rfl) (by kernel_rfl) (by kernel_rfl) ?_ ?_
  · exact ⟨hR384, H⟩
  rintro ⟨n384, out, A_1_385, c_2_385⟩ wl384 ⟨hR384, H⟩
  try dsimp only at hR384
  try dsimp only at H
  obtain ⟨nk384, q384, rfl, hb_384, hnx384, hfin384⟩ := iterE hR384
  replace hb_384 : ref17_Ids_l1 l_ out = some q384 := hb_384
  unfold ref17_Ids_l1 at hb_384
  refine seg 10 [.co [1, 1, 0, 0, 0, 1, 0, 1], .co [1, 1, 0, 0, 0, 1, 1], .bl 1, .le 0, .bl 0] [(0, .slice A0_0 l_.length c0_0), (3, .slice A_1_385 out.length c_2_385), (4, .int .i64 (-1)), (5, .int .i64 0)] (by kernel_rfl) ?_
  obtain ⟨y470, hp470, hb_384⟩ := bindE hb_384
  refine joinR 1 (fun (x : Int) => [(0, .slice A0_0 l_.length c0_0), (3, .slice A_1_385 out.length c_2_385), (4, .int .i64 x)]) (fun (x : Int) (wj470 : World) => y470 = x ∧ St w noF m m [rowI rI64 3 A_1_385 c_2_385 out] wj470) (by kernel_rfl) ?_ ?_
  · refine seg 1 [.co [1, 1, 0, 0, 0, 1, 0, 1, 0], .bl 2, .le 1, .co [1, 1, 0, 0, 0, 1, 1], .bl 1, .le 0, .bl 0] [(0, .slice A0_0 l_.length c0_0), (3, .slice A_1_385 out.length c_2_385), (4, .int .i64 (-1)), (5, .int .i64 0)] (by kernel_rfl) ?_
    obtain ⟨nn522, hR522⟩ := loopO_iff.1 hp470
    refine loopR 2 (fun (x : Nat × Int × Nat) => [(0, .slice A0_0 l_.length c0_0), (3, .slice A_1_385 out.length c_2_385), (4, .int .i64 x.2.1), (5, .int .i64 (x.2.2 : Int))]) (fun (x : Nat × Int × Nat) (wl522 : World) => iter (fun s => ref17_Ids_l2 l_ out s.1 s.2) x.1 (x.2.1, x.2.2) = some y470 ∧ St w noF m m [rowI rI64 3 A_1_385 c_2_385 out] wl522) (fun (x : Nat × Int × Nat) => x.1) (nn522, (-1), 0) (by kernel_rfl) (by kernel_rfl) (by kernel_rfl) ?_ ?_
    · exact ⟨hR522, H⟩
    rintro ⟨n522, best, i⟩ wl522 ⟨hR522, H⟩
    try dsimp only at hR522
    try dsimp only at H
    obtain ⟨nk522, q522, rfl, hb_522, hnx522, hfin522⟩ := iterE hR522
    replace hb_522 : ref17_Ids_l2 l_ out best i = some q522 := hb_522
    unfold ref17_Ids_l2 at hb_522
    refine seg 8 [.co [1, 1, 0, 0, 0, 1, 0, 1, 0, 0, 0, 1], .co [1, 1, 0, 0, 0, 1, 0, 1, 0, 0, 1], .le 2, .bl 2, .le 1, .co [1, 1, 0, 0, 0, 1, 1], .bl 1, .le 0, .bl 0] [(0, .slice A0_0 l_.length c0_0), (3, .slice A_1_385 out.length c_2_385), (4, .int .i64 best), (5, .int .i64 (i : Int)), (9, .bool (decide ((i : Int) < (l_.length : Int))))] (by kernel_rfl) ?_
    rcases condT hb_522 with ⟨hb524, hb_522⟩ | ⟨hb524, hb_522⟩
    · rw [hb524]
      have p524 := of_decide_eq_true hb524
      refine seg 5 [.co [1, 1, 0, 0, 0, 1, 0, 1, 0, 0, 1, 0, 0, 0], .co [1, 1, 0, 0, 0, 1, 0, 1, 0, 0, 1, 0, 0, 1], .bl 3, .co [1, 1, 0, 0, 0, 1, 0, 1, 0, 0, 1, 1], .le 2, .bl 2, .le 1, .co [1, 1, 0, 0, 0, 1, 1], .bl 1, .le 0, .bl 0] [(0, .slice A0_0 l_.length c0_0), (3, .slice A_1_385 out.length c_2_385), (4, .int .i64 best), (5, .int .i64 (i : Int))] (by kernel_rfl) ?_
      rcases condT hb_522 with ⟨hb525, hb_522⟩ | ⟨hb525, hb_522⟩
      · rcases condT hb_522 with ⟨hb526, hb_522⟩ | ⟨hb526, hb_522⟩
        · have p526 := of_decide_eq_true hb526
          have hst : statB (bodyOf Try.f11) [1, 1, 0, 0, 0, 1, 0, 1, 0, 0, 1, 0, 0, 0] = true := by kernel_rfl
          refine drawS (Has m) H (by kernel_rfl) (by kernel_rfl) ?_
          intro w527 H
          refine segD2 hst [0, 1, 2] [0, 1, 2] [(0, .slice A0_0 l_.length c0_0), (3, .slice A_1_385 out.length c_2_385), (4, .int .i64 best), (5, .int .i64 (i : Int)), (14, .bool ((out.length : Int) == 0))] (by kernel_rfl) ?_
          rw [show ((out.length : Int) == 0) = true from hb525]
          refine segD2 hst [3, 4, 5, 6, 7, 8, 9, 10, 11, 12, 13, 14, 15, 16, 17, 18] [0, 1, 2, 3, 4, 5, 6, 7, 8, 9, 10, 11, 12, 13, 14, 15, 16, 17, 18] [(0, .slice A0_0 l_.length c0_0), (3, .slice A_1_385 out.length c_2_385), (4, .int .i64 best), (5, .int .i64 (i : Int)), (28, .bool true), (30, .bool (decide (best < 0)))] (by kernel_rfl) ?_
          rw [show (decide (best < 0)) = true from hb526]
          refine segD2 hst [19, 20, 21, 22, 23, 24, 25, 26, 27, 28, 29, 30] [0, 1, 2, 3, 4, 5, 6, 7, 8, 9, 10, 11, 12, 13, 14, 15, 16, 17, 18, 19, 20, 21, 22, 23, 24, 25, 26, 27, 28, 29, 30] [(0, .slice A0_0 l_.length c0_0), (3, .slice A_1_385 out.length c_2_385), (4, .int .i64 best), (5, .int .i64 (i : Int)), (42, .bool true)] (by kernel_rfl) ?_
          refine endD2 (by kernel_rfl) H.has ?_
          refine seg 11 [.le 2, .bl 2, .le 1, .co [1, 1, 0, 0, 0, 1, 1], .bl 1, .le 0, .bl 0] [(0, .slice A0_0 l_.length c0_0), (3, .slice A_1_385 out.length c_2_385), (4, .int .i64 (i : Int)), (5, .int .i64 (IntKind.i64.wrap ((i : Int) + 1)))] (by kernel_rfl) ?_
          have := s0_0.bound
          rw [show IntKind.i64.wrap ((i : Int) + 1) = ((i : Int) + 1) from w64 (by omega)]
          refine leR (nk522, (i : Int), (i + 1)) (Nat.lt_succ_self _) ⟨hnx522 _ (Option.some.inj hb_522).symm, H⟩ (by kernel_rfl)
        · have p526 := of_decide_eq_false hb526
          obtain ⟨x_, h_x_, hb_522⟩ := bindE hb_522
          obtain ⟨x_1, h_x_1, hb_522⟩ := bindE hb_522
          obtain ⟨i0530, i1530, ix530⟩ := idx_some h_x_1
          have hst : statB (bodyOf Try.f11) [1, 1, 0, 0, 0, 1, 0, 1, 0, 0, 1, 0, 0, 0] = true := by kernel_rfl
          refine drawS (Has m) H (by kernel_rfl) (by kernel_rfl) ?_
          intro w532 H
          refine segD2 hst [0, 1, 2] [0, 1, 2] [(0, .slice A0_0 l_.length c0_0), (3, .slice A_1_385 out.length c_2_385), (4, .int .i64 best), (5, .int .i64 (i : Int)), (14, .bool ((out.length : Int) == 0))] (by kernel_rfl) ?_
          rw [show ((out.length : Int) == 0) = true from hb525]
          refine segD2 hst [3, 4, 5, 6, 7, 8, 9, 10, 11, 12, 13, 14, 15, 16, 17, 18] [0, 1, 2, 3, 4, 5, 6, 7, 8, 9, 10, 11, 12, 13, 14, 15, 16, 17, 18] [(0, .slice A0_0 l_.length c0_0), (3, .slice A_1_385 out.length c_2_385), (4, .int .i64 best), (5, .int .i64 (i : Int)), (28, .bool true), (30, .bool (decide (best < 0)))] (by kernel_rfl) ?_
          rw [show (decide (best < 0)) = false from hb526]
          refine segD2 hst [19, 20, 21, 24, 25] [0, 1, 2, 3, 4, 5, 6, 7, 8, 9, 10, 11, 12, 13, 14, 15, 16, 17, 18, 19, 20, 21, 24, 25] [(0, .slice A0_0 l_.length c0_0), (3, .slice A_1_385 out.length c_2_385), (4, .int .i64 best), (5, .int .i64 (i : Int)), (28, .bool true), (31, .bool false), (32, .slice A0_0 l_.length c0_0), (33, .int .i64 (i : Int)), (36, .slice A0_0 l_.length c0_0), (37, .int .i64 best)] (by kernel_rfl) ?_
          obtain ⟨ad533, _, ea533, rfl, hc533⟩ := s0_0.at_ h_x_ (by decide)
          refine takeD2 (i := 22) (d := (some 34)) (s := vS (Instr.indexAt 22 (.slice A0_0 l_.length c0_0) (.int .i64 (i : Int)))) (v := .pointer (some (ad533.add (i * 1)))) hst (by kernel_rfl) (by kernel_rfl) (fun w' hw' => idx_run 22 3 1 _ ad533 _ _ _ _ _ ea533 (by kernel_rfl) (by omega) (by have := (List.getElem?_eq_some_iff.1 h_x_).1; omega) rfl) ?_
          refine takeD2 (i := 23) (d := (some 35)) (s := vS (Instr.loadAt 3 (.pointer (some (ad533.add (i * 1)))))) (v := (.int .i64 x_)) hst (by kernel_rfl) (by kernel_rfl) (fun w' hw' => ld_run _ _ _ (by kernel_rfl) (hw'.cell (mc0 (hc533 0 _ rfl)))) ?_
          replace H : St w noF m m [rowI rI64 3 A_1_385 c_2_385 out] w532 := H
          obtain ⟨ad534, _, ea534, rfl, hc534⟩ := s0_0.at_ ix530 (by decide)
          refine stD2 (i := 26) (by kernel_rfl) H.has (idxS (some 38) 22 3 1 A0_0 ad534 l_.length c0_0 .i64 best ea534 (by kernel_rfl) (by kernel_rfl) i0530 i1530 ?_)
          refine stD2 (i := 27) (by kernel_rfl) H.has (ldR (some 39) 3 (ad534.add (best.toNat * 1)) (.int .i64 x_1) (by kernel_rfl) (by kernel_rfl) (H.cellI (mc0 (hc534 0 _ rfl))) ?_)
          refine segD2 hst [28] [0, 1, 2, 3, 4, 5, 6, 7, 8, 9, 10, 11, 12, 13, 14, 15, 16, 17, 18, 19, 20, 21, 24, 25, 22, 23, 26, 27, 28] [(0, .slice A0_0 l_.length c0_0), (3, .slice A_1_385 out.length c_2_385), (4, .int .i64 best), (5, .int .i64 (i : Int)), (28, .bool true), (31, .bool false), (40, .bool (decide (x_ < x_1)))] (by kernel_rfl) ?_
          refine segD2 hst [29] [0, 1, 2, 3, 4, 5, 6, 7, 8, 9, 10, 11, 12, 13, 14, 15, 16, 17, 18, 19, 20, 21, 24, 25, 22, 23, 26, 27, 28, 29] [(0, .slice A0_0 l_.length c0_0), (3, .slice A_1_385 out.length c_2_385), (4, .int .i64 best), (5, .int .i64 (i : Int)), (28, .bool true), (41, .bool (decide (x_ < x_1)))] (by kernel_rfl) ?_
          refine segD2 hst [30] [0, 1, 2, 3, 4, 5, 6, 7, 8, 9, 10, 11, 12, 13, 14, 15, 16, 17, 18, 19, 20, 21, 24, 25, 22, 23, 26, 27, 28, 29, 30] [(0, .slice A0_0 l_.length c0_0), (3, .slice A_1_385 out.length c_2_385), (4, .int .i64 best), (5, .int .i64 (i : Int)), (42, .bool (decide (x_ < x_1)))] (by kernel_rfl) ?_
          refine endD2 (by kernel_rfl) H.has ?_
          rcases condT hb_522 with ⟨hb535, hb_522⟩ | ⟨hb535, hb_522⟩
          · rw [hb535]
            have p535 := of_decide_eq_true hb535
            refine seg 11 [.le 2, .bl 2, .le 1, .co [1, 1, 0, 0, 0, 1, 1], .bl 1, .le 0, .bl 0] [(0, .slice A0_0 l_.length c0_0), (3, .slice A_1_385 out.length c_2_385), (4, .int .i64 (i : Int)), (5, .int .i64 (IntKind.i64.wrap ((i : Int) + 1)))] (by kernel_rfl) ?_
            have := s0_0.bound
            rw [show IntKind.i64.wrap ((i : Int) + 1) = ((i : Int) + 1) from w64 (by omega)]
            refine leR (nk522, (i : Int), (i + 1)) (Nat.lt_succ_self _) ⟨hnx522 _ (Option.some.inj hb_522).symm, H⟩ (by kernel_rfl)
          · rw [hb535]
            have p535 := of_decide_eq_false hb535
            refine seg 8 [.le 2, .bl 2, .le 1, .co [1, 1, 0, 0, 0, 1, 1], .bl 1, .le 0, .bl 0] [(0, .slice A0_0 l_.length c0_0), (3, .slice A_1_385 out.length c_2_385), (4, .int .i64 best), (5, .int .i64 (IntKind.i64.wrap ((i : Int) + 1)))] (by kernel_rfl) ?_
            have := s0_0.bound
            rw [show IntKind.i64.wrap ((i : Int) + 1) = ((i : Int) + 1) from w64 (by omega)]
            refine leR (nk522, best, (i + 1)) (Nat.lt_succ_self _) ⟨hnx522 _ (Option.some.inj hb_522).symm, H⟩ (by kernel_rfl)
      · obtain ⟨x_2, h_x_2, hb_522⟩ := bindE hb_522
        obtain ⟨x_3, h_x_3, hb_522⟩ := bindE hb_522
        obtain ⟨i0538, i1538, ix538⟩ := idx_some h_x_3
        rcases condT hb_522 with ⟨hb540, hb_522⟩ | ⟨hb540, hb_522⟩
        · have p540 := of_decide_eq_true hb540
          obtain ⟨i0543, i1543, ix543⟩ := idx_some h_x_3
          rcases condT hb_522 with ⟨hb545, hb_522⟩ | ⟨hb545, hb_522⟩
          · have p545 := of_decide_eq_true hb545
            obtain ⟨i0548, i1548, ix548⟩ := idx_some h_x_3
            have hst : statB (bodyOf Try.f11) [1, 1, 0, 0, 0, 1, 0, 1, 0, 0, 1, 0, 0, 0] = true := by kernel_rfl
            refine drawS (Has m) H (by kernel_rfl) (by kernel_rfl) ?_
            intro w550 H
            refine segD2 hst [0, 1, 2] [0, 1, 2] [(0, .slice A0_0 l_.length c0_0), (3, .slice A_1_385 out.length c_2_385), (4, .int .i64 best), (5, .int .i64 (i : Int)), (14, .bool ((out.length : Int) == 0))] (by kernel_rfl) ?_
            rw [show ((out.length : Int) == 0) = false from hb525]
            refine segD2 hst [3, 4, 5, 8, 9, 10, 11] [0, 1, 2, 3, 4, 5, 8, 9, 10, 11] [(0, .slice A0_0 l_.length c0_0), (3, .slice A_1_385 out.length c_2_385), (4, .int .i64 best), (5, .int .i64 (i : Int)), (15, .bool false), (16, .slice A0_0 l_.length c0_0), (17, .int .i64 (i : Int)), (20, .slice A_1_385 out.length c_2_385), (23, .int .i64 (IntKind.i64.wrap ((out.length : Int) - 1)))] (by kernel_rfl) ?_
            have := (le63 (H.rowCap 0 rfl))
            rw [show IntKind.i64.wrap ((out.length : Int) - 1) = ((out.length : Int) - 1) from w64 (by omega)]
            obtain ⟨ad551, _, ea551, rfl, hc551⟩ := s0_0.at_ h_x_2 (by decide)
            refine takeD2 (i := 6) (d := (some 18)) (s := vS (Instr.indexAt 22 (.slice A0_0 l_.length c0_0) (.int .i64 (i : Int)))) (v := .pointer (some (ad551.add (i * 1)))) hst (by kernel_rfl) (by kernel_rfl) (fun w' hw' => idx_run 22 3 1 _ ad551 _ _ _ _ _ ea551 (by kernel_rfl) (by omega) (by have := (List.getElem?_eq_some_iff.1 h_x_2).1; omega) rfl) ?_
            refine takeD2 (i := 7) (d := (some 19)) (s := vS (Instr.loadAt 3 (.pointer (some (ad551.add (i * 1)))))) (v := (.int .i64 x_2)) hst (by kernel_rfl) (by kernel_rfl) (fun w' hw' => ld_run _ _ _ (by kernel_rfl) (hw'.cell (mc0 (hc551 0 _ rfl)))) ?_
            obtain ⟨ad552, _, ea552, rfl, hc552⟩ := H.rowAt 0 rfl ix548 (by decide)
            refine stD2 (i := 12) (by kernel_rfl) H.has (idxS (some 24) 22 3 1 A_1_385 ad552 out.length c_2_385 .i64 ((out.length : Int) - 1) ea552 (by kernel_rfl) (by kernel_rfl) i0548 i1548 ?_)
            refine stD2 (i := 13) (by kernel_rfl) H.has (ldR (some 25) 3 (ad552.add (((out.length : Int) - 1).toNat * 1)) (.int .i64 x_3) (by kernel_rfl) (by kernel_rfl) (add0 (hc552 0 _ rfl)) ?_)
            refine segD2 hst [14] [0, 1, 2, 3, 4, 5, 8, 9, 10, 11, 6, 7, 12, 13, 14] [(0, .slice A0_0 l_.length c0_0), (3, .slice A_1_385 out.length c_2_385), (4, .int .i64 best), (5, .int .i64 (i : Int)), (15, .bool false), (26, .bool (decide (x_2 > x_3)))] (by kernel_rfl) ?_
            rw [show (decide (x_2 > x_3)) = true from hb540]
            refine segD2 hst [15, 16, 17, 18] [0, 1, 2, 3, 4, 5, 8, 9, 10, 11, 6, 7, 12, 13, 14, 15, 16, 17, 18] [(0, .slice A0_0 l_.length c0_0), (3, .slice A_1_385 out.length c_2_385), (4, .int .i64 best), (5, .int .i64 (i : Int)), (28, .bool true), (30, .bool (decide (best < 0)))] (by kernel_rfl) ?_
            rw [show (decide (best < 0)) = true from hb545]
            refine segD2 hst [19, 20, 21, 22, 23, 24, 25, 26, 27, 28, 29, 30] [0, 1, 2, 3, 4, 5, 8, 9, 10, 11, 6, 7, 12, 13, 14, 15, 16, 17, 18, 19, 20, 21, 22, 23, 24, 25, 26, 27, 28, 29, 30] [(0, .slice A0_0 l_.length c0_0), (3, .slice A_1_385 out.length c_2_385), (4, .int .i64 best), (5, .int .i64 (i : Int)), (42, .bool true)] (by kernel_rfl) ?_
            refine endD2 (by kernel_rfl) H.has ?_
            refine seg 11 [.le 2, .bl 2, .le 1, .co [1, 1, 0, 0, 0, 1, 1], .bl 1, .le 0, .bl 0] [(0, .slice A0_0 l_.length c0_0), (3, .slice A_1_385 out.length c_2_385), (4, .int .i64 (i : Int)), (5, .int .i64 (IntKind.i64.wrap ((i : Int) + 1)))] (by kernel_rfl) ?_
            have := s0_0.bound
            rw [show IntKind.i64.wrap ((i : Int) + 1) = ((i : Int) + 1) from w64 (by omega)]
            refine leR (nk522, (i : Int), (i + 1)) (Nat.lt_succ_self _) ⟨hnx522 _ (Option.some.inj hb_522).symm, H⟩ (by kernel_rfl)
          · have p545 := of_decide_eq_false hb545
            obtain ⟨i0555, i1555, ix555⟩ := idx_some h_x_3
            obtain ⟨x_4, h_x_4, hb_522⟩ := bindE hb_522
            obtain ⟨i0557, i1557, ix557⟩ := idx_some h_x_4
            have hst : statB (bodyOf Try.f11) [1, 1, 0, 0, 0, 1, 0, 1, 0, 0, 1, 0, 0, 0] = true := by kernel_rfl
            refine drawS (Has m) H (by kernel_rfl) (by kernel_rfl) ?_
            intro w559 H
            refine segD2 hst [0, 1, 2] [0, 1, 2] [(0, .slice A0_0 l_.length c0_0), (3, .slice A_1_385 out.length c_2_385), (4, .int .i64 best), (5, .int .i64 (i : Int)), (14, .bool ((out.length : Int) == 0))] (by kernel_rfl) ?_
            rw [show ((out.length : Int) == 0) = false from hb525]
            refine segD2 hst [3, 4, 5, 8, 9, 10, 11] [0, 1, 2, 3, 4, 5, 8, 9, 10, 11] [(0, .slice A0_0 l_.length c0_0), (3, .slice A_1_385 out.length c_2_385), (4, .int .i64 best), (5, .int .i64 (i : Int)), (15, .bool false), (16, .slice A0_0 l_.length c0_0), (17, .int .i64 (i : Int)), (20, .slice A_1_385 out.length c_2_385), (23, .int .i64 (IntKind.i64.wrap ((out.length : Int) - 1)))] (by kernel_rfl) ?_
            have := (le63 (H.rowCap 0 rfl))
            rw [show IntKind.i64.wrap ((out.length : Int) - 1) = ((out.length : Int) - 1) from w64 (by omega)]
            obtain ⟨ad560, _, ea560, rfl, hc560⟩ := s0_0.at_ h_x_2 (by decide)
            refine takeD2 (i := 6) (d := (some 18)) (s := vS (Instr.indexAt 22 (.slice A0_0 l_.length c0_0) (.int .i64 (i : Int)))) (v := .pointer (some (ad560.add (i * 1)))) hst (by kernel_rfl) (by kernel_rfl) (fun w' hw' => idx_run 22 3 1 _ ad560 _ _ _ _ _ ea560 (by kernel_rfl) (by omega) (by have := (List.getElem?_eq_some_iff.1 h_x_2).1; omega) rfl) ?_
            refine takeD2 (i := 7) (d := (some 19)) (s := vS (Instr.loadAt 3 (.pointer (some (ad560.add (i * 1)))))) (v := (.int .i64 x_2)) hst (by kernel_rfl) (by kernel_rfl) (fun w' hw' => ld_run _ _ _ (by kernel_rfl) (hw'.cell (mc0 (hc560 0 _ rfl)))) ?_
            obtain ⟨ad561, _, ea561, rfl, hc561⟩ := H.rowAt 0 rfl ix555 (by decide)
            refine stD2 (i := 12) (by kernel_rfl) H.has (idxS (some 24) 22 3 1 A_1_385 ad561 out.length c_2_385 .i64 ((out.length : Int) - 1) ea561 (by kernel_rfl) (by kernel_rfl) i0555 i1555 ?_)
            refine stD2 (i := 13) (by kernel_rfl) H.has (ldR (some 25) 3 (ad561.add (((out.length : Int) - 1).toNat * 1)) (.int .i64 x_3) (by kernel_rfl) (by kernel_rfl) (add0 (hc561 0 _ rfl)) ?_)
            refine segD2 hst [14] [0, 1, 2, 3, 4, 5, 8, 9, 10, 11, 6, 7, 12, 13, 14] [(0, .slice A0_0 l_.length c0_0), (3, .slice A_1_385 out.length c_2_385), (4, .int .i64 best), (5, .int .i64 (i : Int)), (15, .bool false), (26, .bool (decide (x_2 > x_3)))] (by kernel_rfl) ?_
            rw [show (decide (x_2 > x_3)) = true from hb540]
            refine segD2 hst [15, 16, 17, 18] [0, 1, 2, 3, 4, 5, 8, 9, 10, 11, 6, 7, 12, 13, 14, 15, 16, 17, 18] [(0, .slice A0_0 l_.length c0_0), (3, .slice A_1_385 out.length c_2_385), (4, .int .i64 best), (5, .int .i64 (i : Int)), (28, .bool true), (30, .bool (decide (best < 0)))] (by kernel_rfl) ?_
            rw [show (decide (best < 0)) = false from hb545]
            refine segD2 hst [19, 20, 21, 24, 25] [0, 1, 2, 3, 4, 5, 8, 9, 10, 11, 6, 7, 12, 13, 14, 15, 16, 17, 18, 19, 20, 21, 24, 25] [(0, .slice A0_0 l_.length c0_0), (3, .slice A_1_385 out.length c_2_385), (4, .int .i64 best), (5, .int .i64 (i : Int)), (28, .bool true), (31, .bool false), (32, .slice A0_0 l_.length c0_0), (33, .int .i64 (i : Int)), (36, .slice A0_0 l_.length c0_0), (37, .int .i64 best)] (by kernel_rfl) ?_
            refine takeD2 (i := 22) (d := (some 34)) (s := vS (Instr.indexAt 22 (.slice A0_0 l_.length c0_0) (.int .i64 (i : Int)))) (v := .pointer (some (ad560.add (i * 1)))) hst (by kernel_rfl) (by kernel_rfl) (fun w' hw' => idx_run 22 3 1 _ ad560 _ _ _ _ _ ea560 (by kernel_rfl) (by omega) (by have := (List.getElem?_eq_some_iff.1 h_x_2).1; omega) rfl) ?_
            refine takeD2 (i := 23) (d := (some 35)) (s := vS (Instr.loadAt 3 (.pointer (some (ad560.add (i * 1)))))) (v := (.int .i64 x_2)) hst (by kernel_rfl) (by kernel_rfl) (fun w' hw' => ld_run _ _ _ (by kernel_rfl) (hw'.cell (mc0 (hc560 0 _ rfl)))) ?_
            obtain ⟨ad562, _, ea562, rfl, hc562⟩ := s0_0.at_ ix557 (by decide)
            refine stD2 (i := 26) (by kernel_rfl) H.has (idxS (some 38) 22 3 1 A0_0 ad562 l_.length c0_0 .i64 best ea562 (by kernel_rfl) (by kernel_rfl) i0557 i1557 ?_)
            refine stD2 (i := 27) (by kernel_rfl) H.has (ldR (some 39) 3 (ad562.add (best.toNat * 1)) (.int .i64 x_4) (by kernel_rfl) (by kernel_rfl) (H.cellI (mc0 (hc562 0 _ rfl))) ?_)
            refine segD2 hst [28] [0, 1, 2, 3, 4, 5, 8, 9, 10, 11, 6, 7, 12, 13, 14, 15, 16, 17, 18, 19, 20, 21, 24, 25, 22, 23, 26, 27, 28] [(0, .slice A0_0 l_.length c0_0), (3, .slice A_1_385 out.length c_2_385), (4, .int .i64 best), (5, .int .i64 (i : Int)), (28, .bool true), (31, .bool false), (40, .bool (decide (x_2 < x_4)))] (by kernel_rfl) ?_
            refine segD2 hst [29] [0, 1, 2, 3, 4, 5, 8, 9, 10, 11, 6, 7, 12, 13, 14, 15, 16, 17, 18, 19, 20, 21, 24, 25, 22, 23, 26, 27, 28, 29] [(0, .slice A0_0 l_.length c0_0), (3, .slice A_1_385 out.length c_2_385), (4, .int .i64 best), (5, .int .i64 (i : Int)), (28, .bool true), (41, .bool (decide (x_2 < x_4)))] (by kernel_rfl) ?_
            refine segD2 hst [30] [0, 1, 2, 3, 4, 5, 8, 9, 10, 11, 6, 7, 12, 13, 14, 15, 16, 17, 18, 19, 20, 21, 24, 25, 22, 23, 26, 27, 28, 29, 30] [(0, .slice A0_0 l_.length c0_0), (3, .slice A_1_385 out.length c_2_385), (4, .int .i64 best), (5, .int .i64 (i : Int)), (42, .bool (decide (x_2 < x_4)))] (by kernel_rfl) ?_
            refine endD2 (by kernel_rfl) H.has ?_
            rcases condT hb_522 with ⟨hb563, hb_522⟩ | ⟨hb563, hb_522⟩
            · rw [hb563]
              have p563 := of_decide_eq_true hb563
              refine seg 11 [.le 2, .bl 2, .le 1, .co [1, 1, 0, 0, 0, 1, 1], .bl 1, .le 0, .bl 0] [(0, .slice A0_0 l_.length c0_0), (3, .slice A_1_385 out.length c_2_385), (4, .int .i64 (i : Int)), (5, .int .i64 (IntKind.i64.wrap ((i : Int) + 1)))] (by kernel_rfl) ?_
              have := s0_0.bound
              rw [show IntKind.i64.wrap ((i : Int) + 1) = ((i : Int) + 1) from w64 (by omega)]
              refine leR (nk522, (i : Int), (i + 1)) (Nat.lt_succ_self _) ⟨hnx522 _ (Option.some.inj hb_522).symm, H⟩ (by kernel_rfl)
            · rw [hb563]
              have p563 := of_decide_eq_false hb563
              refine seg 8 [.le 2, .bl 2, .le 1, .co [1, 1, 0, 0, 0, 1, 1], .bl 1, .le 0, .bl 0] [(0, .slice A0_0 l_.length c0_0), (3, .slice A_1_385 out.length c_2_385), (4, .int .i64 best), (5, .int .i64 (IntKind.i64.wrap ((i : Int) + 1)))] (by kernel_rfl) ?_
              have := s0_0.bound
              rw [show IntKind.i64.wrap ((i : Int) + 1) = ((i : Int) + 1) from w64 (by omega)]
              refine leR (nk522, best, (i + 1)) (Nat.lt_succ_self _) ⟨hnx522 _ (Option.some.inj hb_522).symm, H⟩ (by kernel_rfl)
        · have p540 := of_decide_eq_false hb540
          obtain ⟨i0566, i1566, ix566⟩ := idx_some h_x_3
          have hst : statB (bodyOf Try.f11) [1, 1, 0, 0, 0, 1, 0, 1, 0, 0, 1, 0, 0, 0] = true := by kernel_rfl
          refine drawS (Has m) H (by kernel_rfl) (by kernel_rfl) ?_
          intro w568 H
          refine segD2 hst [0, 1, 2] [0, 1, 2] [(0, .slice A0_0 l_.length c0_0), (3, .slice A_1_385 out.length c_2_385), (4, .int .i64 best), (5, .int .i64 (i : Int)), (14, .bool ((out.length : Int) == 0))] (by kernel_rfl) ?_
          rw [show ((out.length : Int) == 0) = false from hb525]
          refine segD2 hst [3, 4, 5, 8, 9, 10, 11] [0, 1, 2, 3, 4, 5, 8, 9, 10, 11] [(0, .slice A0_0 l_.length c0_0), (3, .slice A_1_385 out.length c_2_385), (4, .int .i64 best), (5, .int .i64 (i : Int)), (15, .bool false), (16, .slice A0_0 l_.length c0_0), (17, .int .i64 (i : Int)), (20, .slice A_1_385 out.length c_2_385), (23, .int .i64 (IntKind.i64.wrap ((out.length : Int) - 1)))] (by kernel_rfl) ?_
          have := (le63 (H.rowCap 0 rfl))
          rw [show IntKind.i64.wrap ((out.length : Int) - 1) = ((out.length : Int) - 1) from w64 (by omega)]
          obtain ⟨ad569, _, ea569, rfl, hc569⟩ := s0_0.at_ h_x_2 (by decide)
          refine takeD2 (i := 6) (d := (some 18)) (s := vS (Instr.indexAt 22 (.slice A0_0 l_.length c0_0) (.int .i64 (i : Int)))) (v := .pointer (some (ad569.add (i * 1)))) hst (by kernel_rfl) (by kernel_rfl) (fun w' hw' => idx_run 22 3 1 _ ad569 _ _ _ _ _ ea569 (by kernel_rfl) (by omega) (by have := (List.getElem?_eq_some_iff.1 h_x_2).1; omega) rfl) ?_
          refine takeD2 (i := 7) (d := (some 19)) (s := vS (Instr.loadAt 3 (.pointer (some (ad569.add (i * 1)))))) (v := (.int .i64 x_2)) hst (by kernel_rfl) (by kernel_rfl) (fun w' hw' => ld_run _ _ _ (by kernel_rfl) (hw'.cell (mc0 (hc569 0 _ rfl)))) ?_
          obtain ⟨ad570, _, ea570, rfl, hc570⟩ := H.rowAt 0 rfl ix566 (by decide)
          refine stD2 (i := 12) (by kernel_rfl) H.has (idxS (some 24) 22 3 1 A_1_385 ad570 out.length c_2_385 .i64 ((out.length : Int) - 1) ea570 (by kernel_rfl) (by kernel_rfl) i0566 i1566 ?_)
          refine stD2 (i := 13) (by kernel_rfl) H.has (ldR (some 25) 3 (ad570.add (((out.length : Int) - 1).toNat * 1)) (.int .i64 x_3) (by kernel_rfl) (by kernel_rfl) (add0 (hc570 0 _ rfl)) ?_)
          refine segD2 hst [14] [0, 1, 2, 3, 4, 5, 8, 9, 10, 11, 6, 7, 12, 13, 14] [(0, .slice A0_0 l_.length c0_0), (3, .slice A_1_385 out.length c_2_385), (4, .int .i64 best), (5, .int .i64 (i : Int)), (15, .bool false), (26, .bool (decide (x_2 > x_3)))] (by kernel_rfl) ?_
          rw [show (decide (x_2 > x_3)) = false from hb540]
          refine segD2 hst [15, 16, 17, 18, 19, 20, 21, 22, 23, 24, 25, 26, 27, 28, 29, 30] [0, 1, 2, 3, 4, 5, 8, 9, 10, 11, 6, 7, 12, 13, 14, 15, 16, 17, 18, 19, 20, 21, 22, 23, 24, 25, 26, 27, 28, 29, 30] [(0, .slice A0_0 l_.length c0_0), (3, .slice A_1_385 out.length c_2_385), (4, .int .i64 best), (5, .int .i64 (i : Int)), (42, .bool false)] (by kernel_rfl) ?_
          refine endD2 (by kernel_rfl) H.has ?_
          refine seg 8 [.le 2, .bl 2, .le 1, .co [1, 1, 0, 0, 0, 1, 1], .bl 1, .le 0, .bl 0] [(0, .slice A0_0 l_.length c0_0), (3, .slice A_1_385 out.length c_2_385), (4, .int .i64 best), (5, .int .i64 (IntKind.i64.wrap ((i : Int) + 1)))] (by kernel_rfl) ?_
          have := s0_0.bound
          rw [show IntKind.i64.wrap ((i : Int) + 1) = ((i : Int) + 1) from w64 (by omega)]
          refine leR (nk522, best, (i + 1)) (Nat.lt_succ_self _) ⟨hnx522 _ (Option.some.inj hb_522).symm, H⟩ (by kernel_rfl)
    · rw [hb524]
      have p524 := of_decide_eq_false hb524
      refine seg 2 [.le 1, .co [1, 1, 0, 0, 0, 1, 1], .bl 1, .le 0, .bl 0] [(0, .slice A0_0 l_.length c0_0), (3, .slice A_1_385 out.length c_2_385), (4, .int .i64 best)] (by kernel_rfl) ?_
      refine leR_up (k' := []) (by rfl) ?_
      refine leJ (best) ⟨(hfin522 _ (Option.some.inj hb_522).symm).symm, H⟩ (by kernel_rfl)
  rintro best wj470 ⟨hy470, H⟩
  rw [hy470] at hb_384
  refine seg 6 [.co [1, 1, 0, 0, 0, 1, 1, 0, 1], .co [1, 1, 0, 0, 0, 1, 1, 1], .bl 1, .le 0, .bl 0] [(0, .slice A0_0 l_.length c0_0), (3, .slice A_1_385 out.length c_2_385), (4, .int .i64 best), (45, .bool (decide (best < 0)))] (by kernel_rfl) ?_
  rcases condT hb_384 with ⟨hb571, hb_384⟩ | ⟨hb571, hb_384⟩
  · rw [hb571]
    have p571 := of_decide_eq_true hb571
    refine seg 6 [.co [1, 1, 0, 0, 0, 1, 1, 0, 1, 0, 1], .co [1, 1, 0, 0, 0, 1, 1, 1], .bl 1, .le 0, .bl 0] [(2, .slice A_1_385 out.length c_2_385)] (by kernel_rfl) ?_
    refine retR [2] [.slice A_1_385 out.length c_2_385] (by kernel_rfl) (by kernel_rfl) (by kernel_rfl) ?_
    have hret := (hfin384 _ (Option.some.inj hb_384).symm)
    subst hret
    exact ⟨_, rfl, A_1_385, c_2_385, m, rfl, H⟩
  · rw [hb571]
    have p571 := of_decide_eq_false hb571
    refine seg 6 [.op [1, 1, 0, 0, 0, 1, 1, 1] 3, .bl 1, .le 0, .bl 0] [(0, .slice A0_0 l_.length c0_0), (47, .slice A_1_385 out.length c_2_385), (48, .slice A0_0 l_.length c0_0), (49, .int .i64 best)] (by kernel_rfl) ?_
    obtain ⟨x_5, h_x_5, hb_384⟩ := bindE hb_384
    obtain ⟨i0572, i1572, ix572⟩ := idx_some h_x_5
    obtain ⟨ad573, _, ea573, rfl, hc573⟩ := s0_0.at_ ix572 (by decide)
    refine st (idxS (some 50) 22 3 1 A0_0 ad573 l_.length c0_0 .i64 best ea573 (by kernel_rfl) (by kernel_rfl) i0572 i1572 ?_)
    refine st (ldR (some 51) 3 (ad573.add (best.toNat * 1)) (.int .i64 x_5) (by kernel_rfl) (by kernel_rfl) (H.cellI (mc0 (hc573 0 _ rfl))) ?_)
    refine st (newS (some 52) (fun g => .slice (some ⟨g, 0, none⟩) 1 1) [.int .i64 x_5] 3 H (by kernel_rfl) ?_)
    intro g574 w574 H
    obtain ⟨b, h_b, hb_384⟩ := bindE hb_384
    refine st (appS (r := rI64) (some 53) 22 3 8 (.int .i64 0) 22 1 A_1_385 (some ⟨g574, 0, none⟩) c_2_385 1 1 out [x_5] b _ H rfl ⟨Try.underlying22, by kernel_rfl⟩ rfl (by decide) (by kernel_rfl) (Cs.of_blk (H.blk 0 rfl)) (Rows.cons (cs := [.int .i64 x_5]) rfl Rows.nil) rfl h_b (by decide) (by decide) ?_)
    intro A575 c575 w575 H
    replace H := H.drop 0 rfl
    refine seg 3 [.le 0, .bl 0] [(0, .slice A0_0 l_.length c0_0), (3, .slice A575 b.length c575)] (by kernel_rfl) ?_
    refine leR (nk384, b, A575, c575) (Nat.lt_succ_self _) ⟨hnx384 _ (Option.some.inj hb_384).symm, H⟩ (by kernel_rfl)
theorem slices_Index_c {m : Mem} {w : World} (hm : Has m w) (s_ : (List Int)) (A0_0 : Option Addr) (c0_0 : Nat) (s0_0 : SlI rI64 m A0_0 c0_0 s_) (v_ : Int) {r : Int} (hf : slices_Index s_ v_ = some r) :
    Calls Try.prog 32 #[.slice A0_0 s_.length c0_0, .int .i64 v_] w fun e w' => ∃ v, e = .returned v ∧ v = .int .i64 r ∧ Ex w w' := by
  unfold slices_Index at hf
  have H := St.start0 hm
  refine callsR Try.func32 (by kernel_rfl) (by kernel_rfl) ?_
  refine seg 11 [.co [1, 0, 1], .co [1, 1]] [(0, .slice A0_0 s_.length c0_0), (1, .int .i64 v_), (7, .int .i64 (s_.length : Int)), (8, .int .i64 0)] (by kernel_rfl) ?_
  obtain ⟨y43, hp43, hfl43, hfr43⟩ := bndE hf
  refine joinR 0 (fun (x : Unit) => []) (fun (x : Unit) (wj43 : World) => y43 = .inl () ∧ St w noF m m [] wj43) (by kernel_rfl) ?_ ?_
  · refine seg 1 [.co [1, 0, 1, 0], .bl 0, .le 0, .co [1, 1]] [(0, .slice A0_0 s_.length c0_0), (1, .int .i64 v_), (7, .int .i64 (s_.length : Int)), (8, .int .i64 0)] (by kernel_rfl) ?_
    obtain ⟨nn55, hR55⟩ := loopO_iff.1 hp43
    refine loopR 1 (fun (x : Nat × Nat) => [(0, .slice A0_0 s_.length c0_0), (1, .int .i64 v_), (7, .int .i64 (s_.length : Int)), (8, .int .i64 (x.2 : Int))]) (fun (x : Nat × Nat) (wl55 : World) => iter (fun s => slices_Index_l1 s_ v_ s) x.1 x.2 = some y43 ∧ St w noF m m [] wl55) (fun (x : Nat × Nat) => x.1) (nn55, 0) (by kernel_rfl) (by kernel_rfl) (by kernel_rfl) ?_ ?_
    · exact ⟨hR55, H⟩
    rintro ⟨n55, t⟩ wl55 ⟨hR55, H⟩
    try dsimp only at hR55
    try dsimp only at H
    obtain ⟨nk55, q55, rfl, hb_55, hnx55, hfin55⟩ := iterE hR55
    replace hb_55 : slices_Index_l1 s_ v_ t = some q55 := hb_55
    unfold slices_Index_l1 at hb_55
    refine seg 5 [.co [1, 0, 1, 0, 0, 1, 0], .co [1, 0, 1, 0, 0, 1, 1], .le 1, .bl 0, .le 0, .co [1, 1]] [(0, .slice A0_0 s_.length c0_0), (1, .int .i64 v_), (7, .int .i64 (s_.length : Int)), (8, .int .i64 (t : Int)), (9, .bool (decide ((t : Int) < (s_.length : Int))))] (by kernel_rfl) ?_
    rcases condT hb_55 with ⟨hb57, hb_55⟩ | ⟨hb57, hb_55⟩
    · rw [hb57]
      have p57 := of_decide_eq_true hb57
      refine seg 14 [.op [1, 0, 1, 0, 0, 1, 1, 0, 0, 1, 0] 3, .co [1, 0, 1, 0, 0, 1, 1, 0, 0, 1, 1], .bl 1, .co [1, 0, 1, 0, 0, 1, 1, 1], .le 1, .bl 0, .le 0, .co [1, 1]] [(0, .slice A0_0 s_.length c0_0), (1, .int .i64 v_), (5, .int .i64 (t : Int)), (7, .int .i64 (s_.length : Int)), (8, .int .i64 (t : Int)), (11, .int .i64 v_), (12, .slice A0_0 s_.length c0_0), (13, .int .i64 (t : Int))] (by kernel_rfl) ?_
      obtain ⟨x_, h_x_, hb_55⟩ := bindE hb_55
      obtain ⟨ad59, _, ea59, rfl, hc59⟩ := s0_0.at_ h_x_ (by decide)
      refine st (idxS (some 14) 22 3 1 A0_0 ad59 s_.length c0_0 .i64 (t : Int) ea59 (by kernel_rfl) (by kernel_rfl) (by omega) (by have := (List.getElem?_eq_some_iff.1 h_x_).1; omega) ?_)
      refine st (ldR (some 15) 3 (ad59.add (t * 1)) (.int .i64 x_) (by kernel_rfl) (by kernel_rfl) (H.cellI (mc0 (hc59 0 _ rfl))) ?_)
      refine seg 2 [.co [1, 0, 1, 0, 0, 1, 1, 0, 0, 1, 1], .bl 1, .co [1, 0, 1, 0, 0, 1, 1, 1], .le 1, .bl 0, .le 0, .co [1, 1]] [(0, .slice A0_0 s_.length c0_0), (1, .int .i64 v_), (5, .int .i64 (t : Int)), (7, .int .i64 (s_.length : Int)), (8, .int .i64 (t : Int)), (16, .bool (v_ == x_))] (by kernel_rfl) ?_
      rcases condT hb_55 with ⟨hb60, hb_55⟩ | ⟨hb60, hb_55⟩
      · rw [hb60]
        refine seg 6 [.co [1, 0, 1, 0, 0, 1, 1, 0, 0, 1, 1, 0, 1], .bl 1, .co [1, 0, 1, 0, 0, 1, 1, 1], .le 1, .bl 0, .le 0, .co [1, 1]] [(4, .int .i64 (t : Int))] (by kernel_rfl) ?_
        refine retR [4] [.int .i64 (t : Int)] (by kernel_rfl) (by kernel_rfl) (by kernel_rfl) ?_
        obtain rfl : (t : Int) = r := (hfr43 _ (hfin55 _ (Option.some.inj hb_55).symm).symm)
        exact ⟨_, rfl, rfl, H.scalar⟩
      · rw [hb60]
        refine seg 7 [.le 1, .bl 0, .le 0, .co [1, 1]] [(0, .slice A0_0 s_.length c0_0), (1, .int .i64 v_), (7, .int .i64 (s_.length : Int)), (8, .int .i64 (IntKind.i64.wrap ((t : Int) + 1)))] (by kernel_rfl) ?_
        have := s0_0.bound
        rw [show IntKind.i64.wrap ((t : Int) + 1) = ((t : Int) + 1) from w64 (by omega)]
        refine leR (nk55, (t + 1)) (Nat.lt_succ_self _) ⟨hnx55 _ (Option.some.inj hb_55).symm, H⟩ (by kernel_rfl)
    · rw [hb57]
      have p57 := of_decide_eq_false hb57
      refine seg 2 [.le 0, .co [1, 1]] [] (by kernel_rfl) ?_
      refine leR_up (k' := []) (by rfl) ?_
      refine leJ () ⟨(hfin55 _ (Option.some.inj hb_55).symm).symm, H⟩ (by kernel_rfl)
  rintro _ wj43 ⟨hy43, H⟩
  have hf := hfl43 _ hy43
  try dsimp only at hf
  refine seg 4 [.co [1, 1, 1]] [(4, .int .i64 (-1))] (by kernel_rfl) ?_
  refine retR [4] [.int .i64 (-1)] (by kernel_rfl) (by kernel_rfl) (by kernel_rfl) ?_
  obtain rfl : (-1) = r := (Option.some.inj hf)
  exact ⟨_, rfl, rfl, H.scalar⟩
theorem table_Place_c {m : Mem} {w : World} (hm : Has m w) (l_ : (List Int)) (A0_0 : Option Addr) (c0_0 : Nat) (s0_0 : SlI rI64 m A0_0 c0_0 l_) (id_ : Int) {r : (Int × Bool)} (hf : table_Place l_ id_ = some r) :
    Calls Try.prog 12 #[.slice A0_0 l_.length c0_0, .int .i64 id_] w fun e w' => ∃ v, e = .returned v ∧ v = .tuple #[.int .i64 r.1, .bool r.2] ∧ Ex w w' := by
  unfold table_Place at hf
  have H := St.start0 hm
  refine callsR Try.func12 (by kernel_rfl) (by kernel_rfl) ?_
  refine seg 9 [.op [1, 0] 2, .co [1, 1]] [(7, .slice A0_0 l_.length c0_0), (8, .int .i64 id_)] (by kernel_rfl) ?_
  obtain ⟨indexi, h_indexi, hf⟩ := bindE hf
  refine st (callR (some 9) 32 #[.slice A0_0 l_.length c0_0, .int .i64 id_] Try.call32 (slices_Index_c H.has l_ A0_0 c0_0 s0_0 id_ h_indexi) (by kernel_rfl) ?_)
  rintro _ w1 ⟨rfl, hx1⟩
  replace H := H.ex hx1
  refine seg 11 [.co [1, 1, 1]] [(4, .int .i64 (if 0 > indexi then 0 else indexi)), (5, .bool (decide (indexi ≥ 0)))] (by kernel_rfl) ?_
  refine retR [4, 5] [.int .i64 (if 0 > indexi then 0 else indexi), .bool (decide (indexi ≥ 0))] (by kernel_rfl) (by kernel_rfl) (by kernel_rfl) ?_
  obtain rfl : ((if 0 > indexi then 0 else indexi), (decide (indexi ≥ 0))) = r := (Option.some.inj hf)
  exact ⟨_, rfl, rfl, H.scalar⟩
theorem law17_TableIds_c {m : Mem} {w : World} (hm : Has m w) (l_ : (List Int)) (A0_0 : Option Addr) (c0_0 : Nat) (s0_0 : SlI rI64 m A0_0 c0_0 l_) (id_ : Int) {r : Bool} (hf : law17_TableIds l_ id_ = some r) :
    Calls Try.prog 3 #[.slice A0_0 l_.length c0_0, .int .i64 id_] w fun e w' => ∃ v, e = .returned v ∧ v = .bool r ∧ Ex w w' := by
  unfold law17_TableIds at hf
  have H := St.start0 hm
  refine callsR Try.func3 (by kernel_rfl) (by kernel_rfl) ?_
  refine seg 11 [.co [1, 0, 1], .co [1, 1]] [(0, .slice A0_0 l_.length c0_0), (1, .int .i64 id_), (12, .bool (decide ((l_.length : Int) > 300)))] (by kernel_rfl) ?_
  rcases condT hf with ⟨hb3, hf⟩ | ⟨hb3, hf⟩
  · rw [hb3]
    have p3 := of_decide_eq_true hb3
    refine seg 3 [.op [1, 0, 1, 0, 0] 0, .co [1, 0, 1, 0, 1], .co [1, 1]] [] (by kernel_rfl) ?_
    obtain ⟨live, h_live, hf⟩ := bindE hf
    refine st (callR (some 13) 8 #[] Try.call8 (law17_live_c H.has  h_live) (by kernel_rfl) ?_)
    rintro _ w4 ⟨rfl, hx4⟩
    replace H := H.ex hx4
    refine seg 2 [.co [1, 0, 1, 0, 1], .co [1, 1]] [(4, .bool live)] (by kernel_rfl) ?_
    refine retR [4] [.bool live] (by kernel_rfl) (by kernel_rfl) (by kernel_rfl) ?_
    have hret := (Option.some.inj hf)
    subst hret
    exact ⟨_, rfl, rfl, H.scalar⟩
  · rw [hb3]
    have p3 := of_decide_eq_false hb3
    refine seg 4 [.op [1, 1, 0] 0, .co [1, 1, 1]] [(0, .slice A0_0 l_.length c0_0), (1, .int .i64 id_)] (by kernel_rfl) ?_
    refine st (newS (some 14) (fun g => .slice (some ⟨g, 0, none⟩) 0 0) [] 3 H (by kernel_rfl) ?_)
    intro g5 w5 H
    refine seg 1 [.op [1, 1, 0] 2, .co [1, 1, 1]] [(0, .slice A0_0 l_.length c0_0), (1, .int .i64 id_), (14, .slice (some ⟨g5, 0, none⟩) 0 0), (15, .slice A0_0 l_.length c0_0)] (by kernel_rfl) ?_
    have H := H.toRow (r := rI64) (l := ([] : List Int)) 0 rfl Rows.nil (Nat.le_of_ble_eq_true rfl)
    obtain ⟨xs6, hr6, hx6⟩ := s0_0.cs
    obtain ⟨b, h_b, hf⟩ := bindE hf
    refine st (appS (r := rI64) (some 16) 22 3 8 (.int .i64 0) 22 0 (some ⟨g5, 0, none⟩) A0_0 0 l_.length c0_0 ([] : List Int) l_ b _ H rfl ⟨Try.underlying22, by kernel_rfl⟩ rfl (by decide) (by kernel_rfl) (hx6.cs H.has) hr6 rfl h_b (by decide) (by decide) ?_)
    intro A7 c7 w7 H
    refine seg 5 [.op [1, 1, 1, 0] 1, .co [1, 1, 1, 1]] [(0, .slice A0_0 l_.length c0_0), (1, .int .i64 id_), (5, .slice A7 b.length c7), (17, .slice A7 b.length c7)] (by kernel_rfl) ?_
    replace H : St w noF m m [rowI rI64 3 A7 c7 b] w7 := H
    have H0_9 := H
    obtain ⟨mf10, hsub10, hsf10, H⟩ := H.fixR 0 rfl
    obtain ⟨ids, h_ids, hf⟩ := bindE hf
    refine st (callR (some 18) 9 #[.slice A7 b.length c7] Try.call9 (table_Ids_c H.has b A7 c7 hsf10 h_ids) (by kernel_rfl) ?_)
    rintro _ w11 ⟨A11_0, c11_0, mk11, rfl, hS11⟩
    replace H := H0_9.callB hS11 ⟨rowI_ind (fun _ _ _ _ h => h), trivial⟩
    refine seg 4 [.co [1, 1, 1, 1, 0, 0], .co [1, 1, 1, 1, 0, 1], .co [1, 1, 1, 1, 1]] [(0, .slice A0_0 l_.length c0_0), (1, .int .i64 id_), (5, .slice A7 b.length c7), (6, .slice A11_0 ids.length c11_0)] (by kernel_rfl) ?_
    obtain ⟨y115, hp115, hf⟩ := bindE hf
    refine joinR 0 (fun (x : Bool × Mem) => [(0, .slice A0_0 l_.length c0_0), (1, .int .i64 id_), (29, .bool x.1)]) (fun (x : Bool × Mem) (wj115 : World) => y115 = x.1 ∧ St w noF m x.2 [] wj115 ∧ Sub m x.2) (by kernel_rfl) ?_ ?_
    · refine seg 3 [.op [1, 1, 1, 1, 0, 0] 2, .le 0, .co [1, 1, 1, 1, 0, 1], .co [1, 1, 1, 1, 1]] [(0, .slice A0_0 l_.length c0_0), (1, .int .i64 id_), (5, .slice A7 b.length c7), (19, .slice A11_0 ids.length c11_0), (20, .slice A0_0 l_.length c0_0)] (by kernel_rfl) ?_
      obtain ⟨ids1, h_ids1, hp115⟩ := bindE hp115
      refine st (callR (some 21) 11 #[.slice A0_0 l_.length c0_0] Try.call11 (ref17_Ids_c H.has l_ A0_0 c0_0 s0_0 h_ids1) (by kernel_rfl) ?_)
      rintro _ w117 ⟨A117_0, c117_0, mk117, rfl, hS117⟩
      have hsub117 := hS117.sub
      replace H := H.call0 hS117
      have H0_118 := H
      obtain ⟨mf119, hsub119, hsf119, H⟩ := H.fixR 1 rfl
      obtain ⟨mf120, hsub120, hsf120, H⟩ := H.fixR 0 rfl
      obtain ⟨sameIn, h_sameIn, hp115⟩ := bindE hp115
      refine st (callR (some 22) 10 #[.slice A11_0 ids.length c11_0, .slice A117_0 ids1.length c117_0] Try.call10 (ref17_SameInts_c H.has ids A11_0 c11_0 (hsf119.mono hsub120) ids1 A117_0 c117_0 hsf120 h_sameIn) (by kernel_rfl) ?_)
      rintro _ w121 ⟨rfl, hx121⟩
      replace H := H0_118.ex hx121
      refine seg 2 [.op [1, 1, 1, 1, 0, 0] 6, .le 0, .co [1, 1, 1, 1, 0, 1], .co [1, 1, 1, 1, 1]] [(0, .slice A0_0 l_.length c0_0), (1, .int .i64 id_), (5, .slice A7 b.length c7), (24, .bool (!sameIn))] (by kernel_rfl) ?_
      rcases condT hp115 with ⟨hb122, hp115⟩ | ⟨hb122, hp115⟩
      · rw [hb122]
        refine seg 2 [.op [1, 1, 1, 1, 0, 0] 8, .le 0, .co [1, 1, 1, 1, 0, 1], .co [1, 1, 1, 1, 1]] [(0, .slice A0_0 l_.length c0_0), (1, .int .i64 id_), (24, .bool false), (25, .slice A7 b.length c7), (26, .slice A0_0 l_.length c0_0)] (by kernel_rfl) ?_
        have H0_123 := H
        obtain ⟨mf124, hsub124, hsf124, H⟩ := H.fixR 2 rfl
        obtain ⟨sameIn1, h_sameIn1, hp115⟩ := bindE hp115
        refine st (callR (some 27) 10 #[.slice A7 b.length c7, .slice A0_0 l_.length c0_0] Try.call10 (ref17_SameInts_c H.has b A7 c7 hsf124 l_ A0_0 c0_0 (s0_0.mono (hsub117.trans hsub124)) h_sameIn1) (by kernel_rfl) ?_)
        rintro _ w125 ⟨rfl, hx125⟩
        replace H := H0_123.ex hx125
        refine seg 3 [.le 0, .co [1, 1, 1, 1, 0, 1], .co [1, 1, 1, 1, 1]] [(0, .slice A0_0 l_.length c0_0), (1, .int .i64 id_), (29, .bool (!sameIn1))] (by kernel_rfl) ?_
        refine leJ ((!sameIn1), mk117) ⟨(Option.some.inj hp115).symm, (St.takeN 0 H), hsub117⟩ (by kernel_rfl)
      · rw [hb122]
        refine seg 6 [.le 0, .co [1, 1, 1, 1, 0, 1], .co [1, 1, 1, 1, 1]] [(0, .slice A0_0 l_.length c0_0), (1, .int .i64 id_), (29, .bool true)] (by kernel_rfl) ?_
        refine leJ (true, mk117) ⟨(Option.some.inj hp115).symm, (St.takeN 0 H), hsub117⟩ (by kernel_rfl)
    rintro ⟨t, mm116⟩ wj115 ⟨hy115, H, hsub116⟩
    try dsimp only at hy115
    try dsimp only at H
    try dsimp only at hsub116
    rw [hy115] at hf
    rcases condT hf with ⟨hb127, hf⟩ | ⟨hb127, hf⟩
    · rw [hb127]
      refine seg 5 [.co [1, 1, 1, 1, 0, 1, 0, 1], .co [1, 1, 1, 1, 1]] [(4, .bool false)] (by kernel_rfl) ?_
      refine retR [4] [.bool false] (by kernel_rfl) (by kernel_rfl) (by kernel_rfl) ?_
      have hret := (Option.some.inj hf)
      subst hret
      exact ⟨_, rfl, rfl, H.scalar⟩
    · rw [hb127]
      refine seg 6 [.op [1, 1, 1, 1, 1, 0] 2, .co [1, 1, 1, 1, 1, 1]] [(0, .slice A0_0 l_.length c0_0), (1, .int .i64 id_), (31, .slice A0_0 l_.length c0_0), (32, .int .i64 id_)] (by kernel_rfl) ?_
      replace H : St w noF m mm116 [] wj115 := H
      obtain ⟨place, h_place, hf⟩ := bindE hf
      refine st (callR (some 33) 12 #[.slice A0_0 l_.length c0_0, .int .i64 id_] Try.call12 (table_Place_c H.has l_ A0_0 c0_0 (s0_0.mono hsub116) id_ h_place) (by kernel_rfl) ?_)
      rintro _ w128 ⟨rfl, hx128⟩
      replace H := H.ex hx128
      refine seg 11 [.co [1, 1, 1, 1, 1, 1, 0, 1], .co [1, 1, 1, 1, 1, 1, 1]] [(0, .slice A0_0 l_.length c0_0), (1, .int .i64 id_), (7, .int .i64 place.1), (8, .bool place.2), (9, .int .i64 0)] (by kernel_rfl) ?_
      obtain ⟨y174, hp174, hfl174, hfr174⟩ := bndE hf
      refine joinR 0 (fun (x : Unit) => [(7, .int .i64 place.1), (8, .bool place.2)]) (fun (x : Unit) (wj174 : World) => y174 = .inl () ∧ St w noF m mm116 [] wj174) (by kernel_rfl) ?_ ?_
      · refine seg 1 [.co [1, 1, 1, 1, 1, 1, 0, 1, 0], .bl 0, .le 0, .co [1, 1, 1, 1, 1, 1, 1]] [(0, .slice A0_0 l_.length c0_0), (1, .int .i64 id_), (7, .int .i64 place.1), (8, .bool place.2), (9, .int .i64 0)] (by kernel_rfl) ?_
        obtain ⟨nn192, hR192⟩ := loopO_iff.1 hp174
        refine loopR 1 (fun (x : Nat × Nat) => [(0, .slice A0_0 l_.length c0_0), (1, .int .i64 id_), (7, .int .i64 place.1), (8, .bool place.2), (9, .int .i64 (x.2 : Int))]) (fun (x : Nat × Nat) (wl192 : World) => iter (fun s => law17_TableIds_l1 l_ id_ place s) x.1 x.2 = some y174 ∧ St w noF m mm116 [] wl192) (fun (x : Nat × Nat) => x.1) (nn192, 0) (by kernel_rfl) (by kernel_rfl) (by kernel_rfl) ?_ ?_
        · exact ⟨hR192, H⟩
        rintro ⟨n192, k⟩ wl192 ⟨hR192, H⟩
        try dsimp only at hR192
        try dsimp only at H
        obtain ⟨nk192, q192, rfl, hb_192, hnx192, hfin192⟩ := iterE hR192
        replace hb_192 : law17_TableIds_l1 l_ id_ place k = some q192 := hb_192
        unfold law17_TableIds_l1 at hb_192
        refine seg 8 [.co [1, 1, 1, 1, 1, 1, 0, 1, 0, 0, 0, 1], .co [1, 1, 1, 1, 1, 1, 0, 1, 0, 0, 1], .le 1, .bl 0, .le 0, .co [1, 1, 1, 1, 1, 1, 1]] [(0, .slice A0_0 l_.length c0_0), (1, .int .i64 id_), (7, .int .i64 place.1), (8, .bool place.2), (9, .int .i64 (k : Int)), (39, .bool (decide ((k : Int) < (l_.length : Int))))] (by kernel_rfl) ?_
        rcases condT hb_192 with ⟨hb194, hb_192⟩ | ⟨hb194, hb_192⟩
        · rw [hb194]
          have p194 := of_decide_eq_true hb194
          refine seg 8 [.op [1, 1, 1, 1, 1, 1, 0, 1, 0, 0, 1, 0, 0, 0] 2, .co [1, 1, 1, 1, 1, 1, 0, 1, 0, 0, 1, 0, 0, 1], .bl 1, .co [1, 1, 1, 1, 1, 1, 0, 1, 0, 0, 1, 1], .le 1, .bl 0, .le 0, .co [1, 1, 1, 1, 1, 1, 1]] [(0, .slice A0_0 l_.length c0_0), (1, .int .i64 id_), (7, .int .i64 place.1), (8, .bool place.2), (9, .int .i64 (k : Int)), (42, .slice A0_0 l_.length c0_0), (43, .int .i64 (k : Int))] (by kernel_rfl) ?_
          obtain ⟨x_, h_x_, hb_192⟩ := bindE hb_192
          obtain ⟨ad196, _, ea196, rfl, hc196⟩ := (s0_0.mono hsub116).at_ h_x_ (by decide)
          refine st (idxS (some 44) 22 3 1 A0_0 ad196 l_.length c0_0 .i64 (k : Int) ea196 (by kernel_rfl) (by kernel_rfl) (by omega) (by have := (List.getElem?_eq_some_iff.1 h_x_).1; omega) ?_)
          refine st (ldR (some 45) 3 (ad196.add (k * 1)) (.int .i64 x_) (by kernel_rfl) (by kernel_rfl) (H.cellI (mc0 (hc196 0 _ rfl))) ?_)
          refine seg 3 [.co [1, 1, 1, 1, 1, 1, 0, 1, 0, 0, 1, 0, 0, 1], .bl 1, .co [1, 1, 1, 1, 1, 1, 0, 1, 0, 0, 1, 1], .le 1, .bl 0, .le 0, .co [1, 1, 1, 1, 1, 1, 1]] [(0, .slice A0_0 l_.length c0_0), (1, .int .i64 id_), (7, .int .i64 place.1), (8, .bool place.2), (9, .int .i64 (k : Int)), (47, .bool (x_ == id_))] (by kernel_rfl) ?_
          rcases condT hb_192 with ⟨hb197, hb_192⟩ | ⟨hb197, hb_192⟩
          · rw [hb197]
            refine seg 5 [.op [1, 1, 1, 1, 1, 1, 0, 1, 0, 0, 1, 0, 0, 1, 0, 0] 2, .co [1, 1, 1, 1, 1, 1, 0, 1, 0, 0, 1, 0, 0, 1, 0, 1], .bl 1, .co [1, 1, 1, 1, 1, 1, 0, 1, 0, 0, 1, 1], .le 1, .bl 0, .le 0, .co [1, 1, 1, 1, 1, 1, 1]] [(7, .int .i64 place.1), (9, .int .i64 (k : Int)), (49, .bool place.2)] (by kernel_rfl) ?_
            rcases condT hb_192 with ⟨hb198, hb_192⟩ | ⟨hb198, hb_192⟩
            · rw [hb198]
              refine seg 5 [.op [1, 1, 1, 1, 1, 1, 0, 1, 0, 0, 1, 0, 0, 1, 0, 0] 7, .co [1, 1, 1, 1, 1, 1, 0, 1, 0, 0, 1, 0, 0, 1, 0, 1], .bl 1, .co [1, 1, 1, 1, 1, 1, 0, 1, 0, 0, 1, 1], .le 1, .bl 0, .le 0, .co [1, 1, 1, 1, 1, 1, 1]] [(54, .bool (place.1 == (k : Int)))] (by kernel_rfl) ?_
              rcases condT hb_192 with ⟨hb199, hb_192⟩ | ⟨hb199, hb_192⟩
              · rw [hb199]
                obtain ⟨live1, h_live1, hb_192⟩ := bindE hb_192
                refine st (callR (some 55) 8 #[] Try.call8 (law17_live_c H.has  h_live1) (by kernel_rfl) ?_)
                rintro _ w200 ⟨rfl, hx200⟩
                replace H := H.ex hx200
                refine seg 3 [.co [1, 1, 1, 1, 1, 1, 0, 1, 0, 0, 1, 0, 0, 1, 0, 1], .bl 1, .co [1, 1, 1, 1, 1, 1, 0, 1, 0, 0, 1, 1], .le 1, .bl 0, .le 0, .co [1, 1, 1, 1, 1, 1, 1]] [(4, .bool live1)] (by kernel_rfl) ?_
                refine retR [4] [.bool live1] (by kernel_rfl) (by kernel_rfl) (by kernel_rfl) ?_
                have hret := (hfr174 _ (hfin192 _ (Option.some.inj hb_192).symm).symm)
                subst hret
                exact ⟨_, rfl, rfl, H.scalar⟩
              · rw [hb199]
                refine seg 4 [.co [1, 1, 1, 1, 1, 1, 0, 1, 0, 0, 1, 0, 0, 1, 0, 1], .bl 1, .co [1, 1, 1, 1, 1, 1, 0, 1, 0, 0, 1, 1], .le 1, .bl 0, .le 0, .co [1, 1, 1, 1, 1, 1, 1]] [(4, .bool false)] (by kernel_rfl) ?_
                refine retR [4] [.bool false] (by kernel_rfl) (by kernel_rfl) (by kernel_rfl) ?_
                have hret := (hfr174 _ (hfin192 _ (Option.some.inj hb_192).symm).symm)
                subst hret
                exact ⟨_, rfl, rfl, H.scalar⟩
            · rw [hb198]
              refine seg 9 [.co [1, 1, 1, 1, 1, 1, 0, 1, 0, 0, 1, 0, 0, 1, 0, 1], .bl 1, .co [1, 1, 1, 1, 1, 1, 0, 1, 0, 0, 1, 1], .le 1, .bl 0, .le 0, .co [1, 1, 1, 1, 1, 1, 1]] [(4, .bool false)] (by kernel_rfl) ?_
              refine retR [4] [.bool false] (by kernel_rfl) (by kernel_rfl) (by kernel_rfl) ?_
              have hret := (hfr174 _ (hfin192 _ (Option.some.inj hb_192).symm).symm)
              subst hret
              exact ⟨_, rfl, rfl, H.scalar⟩
          · rw [hb197]
            refine seg 8 [.le 1, .bl 0, .le 0, .co [1, 1, 1, 1, 1, 1, 1]] [(0, .slice A0_0 l_.length c0_0), (1, .int .i64 id_), (7, .int .i64 place.1), (8, .bool place.2), (9, .int .i64 (IntKind.i64.wrap ((k : Int) + 1)))] (by kernel_rfl) ?_
            have := s0_0.bound
            rw [show IntKind.i64.wrap ((k : Int) + 1) = ((k : Int) + 1) from w64 (by omega)]
            refine leR (nk192, (k + 1)) (Nat.lt_succ_self _) ⟨hnx192 _ (Option.some.inj hb_192).symm, H⟩ (by kernel_rfl)
        · rw [hb194]
          have p194 := of_decide_eq_false hb194
          refine seg 2 [.le 0, .co [1, 1, 1, 1, 1, 1, 1]] [(7, .int .i64 place.1), (8, .bool place.2)] (by kernel_rfl) ?_
          refine leR_up (k' := []) (by rfl) ?_
          refine leJ () ⟨(hfin192 _ (Option.some.inj hb_192).symm).symm, H⟩ (by kernel_rfl)
      rintro _ wj174 ⟨hy174, H⟩
      have hf := hfl174 _ hy174
      try dsimp only at hf
      refine seg 5 [.op [1, 1, 1, 1, 1, 1, 1, 0] 3, .co [1, 1, 1, 1, 1, 1, 1, 1]] [(7, .int .i64 place.1), (59, .bool (!place.2))] (by kernel_rfl) ?_
      rcases condT hf with ⟨hb201, hf⟩ | ⟨hb201, hf⟩
      · rw [hb201]
        refine seg 8 [.co [1, 1, 1, 1, 1, 1, 1, 1]] [(4, .bool false)] (by kernel_rfl) ?_
        refine retR [4] [.bool false] (by kernel_rfl) (by kernel_rfl) (by kernel_rfl) ?_
        have hret := (Option.some.inj hf)
        subst hret
        exact ⟨_, rfl, rfl, H.scalar⟩
      · rw [hb201]
        refine seg 4 [.op [1, 1, 1, 1, 1, 1, 1, 0] 7, .co [1, 1, 1, 1, 1, 1, 1, 1]] [(63, .bool (place.1 == 0))] (by kernel_rfl) ?_
        rcases condT hf with ⟨hb202, hf⟩ | ⟨hb202, hf⟩
        · rw [hb202]
          obtain ⟨live2, h_live2, hf⟩ := bindE hf
          refine st (callR (some 64) 8 #[] Try.call8 (law17_live_c H.has  h_live2) (by kernel_rfl) ?_)
          rintro _ w203 ⟨rfl, hx203⟩
          replace H := H.ex hx203
          refine seg 3 [.co [1, 1, 1, 1, 1, 1, 1, 1]] [(4, .bool live2)] (by kernel_rfl) ?_
          refine retR [4] [.bool live2] (by kernel_rfl) (by kernel_rfl) (by kernel_rfl) ?_
          have hret := (Option.some.inj hf)
          subst hret
          exact ⟨_, rfl, rfl, H.scalar⟩
        · rw [hb202]
          refine seg 4 [.co [1, 1, 1, 1, 1, 1, 1, 1]] [(4, .bool false)] (by kernel_rfl) ?_
          refine retR [4] [.bool false] (by kernel_rfl) (by kernel_rfl) (by kernel_rfl) ?_
          have hret := (Option.some.inj hf)
          subst hret
          exact ⟨_, rfl, rfl, H.scalar⟩
theorem table_EncodeIds_1_c {m : Mem} {w : World} (hm : Has m w) (g0 : Nat) (w_ : TFieldWriter) (A0_0 : Option Addr) (c0_0 : Nat) (n_ : Int) {F : Nat → Prop} (hsep : Sep m w [blkI g0 [.slice A0_0 w_.f_b.length c0_0, .int .i64 w_.f_most, .int .i64 w_.f_e] 108, rowI rU8 5 A0_0 c0_0 w_.f_b] F) (hF : ∀ k, F k → m k = none) {r : TFieldWriter} (hf : table_EncodeIds_1 w_ n_ = some r) :
    Calls Try.prog 34 #[.pointer (some (⟨g0, 0, none⟩)), .int .i64 n_] w fun e w' => ∃ v, e = .returned v ∧ ∃ Az_o0_0 : Option Addr, ∃ cz_o0_0 : Nat, ∃ m' : Mem, v = .tuple #[] ∧ St w F m m' [blkI g0 [.slice Az_o0_0 r.f_b.length cz_o0_0, .int .i64 r.f_most, .int .i64 r.f_e] 108, rowI rU8 5 Az_o0_0 cz_o0_0 r.f_b] w' := by
  unfold table_EncodeIds_1 at hf
  have H := St.start hm hsep hF
  refine callsR Try.func34 (by kernel_rfl) (by kernel_rfl) ?_
  refine seg 4 [.op [] 3] [(4, .pointer (some (⟨g0, 0, none⟩))), (6, .int .u64 (IntKind.u64.wrap n_))] (by kernel_rfl) ?_
  rw [q64_wrap n_]
  obtain ⟨num, h_num, hf⟩ := bindE hf
  obtain ⟨F1, hse1, hFn1, hcl1⟩ := St.call [blkI g0 [.slice A0_0 w_.f_b.length c0_0, .int .i64 w_.f_most, .int .i64 w_.f_e] 108, rowI rU8 5 A0_0 c0_0 w_.f_b] ((H.pull 1 rfl).pull 1 rfl)
  refine st (callR (some 7) 35 #[.pointer (some (⟨g0, 0, none⟩)), .int .u64 ((UInt64.ofInt n_).toNat : Int), .int .i64 4] Try.call35 (field_Writer_Num_c H.has g0 w_ A0_0 c0_0 (UInt64.ofInt n_) 4 hse1 hFn1 h_num) (by kernel_rfl) ?_)
  rintro _ w1 ⟨A1_o0_0, c1_o0_0, mk1, rfl, hS1⟩
  have hsub1 := hS1.sub
  replace H := hcl1 _ _ _ hS1
  refine seg 1 [] [] (by kernel_rfl) ?_
  refine endR [] [] (by kernel_rfl) (by kernel_rfl) ?_
  have hret := (Option.some.inj hf)
  subst hret
  exact ⟨_, rfl, A1_o0_0, c1_o0_0, mk1, rfl, H⟩
theorem table_write0_c {m : Mem} {w : World} (hm : Has m w) (l_ : (List Int)) (A0_0 : Option Addr) (c0_0 : Nat) (s0_0 : SlI rI64 m A0_0 c0_0 l_) {r : (List UInt8)} (hf : table_write0 l_ = some r) :
    Calls Try.prog 33 #[.slice A0_0 l_.length c0_0, .func (.func 34) #[] #[]] w fun e w' => ∃ v, e = .returned v ∧ ∃ Az_0 : Option Addr, ∃ cz_0 : Nat, ∃ m' : Mem, v = .slice Az_0 r.length cz_0 ∧ St w noF m m' [rowI rU8 5 Az_0 cz_0 r] w' := by
  unfold table_write0 at hf
  have H := St.start0 hm
  refine callsR Try.func33 (by kernel_rfl) (by kernel_rfl) ?_
  refine seg 6 [.op [1, 0] 0, .co [1, 1]] [(0, .slice A0_0 l_.length c0_0), (1, .func (.func 34) #[] #[])] (by kernel_rfl) ?_
  refine st (callR (some 10) 61 #[.int .i64 16777216] Try.call61 (field_NewWriter_c H.has 16777216) (by kernel_rfl) ?_)
  rintro _ w1 ⟨g1_0, A1_0_0, c1_0_0, mk1, rfl, hS1⟩
  have hsub1 := hS1.sub
  replace H := H.call0 hS1
  refine seg 9 [.co [1, 1, 0, 1], .co [1, 1, 1]] [(1, .func (.func 34) #[] #[]), (5, .pointer (some (⟨g1_0, 0, none⟩))), (11, .slice A0_0 l_.length c0_0), (12, .int .i64 (l_.length : Int)), (13, .int .i64 0)] (by kernel_rfl) ?_
  obtain ⟨y42, hp42, hf⟩ := bindE hf
  refine joinR 0 (fun (x : (List UInt8) × Int × Int × Option Addr × Nat × Mem) => [(5, .pointer (some (⟨g1_0, 0, none⟩)))]) (fun (x : (List UInt8) × Int × Int × Option Addr × Nat × Mem) (wj42 : World) => y42 = (x.1, x.2.1, x.2.2.1) ∧ St w noF m x.2.2.2.2.2 [blkI g1_0 [.slice (x.2.2.2.1) x.1.length (x.2.2.2.2.1), .int .i64 x.2.1, .int .i64 x.2.2.1] 108, rowI rU8 5 (x.2.2.2.1) (x.2.2.2.2.1) x.1] wj42 ∧ Sub mk1 x.2.2.2.2.2) (by kernel_rfl) ?_ ?_
  · refine seg 1 [.co [1, 1, 0, 1, 0], .bl 0, .le 0, .co [1, 1, 1]] [(1, .func (.func 34) #[] #[]), (5, .pointer (some (⟨g1_0, 0, none⟩))), (11, .slice A0_0 l_.length c0_0), (12, .int .i64 (l_.length : Int)), (13, .int .i64 0)] (by kernel_rfl) ?_
    obtain ⟨nn54, hR54⟩ := loopO_iff.1 hp42
    refine loopR 1 (fun (x : Nat × (List UInt8) × Int × Int × Nat × Option Addr × Nat × Mem) => [(1, .func (.func 34) #[] #[]), (5, .pointer (some (⟨g1_0, 0, none⟩))), (11, .slice A0_0 l_.length c0_0), (12, .int .i64 (l_.length : Int)), (13, .int .i64 (x.2.2.2.2.1 : Int))]) (fun (x : Nat × (List UInt8) × Int × Int × Nat × Option Addr × Nat × Mem) (wl54 : World) => iter (fun s => table_write0_l1 l_ s.1 s.2.1 s.2.2.1 s.2.2.2) x.1 (x.2.1, x.2.2.1, x.2.2.2.1, x.2.2.2.2.1) = some y42 ∧ St w noF m x.2.2.2.2.2.2.2 [blkI g1_0 [.slice (x.2.2.2.2.2.1) x.2.1.length (x.2.2.2.2.2.2.1), .int .i64 x.2.2.1, .int .i64 x.2.2.2.1] 108, rowI rU8 5 (x.2.2.2.2.2.1) (x.2.2.2.2.2.2.1) x.2.1] wl54 ∧ Sub mk1 x.2.2.2.2.2.2.2) (fun (x : Nat × (List UInt8) × Int × Int × Nat × Option Addr × Nat × Mem) => x.1) (nn54, (field_NewWriter 16777216).f_b, (field_NewWriter 16777216).f_most, (field_NewWriter 16777216).f_e, 0, A1_0_0, c1_0_0, mk1) (by kernel_rfl) (by kernel_rfl) (by kernel_rfl) ?_ ?_
    · exact ⟨hR54, H, (Sub.refl _)⟩
    rintro ⟨n54, b, most, e_, t, A_1_55, c_2_55, mm55⟩ wl54 ⟨hR54, H, hsub55⟩
    try dsimp only at hR54
    try dsimp only at H
    try dsimp only at hsub55
    obtain ⟨nk54, q54, rfl, hb_54, hnx54, hfin54⟩ := iterE hR54
    replace hb_54 : table_write0_l1 l_ b most e_ t = some q54 := hb_54
    unfold table_write0_l1 at hb_54
    refine seg 5 [.co [1, 1, 0, 1, 0, 0, 1, 0], .co [1, 1, 0, 1, 0, 0, 1, 1], .le 1, .bl 0, .le 0, .co [1, 1, 1]] [(1, .func (.func 34) #[] #[]), (5, .pointer (some (⟨g1_0, 0, none⟩))), (11, .slice A0_0 l_.length c0_0), (12, .int .i64 (l_.length : Int)), (13, .int .i64 (t : Int)), (14, .bool (decide ((t : Int) < (l_.length : Int))))] (by kernel_rfl) ?_
    rcases condT hb_54 with ⟨hb56, hb_54⟩ | ⟨hb56, hb_54⟩
    · rw [hb56]
      have p56 := of_decide_eq_true hb56
      refine seg 6 [.op [1, 1, 0, 1, 0, 0, 1, 1, 0, 0, 0] 0, .co [1, 1, 0, 1, 0, 0, 1, 1, 0, 0, 1], .bl 1, .co [1, 1, 0, 1, 0, 0, 1, 1, 1], .le 1, .bl 0, .le 0, .co [1, 1, 1]] [(1, .func (.func 34) #[] #[]), (5, .pointer (some (⟨g1_0, 0, none⟩))), (11, .slice A0_0 l_.length c0_0), (12, .int .i64 (l_.length : Int)), (13, .int .i64 (t : Int))] (by kernel_rfl) ?_
      obtain ⟨x_, h_x_, hb_54⟩ := bindE hb_54
      obtain ⟨ad58, _, ea58, rfl, hc58⟩ := (s0_0.mono (hsub1.trans hsub55)).at_ h_x_ (by decide)
      refine st (idxS (some 15) 22 3 1 A0_0 ad58 l_.length c0_0 .i64 (t : Int) ea58 (by kernel_rfl) (by kernel_rfl) (by omega) (by have := (List.getElem?_eq_some_iff.1 h_x_).1; omega) ?_)
      refine st (ldR (some 16) 3 (ad58.add (t * 1)) (.int .i64 x_) (by kernel_rfl) (by kernel_rfl) (H.cellI (mc0 (hc58 0 _ rfl))) ?_)
      refine seg 6 [.op [1, 1, 0, 1, 0, 0, 1, 1, 0, 0, 1] 3, .bl 1, .co [1, 1, 0, 1, 0, 0, 1, 1, 1], .le 1, .bl 0, .le 0, .co [1, 1, 1]] [(1, .func (.func 34) #[] #[]), (5, .pointer (some (⟨g1_0, 0, none⟩))), (11, .slice A0_0 l_.length c0_0), (12, .int .i64 (l_.length : Int)), (13, .int .i64 (t : Int)), (17, .func (.func 34) #[] #[]), (18, .pointer (some (⟨g1_0, 0, none⟩))), (19, .int .i64 x_)] (by kernel_rfl) ?_
      obtain ⟨encode, h_encode, hb_54⟩ := bindE hb_54
      obtain ⟨F59, hse59, hFn59, hcl59⟩ := St.call [blkI g1_0 [.slice A_1_55 b.length c_2_55, .int .i64 most, .int .i64 e_] 108, rowI rU8 5 A_1_55 c_2_55 b] ((H.pull 1 rfl).pull 1 rfl)
      refine st (callR (some 20) 34 #[.pointer (some (⟨g1_0, 0, none⟩)), .int .i64 x_] Try.call34 (table_EncodeIds_1_c H.has g1_0 ({ f_b := b, f_most := most, f_e := e_ } : TFieldWriter) A_1_55 c_2_55 x_ hse59 hFn59 h_encode) (by kernel_rfl) ?_)
      rintro _ w59 ⟨A59_o0_0, c59_o0_0, mk59, rfl, hS59⟩
      have hsub59 := hS59.sub
      replace H := hcl59 _ _ _ hS59
      refine seg 6 [.le 1, .bl 0, .le 0, .co [1, 1, 1]] [(1, .func (.func 34) #[] #[]), (5, .pointer (some (⟨g1_0, 0, none⟩))), (11, .slice A0_0 l_.length c0_0), (12, .int .i64 (l_.length : Int)), (13, .int .i64 (IntKind.i64.wrap ((t : Int) + 1)))] (by kernel_rfl) ?_
      have := s0_0.bound
      rw [show IntKind.i64.wrap ((t : Int) + 1) = ((t : Int) + 1) from w64 (by omega)]
      refine leR (nk54, encode.f_b, encode.f_most, encode.f_e, (t + 1), A59_o0_0, c59_o0_0, mk59) (Nat.lt_succ_self _) ⟨hnx54 _ (Option.some.inj hb_54).symm, H, (hsub55.trans hsub59)⟩ (by kernel_rfl)
    · rw [hb56]
      have p56 := of_decide_eq_false hb56
      refine seg 2 [.le 0, .co [1, 1, 1]] [(5, .pointer (some (⟨g1_0, 0, none⟩)))] (by kernel_rfl) ?_
      refine leR_up (k' := []) (by rfl) ?_
      refine leJ (b, most, e_, A_1_55, c_2_55, mm55) ⟨(hfin54 _ (Option.some.inj hb_54).symm).symm, H, hsub55⟩ (by kernel_rfl)
  rintro ⟨b, most, e_, A_1_43, c_2_43, mm43⟩ wj42 ⟨hy42, H, hsub43⟩
  try dsimp only at hy42
  try dsimp only at H
  try dsimp only at hsub43
  rw [hy42] at hf
  try dsimp only at hf
  refine seg 3 [.op [1, 1, 1, 0] 1, .co [1, 1, 1, 1]] [(23, .pointer (some (⟨g1_0, 0, none⟩)))] (by kernel_rfl) ?_
  replace H : St w noF m mm43 [blkI g1_0 [.slice A_1_43 b.length c_2_43, .int .i64 most, .int .i64 e_] 108, rowI rU8 5 A_1_43 c_2_43 b] wj42 := H
  obtain ⟨done, h_done, hf⟩ := bindE hf
  obtain ⟨F60, hse60, hFn60, hcl60⟩ := St.call [blkI g1_0 [.slice A_1_43 b.length c_2_43, .int .i64 most, .int .i64 e_] 108, rowI rU8 5 A_1_43 c_2_43 b] ((H.pull 1 rfl).pull 1 rfl)
  refine st (callR (some 24) 62 #[.pointer (some (⟨g1_0, 0, none⟩))] Try.call62 (field_Writer_Done_c H.has g1_0 ({ f_b := b, f_most := most, f_e := e_ } : TFieldWriter) A_1_43 c_2_43 hse60 hFn60 h_done) (by kernel_rfl) ?_)
  rintro _ w60 ⟨A60_0, c60_0, mk60, rfl, hS60⟩
  have hsub60 := hS60.sub
  replace H := hcl60 _ _ _ hS60
  refine seg 11 [.co [1, 1, 1, 1, 1]] [(4, .slice A60_0 done.1.length c60_0)] (by kernel_rfl) ?_
  refine retR [4] [.slice A60_0 done.1.length c60_0] (by kernel_rfl) (by kernel_rfl) (by kernel_rfl) ?_
  obtain rfl : done.1 = r := (Option.some.inj hf)
  exact ⟨_, rfl, A60_0, c60_0, mk60, rfl, (St.takeN 1 H)⟩
theorem table_EncodeIds_c {m : Mem} {w : World} (hm : Has m w) (l_ : (List Int)) (A0_0 : Option Addr) (c0_0 : Nat) (s0_0 : SlI rI64 m A0_0 c0_0 l_) {r : ((List UInt8) × Int)} (hf : table_EncodeIds l_ = some r) :
    Calls Try.prog 13 #[.slice A0_0 l_.length c0_0] w fun e w' => ∃ v, e = .returned v ∧ ∃ Az_0 : Option Addr, ∃ cz_0 : Nat, ∃ m' : Mem, v = .tuple #[.slice Az_0 r.1.length cz_0, .int .i64 r.2] ∧ St w noF m m' [rowI rU8 5 Az_0 cz_0 r.1] w' := by
  unfold table_EncodeIds at hf
  have H := St.start0 hm
  refine callsR Try.func13 (by kernel_rfl) (by kernel_rfl) ?_
  refine seg 12 [.co [1, 0, 1], .co [1, 1]] [(0, .slice A0_0 l_.length c0_0), (9, .bool (decide ((l_.length : Int) > 65536)))] (by kernel_rfl) ?_
  rcases condT hf with ⟨hb2, hf⟩ | ⟨hb2, hf⟩
  · rw [hb2]
    have p2 := of_decide_eq_true hb2
    refine seg 6 [.co [1, 0, 1, 0, 1], .co [1, 1]] [(2, .slice none 0 0), (3, .int .i64 1)] (by kernel_rfl) ?_
    have H := H.nilR rU8 5
    refine retR [2, 3] [.slice none 0 0, .int .i64 1] (by kernel_rfl) (by kernel_rfl) (by kernel_rfl) ?_
    obtain rfl : ([], 1) = r := (Option.some.inj hf)
    exact ⟨_, rfl, none, 0, m, rfl, H⟩
  · rw [hb2]
    have p2 := of_decide_eq_false hb2
    refine seg 13 [.co [1, 1, 1, 0, 1], .co [1, 1, 1, 1]] [(0, .slice A0_0 l_.length c0_0), (4, .int .i64 (-1)), (10, .slice A0_0 l_.length c0_0), (11, .int .i64 (l_.length : Int)), (12, .int .i64 0)] (by kernel_rfl) ?_
    obtain ⟨y54, hp54, hfl54, hfr54⟩ := bndE hf
    refine joinR 0 (fun (x : Unit) => [(0, .slice A0_0 l_.length c0_0)]) (fun (x : Unit) (wj54 : World) => y54 = .inl () ∧ St w noF m m [] wj54) (by kernel_rfl) ?_ ?_
    · refine seg 1 [.co [1, 1, 1, 0, 1, 0], .bl 0, .le 0, .co [1, 1, 1, 1]] [(0, .slice A0_0 l_.length c0_0), (4, .int .i64 (-1)), (10, .slice A0_0 l_.length c0_0), (11, .int .i64 (l_.length : Int)), (12, .int .i64 0)] (by kernel_rfl) ?_
      obtain ⟨nn69, hR69⟩ := loopO_iff.1 hp54
      refine loopR 1 (fun (x : Nat × Int × Nat) => [(0, .slice A0_0 l_.length c0_0), (4, .int .i64 x.2.1), (10, .slice A0_0 l_.length c0_0), (11, .int .i64 (l_.length : Int)), (12, .int .i64 (x.2.2 : Int))]) (fun (x : Nat × Int × Nat) (wl69 : World) => iter (fun s => table_EncodeIds_l1 l_ s.1 s.2) x.1 (x.2.1, x.2.2) = some y54 ∧ St w noF m m [] wl69) (fun (x : Nat × Int × Nat) => x.1) (nn69, (-1), 0) (by kernel_rfl) (by kernel_rfl) (by kernel_rfl) ?_ ?_
      · exact ⟨hR69, H⟩
      rintro ⟨n69, last, t⟩ wl69 ⟨hR69, H⟩
      try dsimp only at hR69
      try dsimp only at H
      obtain ⟨nk69, q69, rfl, hb_69, hnx69, hfin69⟩ := iterE hR69
      replace hb_69 : table_EncodeIds_l1 l_ last t = some q69 := hb_69
      unfold table_EncodeIds_l1 at hb_69
      refine seg 5 [.co [1, 1, 1, 0, 1, 0, 0, 1, 0], .co [1, 1, 1, 0, 1, 0, 0, 1, 1], .le 1, .bl 0, .le 0, .co [1, 1, 1, 1]] [(0, .slice A0_0 l_.length c0_0), (4, .int .i64 last), (10, .slice A0_0 l_.length c0_0), (11, .int .i64 (l_.length : Int)), (12, .int .i64 (t : Int)), (13, .bool (decide ((t : Int) < (l_.length : Int))))] (by kernel_rfl) ?_
      rcases condT hb_69 with ⟨hb71, hb_69⟩ | ⟨hb71, hb_69⟩
      · rw [hb71]
        have p71 := of_decide_eq_true hb71
        refine seg 6 [.op [1, 1, 1, 0, 1, 0, 0, 1, 1, 0, 0, 0] 0, .co [1, 1, 1, 0, 1, 0, 0, 1, 1, 0, 0, 1], .bl 1, .co [1, 1, 1, 0, 1, 0, 0, 1, 1, 1], .le 1, .bl 0, .le 0, .co [1, 1, 1, 1]] [(0, .slice A0_0 l_.length c0_0), (4, .int .i64 last), (10, .slice A0_0 l_.length c0_0), (11, .int .i64 (l_.length : Int)), (12, .int .i64 (t : Int))] (by kernel_rfl) ?_
        obtain ⟨x_, h_x_, hb_69⟩ := bindE hb_69
        obtain ⟨ad73, _, ea73, rfl, hc73⟩ := s0_0.at_ h_x_ (by decide)
        refine st (idxS (some 14) 22 3 1 A0_0 ad73 l_.length c0_0 .i64 (t : Int) ea73 (by kernel_rfl) (by kernel_rfl) (by omega) (by have := (List.getElem?_eq_some_iff.1 h_x_).1; omega) ?_)
        refine st (ldR (some 15) 3 (ad73.add (t * 1)) (.int .i64 x_) (by kernel_rfl) (by kernel_rfl) (H.cellI (mc0 (hc73 0 _ rfl))) ?_)
        refine seg 9 [.op [1, 1, 1, 0, 1, 0, 0, 1, 1, 0, 0, 1, 0, 0] 4, .co [1, 1, 1, 0, 1, 0, 0, 1, 1, 0, 0, 1, 0, 1], .co [1, 1, 1, 0, 1, 0, 0, 1, 1, 0, 0, 1, 1], .bl 1, .co [1, 1, 1, 0, 1, 0, 0, 1, 1, 1], .le 1, .bl 0, .le 0, .co [1, 1, 1, 1]] [(0, .slice A0_0 l_.length c0_0), (6, .int .i64 x_), (10, .slice A0_0 l_.length c0_0), (11, .int .i64 (l_.length : Int)), (12, .int .i64 (t : Int)), (19, .bool (decide (x_ ≤ last)))] (by kernel_rfl) ?_
        rcases condT hb_69 with ⟨hb74, hb_69⟩ | ⟨hb74, hb_69⟩
        · rw [hb74]
          have p74 := of_decide_eq_true hb74
          refine seg 10 [.co [1, 1, 1, 0, 1, 0, 0, 1, 1, 0, 0, 1, 0, 1, 0, 1], .co [1, 1, 1, 0, 1, 0, 0, 1, 1, 0, 0, 1, 1], .bl 1, .co [1, 1, 1, 0, 1, 0, 0, 1, 1, 1], .le 1, .bl 0, .le 0, .co [1, 1, 1, 1]] [(2, .slice none 0 0), (3, .int .i64 1)] (by kernel_rfl) ?_
          have H := H.nilR rU8 5
          refine retR [2, 3] [.slice none 0 0, .int .i64 1] (by kernel_rfl) (by kernel_rfl) (by kernel_rfl) ?_
          obtain rfl : ([], 1) = r := (hfr54 _ (hfin69 _ (Option.some.inj hb_69).symm).symm)
          exact ⟨_, rfl, none, 0, m, rfl, H⟩
        · rw [hb74]
          have p74 := of_decide_eq_false hb74
          refine seg 4 [.co [1, 1, 1, 0, 1, 0, 0, 1, 1, 0, 0, 1, 0, 1], .co [1, 1, 1, 0, 1, 0, 0, 1, 1, 0, 0, 1, 1], .bl 1, .co [1, 1, 1, 0, 1, 0, 0, 1, 1, 1], .le 1, .bl 0, .le 0, .co [1, 1, 1, 1]] [(0, .slice A0_0 l_.length c0_0), (6, .int .i64 x_), (10, .slice A0_0 l_.length c0_0), (11, .int .i64 (l_.length : Int)), (12, .int .i64 (t : Int)), (22, .bool (decide (x_ > 4294967295)))] (by kernel_rfl) ?_
          rcases condT hb_69 with ⟨hb75, hb_69⟩ | ⟨hb75, hb_69⟩
          · rw [hb75]
            have p75 := of_decide_eq_true hb75
            refine seg 6 [.co [1, 1, 1, 0, 1, 0, 0, 1, 1, 0, 0, 1, 0, 1, 0, 1], .co [1, 1, 1, 0, 1, 0, 0, 1, 1, 0, 0, 1, 1], .bl 1, .co [1, 1, 1, 0, 1, 0, 0, 1, 1, 1], .le 1, .bl 0, .le 0, .co [1, 1, 1, 1]] [(2, .slice none 0 0), (3, .int .i64 1)] (by kernel_rfl) ?_
            have H := H.nilR rU8 5
            refine retR [2, 3] [.slice none 0 0, .int .i64 1] (by kernel_rfl) (by kernel_rfl) (by kernel_rfl) ?_
            obtain rfl : ([], 1) = r := (hfr54 _ (hfin69 _ (Option.some.inj hb_69).symm).symm)
            exact ⟨_, rfl, none, 0, m, rfl, H⟩
          · rw [hb75]
            have p75 := of_decide_eq_false hb75
            refine seg 11 [.le 1, .bl 0, .le 0, .co [1, 1, 1, 1]] [(0, .slice A0_0 l_.length c0_0), (4, .int .i64 x_), (10, .slice A0_0 l_.length c0_0), (11, .int .i64 (l_.length : Int)), (12, .int .i64 (IntKind.i64.wrap ((t : Int) + 1)))] (by kernel_rfl) ?_
            have := s0_0.bound
            rw [show IntKind.i64.wrap ((t : Int) + 1) = ((t : Int) + 1) from w64 (by omega)]
            refine leR (nk69, x_, (t + 1)) (Nat.lt_succ_self _) ⟨hnx69 _ (Option.some.inj hb_69).symm, H⟩ (by kernel_rfl)
      · rw [hb71]
        have p71 := of_decide_eq_false hb71
        refine seg 2 [.le 0, .co [1, 1, 1, 1]] [(0, .slice A0_0 l_.length c0_0)] (by kernel_rfl) ?_
        refine leR_up (k' := []) (by rfl) ?_
        refine leJ () ⟨(hfin69 _ (Option.some.inj hb_69).symm).symm, H⟩ (by kernel_rfl)
    rintro _ wj54 ⟨hy54, H⟩
    have hf := hfl54 _ hy54
    try dsimp only at hf
    refine seg 3 [.op [1, 1, 1, 1, 0] 1, .co [1, 1, 1, 1, 1]] [(25, .slice A0_0 l_.length c0_0)] (by kernel_rfl) ?_
    obtain ⟨writei, h_writei, hf⟩ := bindE hf
    refine st (callR (some 26) 33 #[.slice A0_0 l_.length c0_0, .func (.func 34) #[] #[]] Try.call33 (table_write0_c H.has l_ A0_0 c0_0 s0_0 h_writei) (by kernel_rfl) ?_)
    rintro _ w76 ⟨A76_0, c76_0, mk76, rfl, hS76⟩
    have hsub76 := hS76.sub
    replace H := H.call0 hS76
    refine seg 3 [.co [1, 1, 1, 1, 1]] [(2, .slice A76_0 writei.length c76_0), (3, .int .i64 0)] (by kernel_rfl) ?_
    refine retR [2, 3] [.slice A76_0 writei.length c76_0, .int .i64 0] (by kernel_rfl) (by kernel_rfl) (by kernel_rfl) ?_
    obtain rfl : (writei, 0) = r := (Option.some.inj hf)
    exact ⟨_, rfl, A76_0, c76_0, mk76, rfl, H⟩
theorem ref17_RightIds_c {m : Mem} {w : World} (hm : Has m w) (l_ : (List Int)) (A0_0 : Option Addr) (c0_0 : Nat) (s0_0 : SlI rI64 m A0_0 c0_0 l_) {r : Bool} (hf : ref17_RightIds l_ = some r) :
    Calls Try.prog 14 #[.slice A0_0 l_.length c0_0] w fun e w' => ∃ v, e = .returned v ∧ v = .bool r ∧ Ex w w' := by
  unfold ref17_RightIds at hf
  have H := St.start0 hm
  refine callsR Try.func14 (by kernel_rfl) (by kernel_rfl) ?_
  refine seg 9 [.co [1, 0, 1], .co [1, 1]] [(0, .slice A0_0 l_.length c0_0), (3, .int .i64 0)] (by kernel_rfl) ?_
  obtain ⟨y167, hp167, hfl167, hfr167⟩ := bndE hf
  refine joinR 0 (fun (x : Unit) => [(0, .slice A0_0 l_.length c0_0)]) (fun (x : Unit) (wj167 : World) => y167 = .inl () ∧ St w noF m m [] wj167) (by kernel_rfl) ?_ ?_
  · refine seg 1 [.co [1, 0, 1, 0], .bl 0, .le 0, .co [1, 1]] [(0, .slice A0_0 l_.length c0_0), (3, .int .i64 0)] (by kernel_rfl) ?_
    obtain ⟨nn205, hR205⟩ := loopO_iff.1 hp167
    refine loopR 1 (fun (x : Nat × Nat) => [(0, .slice A0_0 l_.length c0_0), (3, .int .i64 (x.2 : Int))]) (fun (x : Nat × Nat) (wl205 : World) => iter (fun s => ref17_RightIds_l1 l_ s) x.1 x.2 = some y167 ∧ St w noF m m [] wl205) (fun (x : Nat × Nat) => x.1) (nn205, 0) (by kernel_rfl) (by kernel_rfl) (by kernel_rfl) ?_ ?_
    · exact ⟨hR205, H⟩
    rintro ⟨n205, i⟩ wl205 ⟨hR205, H⟩
    try dsimp only at hR205
    try dsimp only at H
    obtain ⟨nk205, q205, rfl, hb_205, hnx205, hfin205⟩ := iterE hR205
    replace hb_205 : ref17_RightIds_l1 l_ i = some q205 := hb_205
    unfold ref17_RightIds_l1 at hb_205
    refine seg 8 [.co [1, 0, 1, 0, 0, 0, 1], .co [1, 0, 1, 0, 0, 1], .le 1, .bl 0, .le 0, .co [1, 1]] [(0, .slice A0_0 l_.length c0_0), (3, .int .i64 (i : Int)), (7, .bool (decide ((i : Int) < (l_.length : Int))))] (by kernel_rfl) ?_
    rcases condT hb_205 with ⟨hb207, hb_205⟩ | ⟨hb207, hb_205⟩
    · rw [hb207]
      have p207 := of_decide_eq_true hb207
      refine seg 5 [.co [1, 0, 1, 0, 0, 1, 0, 0, 0], .co [1, 0, 1, 0, 0, 1, 0, 0, 1], .bl 1, .co [1, 0, 1, 0, 0, 1, 1], .le 1, .bl 0, .le 0, .co [1, 1]] [(0, .slice A0_0 l_.length c0_0), (3, .int .i64 (i : Int))] (by kernel_rfl) ?_
      obtain ⟨x_, h_x_, hb_205⟩ := bindE hb_205
      rcases condT hb_205 with ⟨hb210, hb_205⟩ | ⟨hb210, hb_205⟩
      · have p210 := of_decide_eq_true hb210
        have hst : statB (bodyOf Try.f14) [1, 0, 1, 0, 0, 1, 0, 0, 0] = true := by kernel_rfl
        refine drawS (Has m) H (by kernel_rfl) (by kernel_rfl) ?_
        intro w213 H
        refine segD2 hst [0, 1] [0, 1] [(0, .slice A0_0 l_.length c0_0), (3, .int .i64 (i : Int)), (10, .slice A0_0 l_.length c0_0), (11, .int .i64 (i : Int))] (by kernel_rfl) ?_
        obtain ⟨ad214, _, ea214, rfl, hc214⟩ := s0_0.at_ h_x_ (by decide)
        refine stD2 (i := 2) (by kernel_rfl) H.has (idxS (some 12) 22 3 1 A0_0 ad214 l_.length c0_0 .i64 (i : Int) ea214 (by kernel_rfl) (by kernel_rfl) (by omega) (by have := (List.getElem?_eq_some_iff.1 h_x_).1; omega) ?_)
        refine stD2 (i := 3) (by kernel_rfl) H.has (ldR (some 13) 3 (ad214.add (i * 1)) (.int .i64 x_) (by kernel_rfl) (by kernel_rfl) (H.cellI (mc0 (hc214 0 _ rfl))) ?_)
        refine segD2 hst [4] [0, 1, 2, 3, 4] [(0, .slice A0_0 l_.length c0_0), (3, .int .i64 (i : Int)), (14, .bool (decide (x_ < 0)))] (by kernel_rfl) ?_
        rw [show (decide (x_ < 0)) = true from hb210]
        refine segD2 hst [5, 6, 7, 8, 9, 10, 11, 12, 13, 14, 15, 16, 17, 18, 19, 20, 21, 22, 23, 24, 25, 26, 27] [0, 1, 2, 3, 4, 5, 6, 7, 8, 9, 10, 11, 12, 13, 14, 15, 16, 17, 18, 19, 20, 21, 22, 23, 24, 25, 26, 27] [(0, .slice A0_0 l_.length c0_0), (3, .int .i64 (i : Int)), (37, .bool true)] (by kernel_rfl) ?_
        refine endD2 (by kernel_rfl) H.has ?_
        refine seg 5 [.co [1, 0, 1, 0, 0, 1, 0, 0, 1, 0, 1], .bl 1, .co [1, 0, 1, 0, 0, 1, 1], .le 1, .bl 0, .le 0, .co [1, 1]] [(2, .bool false)] (by kernel_rfl) ?_
        refine retR [2] [.bool false] (by kernel_rfl) (by kernel_rfl) (by kernel_rfl) ?_
        have hret := (hfr167 _ (hfin205 _ (Option.some.inj hb_205).symm).symm)
        subst hret
        exact ⟨_, rfl, rfl, H.scalar⟩
      · have p210 := of_decide_eq_false hb210
        rcases condT hb_205 with ⟨hb217, hb_205⟩ | ⟨hb217, hb_205⟩
        · have p217 := of_decide_eq_true hb217
          have hst : statB (bodyOf Try.f14) [1, 0, 1, 0, 0, 1, 0, 0, 0] = true := by kernel_rfl
          refine drawS (Has m) H (by kernel_rfl) (by kernel_rfl) ?_
          intro w220 H
          refine segD2 hst [0, 1] [0, 1] [(0, .slice A0_0 l_.length c0_0), (3, .int .i64 (i : Int)), (10, .slice A0_0 l_.length c0_0), (11, .int .i64 (i : Int))] (by kernel_rfl) ?_
          obtain ⟨ad221, _, ea221, rfl, hc221⟩ := s0_0.at_ h_x_ (by decide)
          refine stD2 (i := 2) (by kernel_rfl) H.has (idxS (some 12) 22 3 1 A0_0 ad221 l_.length c0_0 .i64 (i : Int) ea221 (by kernel_rfl) (by kernel_rfl) (by omega) (by have := (List.getElem?_eq_some_iff.1 h_x_).1; omega) ?_)
          refine stD2 (i := 3) (by kernel_rfl) H.has (ldR (some 13) 3 (ad221.add (i * 1)) (.int .i64 x_) (by kernel_rfl) (by kernel_rfl) (H.cellI (mc0 (hc221 0 _ rfl))) ?_)
          refine segD2 hst [4] [0, 1, 2, 3, 4] [(0, .slice A0_0 l_.length c0_0), (3, .int .i64 (i : Int)), (14, .bool (decide (x_ < 0)))] (by kernel_rfl) ?_
          rw [show (decide (x_ < 0)) = false from hb210]
          refine segD2 hst [5, 6, 7] [0, 1, 2, 3, 4, 5, 6, 7] [(0, .slice A0_0 l_.length c0_0), (3, .int .i64 (i : Int)), (15, .bool false), (16, .slice A0_0 l_.length c0_0), (17, .int .i64 (i : Int))] (by kernel_rfl) ?_
          refine stD2 (i := 8) (by kernel_rfl) H.has (idxS (some 18) 22 3 1 A0_0 ad221 l_.length c0_0 .i64 (i : Int) ea221 (by kernel_rfl) (by kernel_rfl) (by omega) (by have := (List.getElem?_eq_some_iff.1 h_x_).1; omega) ?_)
          refine stD2 (i := 9) (by kernel_rfl) H.has (ldR (some 19) 3 (ad221.add (i * 1)) (.int .i64 x_) (by kernel_rfl) (by kernel_rfl) (H.cellI (mc0 (hc221 0 _ rfl))) ?_)
          refine segD2 hst [10] [0, 1, 2, 3, 4, 5, 6, 7, 8, 9, 10] [(0, .slice A0_0 l_.length c0_0), (3, .int .i64 (i : Int)), (15, .bool false), (20, .bool (decide (x_ > 4294967295)))] (by kernel_rfl) ?_
          rw [show (decide (x_ > 4294967295)) = true from hb217]
          refine segD2 hst [11, 12, 13, 14, 15, 16, 17, 18, 19, 20, 21, 22, 23, 24, 25, 26, 27] [0, 1, 2, 3, 4, 5, 6, 7, 8, 9, 10, 11, 12, 13, 14, 15, 16, 17, 18, 19, 20, 21, 22, 23, 24, 25, 26, 27] [(0, .slice A0_0 l_.length c0_0), (3, .int .i64 (i : Int)), (37, .bool true)] (by kernel_rfl) ?_
          refine endD2 (by kernel_rfl) H.has ?_
          refine seg 5 [.co [1, 0, 1, 0, 0, 1, 0, 0, 1, 0, 1], .bl 1, .co [1, 0, 1, 0, 0, 1, 1], .le 1, .bl 0, .le 0, .co [1, 1]] [(2, .bool false)] (by kernel_rfl) ?_
          refine retR [2] [.bool false] (by kernel_rfl) (by kernel_rfl) (by kernel_rfl) ?_
          have hret := (hfr167 _ (hfin205 _ (Option.some.inj hb_205).symm).symm)
          subst hret
          exact ⟨_, rfl, rfl, H.scalar⟩
        · have p217 := of_decide_eq_false hb217
          rcases condT hb_205 with ⟨hb224, hb_205⟩ | ⟨hb224, hb_205⟩
          · have p224 := of_decide_eq_true hb224
            obtain ⟨x_1, h_x_1, hb_205⟩ := bindE hb_205
            obtain ⟨i0227, i1227, ix227⟩ := idx_some h_x_1
            have hst : statB (bodyOf Try.f14) [1, 0, 1, 0, 0, 1, 0, 0, 0] = true := by kernel_rfl
            refine drawS (Has m) H (by kernel_rfl) (by kernel_rfl) ?_
            intro w229 H
            refine segD2 hst [0, 1] [0, 1] [(0, .slice A0_0 l_.length c0_0), (3, .int .i64 (i : Int)), (10, .slice A0_0 l_.length c0_0), (11, .int .i64 (i : Int))] (by kernel_rfl) ?_
            obtain ⟨ad230, _, ea230, rfl, hc230⟩ := s0_0.at_ h_x_ (by decide)
            refine stD2 (i := 2) (by kernel_rfl) H.has (idxS (some 12) 22 3 1 A0_0 ad230 l_.length c0_0 .i64 (i : Int) ea230 (by kernel_rfl) (by kernel_rfl) (by omega) (by have := (List.getElem?_eq_some_iff.1 h_x_).1; omega) ?_)
            refine stD2 (i := 3) (by kernel_rfl) H.has (ldR (some 13) 3 (ad230.add (i * 1)) (.int .i64 x_) (by kernel_rfl) (by kernel_rfl) (H.cellI (mc0 (hc230 0 _ rfl))) ?_)
            refine segD2 hst [4] [0, 1, 2, 3, 4] [(0, .slice A0_0 l_.length c0_0), (3, .int .i64 (i : Int)), (14, .bool (decide (x_ < 0)))] (by kernel_rfl) ?_
            rw [show (decide (x_ < 0)) = false from hb210]
            refine segD2 hst [5, 6, 7] [0, 1, 2, 3, 4, 5, 6, 7] [(0, .slice A0_0 l_.length c0_0), (3, .int .i64 (i : Int)), (15, .bool false), (16, .slice A0_0 l_.length c0_0), (17, .int .i64 (i : Int))] (by kernel_rfl) ?_
            refine stD2 (i := 8) (by kernel_rfl) H.has (idxS (some 18) 22 3 1 A0_0 ad230 l_.length c0_0 .i64 (i : Int) ea230 (by kernel_rfl) (by kernel_rfl) (by omega) (by have := (List.getElem?_eq_some_iff.1 h_x_).1; omega) ?_)
            refine stD2 (i := 9) (by kernel_rfl) H.has (ldR (some 19) 3 (ad230.add (i * 1)) (.int .i64 x_) (by kernel_rfl) (by kernel_rfl) (H.cellI (mc0 (hc230 0 _ rfl))) ?_)
            refine segD2 hst [10] [0, 1, 2, 3, 4, 5, 6, 7, 8, 9, 10] [(0, .slice A0_0 l_.length c0_0), (3, .int .i64 (i : Int)), (15, .bool false), (20, .bool (decide (x_ > 4294967295)))] (by kernel_rfl) ?_
            rw [show (decide (x_ > 4294967295)) = false from hb217]
            refine segD2 hst [11, 12, 13, 14] [0, 1, 2, 3, 4, 5, 6, 7, 8, 9, 10, 11, 12, 13, 14] [(0, .slice A0_0 l_.length c0_0), (3, .int .i64 (i : Int)), (22, .bool false), (24, .bool (decide ((i : Int) > 0)))] (by kernel_rfl) ?_
            rw [show (decide ((i : Int) > 0)) = true from hb224]
            refine segD2 hst [15, 16, 17, 20, 21, 22] [0, 1, 2, 3, 4, 5, 6, 7, 8, 9, 10, 11, 12, 13, 14, 15, 16, 17, 20, 21, 22] [(0, .slice A0_0 l_.length c0_0), (3, .int .i64 (i : Int)), (22, .bool false), (25, .bool true), (26, .slice A0_0 l_.length c0_0), (27, .int .i64 (i : Int)), (30, .slice A0_0 l_.length c0_0), (32, .int .i64 (IntKind.i64.wrap ((i : Int) - 1)))] (by kernel_rfl) ?_
            have := s0_0.bound
            rw [show IntKind.i64.wrap ((i : Int) - 1) = ((i : Int) - 1) from w64 (by omega)]
            refine takeD2 (i := 18) (d := (some 28)) (s := vS (Instr.indexAt 22 (.slice A0_0 l_.length c0_0) (.int .i64 (i : Int)))) (v := .pointer (some (ad230.add (i * 1)))) hst (by kernel_rfl) (by kernel_rfl) (fun w' hw' => idx_run 22 3 1 _ ad230 _ _ _ _ _ ea230 (by kernel_rfl) (by omega) (by have := (List.getElem?_eq_some_iff.1 h_x_).1; omega) rfl) ?_
            refine takeD2 (i := 19) (d := (some 29)) (s := vS (Instr.loadAt 3 (.pointer (some (ad230.add (i * 1)))))) (v := (.int .i64 x_)) hst (by kernel_rfl) (by kernel_rfl) (fun w' hw' => ld_run _ _ _ (by kernel_rfl) (hw'.cell (mc0 (hc230 0 _ rfl)))) ?_
            obtain ⟨ad231, _, ea231, rfl, hc231⟩ := s0_0.at_ ix227 (by decide)
            refine stD2 (i := 23) (by kernel_rfl) H.has (idxS (some 33) 22 3 1 A0_0 ad231 l_.length c0_0 .i64 ((i : Int) - 1) ea231 (by kernel_rfl) (by kernel_rfl) i0227 i1227 ?_)
            refine stD2 (i := 24) (by kernel_rfl) H.has (ldR (some 34) 3 (ad231.add (((i : Int) - 1).toNat * 1)) (.int .i64 x_1) (by kernel_rfl) (by kernel_rfl) (H.cellI (mc0 (hc231 0 _ rfl))) ?_)
            refine segD2 hst [25] [0, 1, 2, 3, 4, 5, 6, 7, 8, 9, 10, 11, 12, 13, 14, 15, 16, 17, 20, 21, 22, 18, 19, 23, 24, 25] [(0, .slice A0_0 l_.length c0_0), (3, .int .i64 (i : Int)), (22, .bool false), (25, .bool true), (35, .bool (decide (x_ ≤ x_1)))] (by kernel_rfl) ?_
            refine segD2 hst [26] [0, 1, 2, 3, 4, 5, 6, 7, 8, 9, 10, 11, 12, 13, 14, 15, 16, 17, 20, 21, 22, 18, 19, 23, 24, 25, 26] [(0, .slice A0_0 l_.length c0_0), (3, .int .i64 (i : Int)), (22, .bool false), (36, .bool (decide (x_ ≤ x_1)))] (by kernel_rfl) ?_
            refine segD2 hst [27] [0, 1, 2, 3, 4, 5, 6, 7, 8, 9, 10, 11, 12, 13, 14, 15, 16, 17, 20, 21, 22, 18, 19, 23, 24, 25, 26, 27] [(0, .slice A0_0 l_.length c0_0), (3, .int .i64 (i : Int)), (37, .bool (decide (x_ ≤ x_1)))] (by kernel_rfl) ?_
            refine endD2 (by kernel_rfl) H.has ?_
            rcases condT hb_205 with ⟨hb232, hb_205⟩ | ⟨hb232, hb_205⟩
            · rw [hb232]
              have p232 := of_decide_eq_true hb232
              refine seg 5 [.co [1, 0, 1, 0, 0, 1, 0, 0, 1, 0, 1], .bl 1, .co [1, 0, 1, 0, 0, 1, 1], .le 1, .bl 0, .le 0, .co [1, 1]] [(2, .bool false)] (by kernel_rfl) ?_
              refine retR [2] [.bool false] (by kernel_rfl) (by kernel_rfl) (by kernel_rfl) ?_
              have hret := (hfr167 _ (hfin205 _ (Option.some.inj hb_205).symm).symm)
              subst hret
              exact ⟨_, rfl, rfl, H.scalar⟩
            · rw [hb232]
              have p232 := of_decide_eq_false hb232
              refine seg 8 [.le 1, .bl 0, .le 0, .co [1, 1]] [(0, .slice A0_0 l_.length c0_0), (3, .int .i64 (IntKind.i64.wrap ((i : Int) + 1)))] (by kernel_rfl) ?_
              have := s0_0.bound
              rw [show IntKind.i64.wrap ((i : Int) + 1) = ((i : Int) + 1) from w64 (by omega)]
              refine leR (nk205, (i + 1)) (Nat.lt_succ_self _) ⟨hnx205 _ (Option.some.inj hb_205).symm, H⟩ (by kernel_rfl)
          · have p224 := of_decide_eq_false hb224
            have hst : statB (bodyOf Try.f14) [1, 0, 1, 0, 0, 1, 0, 0, 0] = true := by kernel_rfl
            refine drawS (Has m) H (by kernel_rfl) (by kernel_rfl) ?_
            intro w235 H
            refine segD2 hst [0, 1] [0, 1] [(0, .slice A0_0 l_.length c0_0), (3, .int .i64 (i : Int)), (10, .slice A0_0 l_.length c0_0), (11, .int .i64 (i : Int))] (by kernel_rfl) ?_
            obtain ⟨ad236, _, ea236, rfl, hc236⟩ := s0_0.at_ h_x_ (by decide)
            refine stD2 (i := 2) (by kernel_rfl) H.has (idxS (some 12) 22 3 1 A0_0 ad236 l_.length c0_0 .i64 (i : Int) ea236 (by kernel_rfl) (by kernel_rfl) (by omega) (by have := (List.getElem?_eq_some_iff.1 h_x_).1; omega) ?_)
            refine stD2 (i := 3) (by kernel_rfl) H.has (ldR (some 13) 3 (ad236.add (i * 1)) (.int .i64 x_) (by kernel_rfl) (by kernel_rfl) (H.cellI (mc0 (hc236 0 _ rfl))) ?_)
            refine segD2 hst [4] [0, 1, 2, 3, 4] [(0, .slice A0_0 l_.length c0_0), (3, .int .i64 (i : Int)), (14, .bool (decide (x_ < 0)))] (by kernel_rfl) ?_
            rw [show (decide (x_ < 0)) = false from hb210]
            refine segD2 hst [5, 6, 7] [0, 1, 2, 3, 4, 5, 6, 7] [(0, .slice A0_0 l_.length c0_0), (3, .int .i64 (i : Int)), (15, .bool false), (16, .slice A0_0 l_.length c0_0), (17, .int .i64 (i : Int))] (by kernel_rfl) ?_
            refine stD2 (i := 8) (by kernel_rfl) H.has (idxS (some 18) 22 3 1 A0_0 ad236 l_.length c0_0 .i64 (i : Int) ea236 (by kernel_rfl) (by kernel_rfl) (by omega) (by have := (List.getElem?_eq_some_iff.1 h_x_).1; omega) ?_)
            refine stD2 (i := 9) (by kernel_rfl) H.has (ldR (some 19) 3 (ad236.add (i * 1)) (.int .i64 x_) (by kernel_rfl) (by kernel_rfl) (H.cellI (mc0 (hc236 0 _ rfl))) ?_)
            refine segD2 hst [10] [0, 1, 2, 3, 4, 5, 6, 7, 8, 9, 10] [(0, .slice A0_0 l_.length c0_0), (3, .int .i64 (i : Int)), (15, .bool false), (20, .bool (decide (x_ > 4294967295)))] (by kernel_rfl) ?_
            rw [show (decide (x_ > 4294967295)) = false from hb217]
            refine segD2 hst [11, 12, 13, 14] [0, 1, 2, 3, 4, 5, 6, 7, 8, 9, 10, 11, 12, 13, 14] [(0, .slice A0_0 l_.length c0_0), (3, .int .i64 (i : Int)), (22, .bool false), (24, .bool (decide ((i : Int) > 0)))] (by kernel_rfl) ?_
            rw [show (decide ((i : Int) > 0)) = false from hb224]
            refine segD2 hst [15, 16, 17, 18, 19, 20, 21, 22, 23, 24, 25, 26, 27] [0, 1, 2, 3, 4, 5, 6, 7, 8, 9, 10, 11, 12, 13, 14, 15, 16, 17, 18, 19, 20, 21, 22, 23, 24, 25, 26, 27] [(0, .slice A0_0 l_.length c0_0), (3, .int .i64 (i : Int)), (37, .bool false)] (by kernel_rfl) ?_
            refine endD2 (by kernel_rfl) H.has ?_
            refine seg 8 [.le 1, .bl 0, .le 0, .co [1, 1]] [(0, .slice A0_0 l_.length c0_0), (3, .int .i64 (IntKind.i64.wrap ((i : Int) + 1)))] (by kernel_rfl) ?_
            have := s0_0.bound
            rw [show IntKind.i64.wrap ((i : Int) + 1) = ((i : Int) + 1) from w64 (by omega)]
            refine leR (nk205, (i + 1)) (Nat.lt_succ_self _) ⟨hnx205 _ (Option.some.inj hb_205).symm, H⟩ (by kernel_rfl)
    · rw [hb207]
      have p207 := of_decide_eq_false hb207
      refine seg 2 [.le 0, .co [1, 1]] [(0, .slice A0_0 l_.length c0_0)] (by kernel_rfl) ?_
      refine leR_up (k' := []) (by rfl) ?_
      refine leJ () ⟨(hfin205 _ (Option.some.inj hb_205).symm).symm, H⟩ (by kernel_rfl)
  rintro _ wj167 ⟨hy167, H⟩
  have hf := hfl167 _ hy167
  try dsimp only at hf
  refine seg 7 [.co [1, 1, 1]] [(2, .bool (decide ((l_.length : Int) ≤ 65536)))] (by kernel_rfl) ?_
  refine retR [2] [.bool (decide ((l_.length : Int) ≤ 65536))] (by kernel_rfl) (by kernel_rfl) (by kernel_rfl) ?_
  obtain rfl : (decide ((l_.length : Int) ≤ 65536)) = r := (Option.some.inj hf)
  exact ⟨_, rfl, rfl, H.scalar⟩
theorem field_NewReader_c {m : Mem} {w : World} (hm : Has m w) (b : (List UInt8)) (A0_0 : Option Addr) (c0_0 : Nat) (s0_0 : SlI rU8 m A0_0 c0_0 b) {r : TFieldReader} (hf : field_NewReader b = some r) :
    Calls Try.prog 47 #[.slice A0_0 b.length c0_0] w fun e w' => ∃ v, e = .returned v ∧ ∃ gz_0 : Nat, ∃ Az_0_0 : Option Addr, ∃ cz_0_0 : Nat, ∃ m' : Mem, v = .pointer (some (⟨gz_0, 0, none⟩)) ∧ St w noF m m' [blkI gz_0 [.slice Az_0_0 r.f_b.length cz_0_0, .int .i64 r.f_at, .int .i64 r.f_e] 114] w' ∧ SlI rU8 m' Az_0_0 cz_0_0 r.f_b := by
  unfold field_NewReader at hf
  have H := St.start0 hm
  refine callsR Try.func47 (by kernel_rfl) (by kernel_rfl) ?_
  refine seg 7 [.op [1, 0] 1, .co [1, 1]] [(3, .slice A0_0 b.length c0_0)] (by kernel_rfl) ?_
  obtain ⟨copied, h_copied, hf⟩ := bindE hf
  refine st (callR (some 4) 71 #[.slice A0_0 b.length c0_0] Try.call71 (field_copied_c H.has b A0_0 c0_0 s0_0 h_copied) (by kernel_rfl) ?_)
  rintro _ w1 ⟨A1_0, c1_0, mk1, rfl, hS1⟩
  have hsub1 := hS1.sub
  replace H := H.call0 hS1
  refine seg 1 [.op [1, 0] 3, .co [1, 1]] [(5, .agg #[.slice A1_0 copied.length c1_0, .int .i64 0, .int .i64 0])] (by kernel_rfl) ?_
  refine st (newS (some 6) (fun g => .pointer (some ⟨g, 0, none⟩)) [.slice A1_0 copied.length c1_0, .int .i64 0, .int .i64 0] 114 H (by kernel_rfl) ?_)
  intro g2 w2 H
  refine seg 2 [.co [1, 1]] [(2, .pointer (some (⟨g2, 0, none⟩)))] (by kernel_rfl) ?_
  obtain ⟨mf3, hsub3, hsf3, H⟩ := H.fixR 1 rfl
  refine retR [2] [.pointer (some (⟨g2, 0, none⟩))] (by kernel_rfl) (by kernel_rfl) (by kernel_rfl) ?_
  obtain rfl : ({ f_b := copied, f_at := 0, f_e := 0 } : TFieldReader) = r := (Option.some.inj hf)
  exact ⟨_, rfl, g2, A1_0, c1_0, mf3, rfl, H, hsf3⟩
theorem field_Reader_Left_c {m : Mem} {w : World} (hm : Has m w) (g0 : Nat) (r_ : TFieldReader) (A0_0 : Option Addr) (c0_0 : Nat) (s0_0 : SlI rU8 m A0_0 c0_0 r_.f_b) {F : Nat → Prop} (hsep : Sep m w [blkI g0 [.slice A0_0 r_.f_b.length c0_0, .int .i64 r_.f_at, .int .i64 r_.f_e] 114] F) (hF : ∀ k, F k → m k = none) {r : Int} (hf : field_Reader_Left r_ = some r) :
    Calls Try.prog 67 #[.pointer (some (⟨g0, 0, none⟩))] w fun e w' => ∃ v, e = .returned v ∧ ∃ m' : Mem, v = .int .i64 r ∧ St w F m m' [blkI g0 [.slice A0_0 r_.f_b.length c0_0, .int .i64 r_.f_at, .int .i64 r_.f_e] 114] w' := by
  unfold field_Reader_Left at hf
  have H := St.start hm hsep hF
  refine callsR Try.func67 (by kernel_rfl) (by kernel_rfl) ?_
  refine seg 13 [.co [1, 1, 0], .co [1, 1, 1]] [(0, .pointer (some (⟨g0, 0, none⟩)))] (by kernel_rfl) ?_
  have hst : statB (bodyOf Try.f67) [1, 1, 0] = true := by kernel_rfl
  refine drawS (fun w' => Has m w' ∧ w'.heap[g0]? = some (.cells [.slice A0_0 r_.f_b.length c0_0, .int .i64 r_.f_at, .int .i64 r_.f_e].toArray 114 (0, 0))) H (by kernel_rfl) (by kernel_rfl) ?_
  intro w1 H
  refine segD2 hst [0, 1, 2, 5, 6, 7] [0, 1, 2, 5, 6, 7] [(7, .pointer (some (⟨g0, 0, none⟩))), (12, .pointer (some (⟨g0, 1, none⟩)))] (by kernel_rfl) ?_
  refine takeD2 (i := 3) (d := (some 8)) (s := vS (Instr.loadAt 29 (.pointer (some (⟨g0, 0, none⟩))))) (v := (.slice A0_0 r_.f_b.length c0_0)) hst (by kernel_rfl) (by kernel_rfl) (fun w' hw' => ld_run _ _ _ (by kernel_rfl) (blk_cell hw'.2 rfl)) ?_
  refine segD2 hst [4] [0, 1, 2, 5, 6, 7, 3, 4] [(9, .int .i64 (r_.f_b.length : Int)), (12, .pointer (some (⟨g0, 1, none⟩)))] (by kernel_rfl) ?_
  refine stD2 (i := 8) (by kernel_rfl) ⟨H.has, H.blk 0 rfl⟩ (ldR (some 13) 3 (⟨g0, 1, none⟩) (.int .i64 r_.f_at) (by kernel_rfl) (by kernel_rfl) (H.cellB 0 rfl rfl) ?_)
  refine segD2 hst [9] [0, 1, 2, 5, 6, 7, 3, 4, 8, 9] [(14, .int .i64 (IntKind.i64.wrap ((r_.f_b.length : Int) - r_.f_at)))] (by kernel_rfl) ?_
  refine segD2 hst [10] [0, 1, 2, 5, 6, 7, 3, 4, 8, 9, 10] [(2, .int .i64 (IntKind.i64.wrap ((r_.f_b.length : Int) - r_.f_at)))] (by kernel_rfl) ?_
  refine endD2 (by kernel_rfl) ⟨H.has, H.blk 0 rfl⟩ ?_
  refine retR [2] [.int .i64 (IntKind.i64.wrap ((r_.f_b.length : Int) - r_.f_at))] (by kernel_rfl) (by kernel_rfl) (by kernel_rfl) ?_
  obtain rfl : (IntKind.i64.wrap ((r_.f_b.length : Int) - r_.f_at)) = r := (Option.some.inj hf)
  exact ⟨_, rfl, m, rfl, H⟩
end Go.Proofs.Ytgoedcjjckdlpaa.F
