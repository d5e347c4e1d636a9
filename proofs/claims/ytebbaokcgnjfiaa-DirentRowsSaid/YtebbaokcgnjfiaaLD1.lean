/- The code computes them: printed by lift.py, part 1. -/
import Derived.Test.YtebbaokcgnjfiaaProg
import Derived.Test.YtebbaokcgnjfiaaLDP
set_option linter.unusedVariables false
set_option linter.unusedSimpArgs false
namespace Go.Proofs.Ytebbaokcgnjfiaa.F
open Go Go.RowKit Go.Proofs.Ytebbaokcgnjfiaa Go.Proofs.Ytebbaokcgnjfiaa.K
set_option maxRecDepth 100000
theorem law16_much_c {m : Mem} {w : World} (hm : Has m w) (l_ : (List TApiKid)) (A0_0 : Option Addr) (c0_0 : Nat) (s0_0 : SlI rApiKid m A0_0 c0_0 l_) {r : Bool} (hf : law16_much l_ = some r) :
    Calls Try.prog 12 #[.slice A0_0 l_.length c0_0] w fun e w' => ∃ v, e = .returned v ∧ v = .bool r ∧ Ex w w' := by
  unfold law16_much at hf
  have H := St.start0 hm
  refine callsR Try.func12 (by kernel_rfl) (by kernel_rfl) ?_
  refine seg 11 [.co [1, 0, 1], .co [1, 1]] [(0, .slice A0_0 l_.length c0_0), (6, .bool (decide ((l_.length : Int) > 700)))] (by kernel_rfl) ?_
  rcases condT hf with ⟨hb2, hf⟩ | ⟨hb2, hf⟩
  · rw [hb2]
    have p2 := of_decide_eq_true hb2
    refine seg 5 [.co [1, 0, 1, 0, 1], .co [1, 1]] [(2, .bool true)] (by kernel_rfl) ?_
    refine retR [2] [.bool true] (by kernel_rfl) (by kernel_rfl) (by kernel_rfl) ?_
    have hret := (Option.some.inj hf)
    subst hret
    exact ⟨_, rfl, rfl, H.scalar⟩
  · rw [hb2]
    have p2 := of_decide_eq_false hb2
    refine seg 7 [.co [1, 1, 0, 1], .co [1, 1, 1]] [(0, .slice A0_0 l_.length c0_0), (3, .int .i64 0)] (by kernel_rfl) ?_
    obtain ⟨y38, hp38, hfl38, hfr38⟩ := bndE hf
    refine joinR 0 (fun (x : Unit) => []) (fun (x : Unit) (wj38 : World) => y38 = .inl () ∧ St w noF m m [] wj38) (by kernel_rfl) ?_ ?_
    · refine seg 1 [.co [1, 1, 0, 1, 0], .bl 0, .le 0, .co [1, 1, 1]] [(0, .slice A0_0 l_.length c0_0), (3, .int .i64 0)] (by kernel_rfl) ?_
      obtain ⟨nn50, hR50⟩ := loopO_iff.1 hp38
      refine loopR 1 (fun (x : Nat × Nat) => [(0, .slice A0_0 l_.length c0_0), (3, .int .i64 (x.2 : Int))]) (fun (x : Nat × Nat) (wl50 : World) => iter (fun s => law16_much_l1 l_ s) x.1 x.2 = some y38 ∧ St w noF m m [] wl50) (fun (x : Nat × Nat) => x.1) (nn50, 0) (by kernel_rfl) (by kernel_rfl) (by kernel_rfl) ?_ ?_
      · exact ⟨hR50, H⟩
      rintro ⟨n50, i⟩ wl50 ⟨hR50, H⟩
      try dsimp only at hR50
      try dsimp only at H
      obtain ⟨nk50, q50, rfl, hb_50, hnx50, hfin50⟩ := iterE hR50
      replace hb_50 : law16_much_l1 l_ i = some q50 := hb_50
      unfold law16_much_l1 at hb_50
      refine seg 8 [.co [1, 1, 0, 1, 0, 0, 0, 1], .co [1, 1, 0, 1, 0, 0, 1], .le 1, .bl 0, .le 0, .co [1, 1, 1]] [(0, .slice A0_0 l_.length c0_0), (3, .int .i64 (i : Int)), (10, .bool (decide ((i : Int) < (l_.length : Int))))] (by kernel_rfl) ?_
      rcases condT hb_50 with ⟨hb52, hb_50⟩ | ⟨hb52, hb_50⟩
      · rw [hb52]
        have p52 := of_decide_eq_true hb52
        refine seg 8 [.op [1, 1, 0, 1, 0, 0, 1, 0, 0, 0] 2, .co [1, 1, 0, 1, 0, 0, 1, 0, 0, 1], .bl 1, .co [1, 1, 0, 1, 0, 0, 1, 1], .le 1, .bl 0, .le 0, .co [1, 1, 1]] [(0, .slice A0_0 l_.length c0_0), (3, .int .i64 (i : Int)), (13, .slice A0_0 l_.length c0_0), (14, .int .i64 (i : Int))] (by kernel_rfl) ?_
        obtain ⟨x_, h_x_, hb_50⟩ := bindE hb_50
        obtain ⟨ad54, _, ea54, ⟨rfl, hl54_0⟩, hc54⟩ := s0_0.at_ h_x_ (by decide)
        refine st (idxS (some 15) 22 28 2 A0_0 ad54 l_.length c0_0 .i64 (i : Int) ea54 (by kernel_rfl) (by kernel_rfl) (by omega) (by have := (List.getElem?_eq_some_iff.1 h_x_).1; omega) ?_)
        refine seg 1 [.op [1, 1, 0, 1, 0, 0, 1, 0, 0, 0] 4, .co [1, 1, 0, 1, 0, 0, 1, 0, 0, 1], .bl 1, .co [1, 1, 0, 1, 0, 0, 1, 1], .le 1, .bl 0, .le 0, .co [1, 1, 1]] [(0, .slice A0_0 l_.length c0_0), (3, .int .i64 (i : Int)), (16, .pointer (some (ad54.add (i * 2))))] (by kernel_rfl) ?_
        refine st (ldR (some 17) 9 (ad54.add (i * 2)) (.string ⟨x_.Name.toArray⟩) (by kernel_rfl) (by kernel_rfl) (H.cellI (mc0 (hc54 0 _ rfl))) ?_)
        refine seg 3 [.co [1, 1, 0, 1, 0, 0, 1, 0, 0, 1], .bl 1, .co [1, 1, 0, 1, 0, 0, 1, 1], .le 1, .bl 0, .le 0, .co [1, 1, 1]] [(0, .slice A0_0 l_.length c0_0), (3, .int .i64 (i : Int)), (19, .bool (decide ((x_.Name.length : Int) > 300)))] (by kernel_rfl) ?_
        rcases condT hb_50 with ⟨hb55, hb_50⟩ | ⟨hb55, hb_50⟩
        · rw [hb55]
          have p55 := of_decide_eq_true hb55
          refine seg 5 [.co [1, 1, 0, 1, 0, 0, 1, 0, 0, 1, 0, 1], .bl 1, .co [1, 1, 0, 1, 0, 0, 1, 1], .le 1, .bl 0, .le 0, .co [1, 1, 1]] [(2, .bool true)] (by kernel_rfl) ?_
          refine retR [2] [.bool true] (by kernel_rfl) (by kernel_rfl) (by kernel_rfl) ?_
          have hret := (hfr38 _ (hfin50 _ (Option.some.inj hb_50).symm).symm)
          subst hret
          exact ⟨_, rfl, rfl, H.scalar⟩
        · rw [hb55]
          have p55 := of_decide_eq_false hb55
          refine seg 8 [.le 1, .bl 0, .le 0, .co [1, 1, 1]] [(0, .slice A0_0 l_.length c0_0), (3, .int .i64 (IntKind.i64.wrap ((i : Int) + 1)))] (by kernel_rfl) ?_
          have := s0_0.bound
          rw [show IntKind.i64.wrap ((i : Int) + 1) = ((i : Int) + 1) from w64 (by omega)]
          refine leR (nk50, (i + 1)) (Nat.lt_succ_self _) ⟨hnx50 _ (Option.some.inj hb_50).symm, H⟩ (by kernel_rfl)
      · rw [hb52]
        have p52 := of_decide_eq_false hb52
        refine seg 2 [.le 0, .co [1, 1, 1]] [] (by kernel_rfl) ?_
        refine leR_up (k' := []) (by rfl) ?_
        refine leJ () ⟨(hfin50 _ (Option.some.inj hb_50).symm).symm, H⟩ (by kernel_rfl)
    rintro _ wj38 ⟨hy38, H⟩
    have hf := hfl38 _ hy38
    try dsimp only at hf
    refine seg 4 [.co [1, 1, 1, 1]] [(2, .bool false)] (by kernel_rfl) ?_
    refine retR [2] [.bool false] (by kernel_rfl) (by kernel_rfl) (by kernel_rfl) ?_
    have hret := (Option.some.inj hf)
    subst hret
    exact ⟨_, rfl, rfl, H.scalar⟩
theorem internal_stringslite_IndexByte_c {m : Mem} {w : World} (hm : Has m w) (s_ : (List UInt8)) (l0_0 : s_.length ≤ 9223372036854775807) (c : UInt8) :
    Calls Try.prog 97 #[.string ⟨s_.toArray⟩, .int .u8 (c.toNat : Int)] w fun e w' => ∃ v, e = .returned v ∧ v = .int .i64 (internal_stringslite_IndexByte s_ c) ∧ Ex w w' := by
  generalize hf : internal_stringslite_IndexByte s_ c = r
  unfold internal_stringslite_IndexByte at hf
  have H := St.start0 hm
  refine callsR Try.func97 (by kernel_rfl) (by kernel_rfl) ?_
  refine seg 8 [.op [1, 0] 2, .co [1, 1]] [(5, .string ⟨s_.toArray⟩), (6, .int .u8 (c.toNat : Int))] (by kernel_rfl) ?_
  refine st (ixbS (some 7) 105 s_ c Try.func105 (by kernel_rfl) (by kernel_rfl) (by kernel_rfl) (by kernel_rfl) (by kernel_rfl) ?_)
  refine seg 2 [.co [1, 1]] [(4, .int .i64 (Lib.indexByte s_ c))] (by kernel_rfl) ?_
  refine retR [4] [.int .i64 (Lib.indexByte s_ c)] (by kernel_rfl) (by kernel_rfl) (by kernel_rfl) ?_
  obtain rfl : (Lib.indexByte s_ c) = r := hf
  exact ⟨_, rfl, rfl, H.scalar⟩
theorem strings_IndexByte_c {m : Mem} {w : World} (hm : Has m w) (s_ : (List UInt8)) (l0_0 : s_.length ≤ 9223372036854775807) (c : UInt8) :
    Calls Try.prog 82 #[.string ⟨s_.toArray⟩, .int .u8 (c.toNat : Int)] w fun e w' => ∃ v, e = .returned v ∧ v = .int .i64 (strings_IndexByte s_ c) ∧ Ex w w' := by
  generalize hf : strings_IndexByte s_ c = r
  unfold strings_IndexByte at hf
  have H := St.start0 hm
  refine callsR Try.func82 (by kernel_rfl) (by kernel_rfl) ?_
  refine seg 8 [.op [1, 0] 2, .co [1, 1]] [(5, .string ⟨s_.toArray⟩), (6, .int .u8 (c.toNat : Int))] (by kernel_rfl) ?_
  refine st (callR (some 7) 97 #[.string ⟨s_.toArray⟩, .int .u8 (c.toNat : Int)] Try.call97 (internal_stringslite_IndexByte_c H.has s_ l0_0 c) (by kernel_rfl) ?_)
  rintro _ w1 ⟨rfl, hx1⟩
  replace H := H.ex hx1
  refine seg 2 [.co [1, 1]] [(4, .int .i64 (internal_stringslite_IndexByte s_ c))] (by kernel_rfl) ?_
  refine retR [4] [.int .i64 (internal_stringslite_IndexByte s_ c)] (by kernel_rfl) (by kernel_rfl) (by kernel_rfl) ?_
  obtain rfl : (internal_stringslite_IndexByte s_ c) = r := hf
  exact ⟨_, rfl, rfl, H.scalar⟩
theorem name_Valid_c {m : Mem} {w : World} (hm : Has m w) (s_ : (List UInt8)) (l0_0 : s_.length ≤ 9223372036854775807) :
    Calls Try.prog 45 #[.string ⟨s_.toArray⟩] w fun e w' => ∃ v, e = .returned v ∧ v = .bool (name_Valid s_) ∧ Ex w w' := by
  generalize hf : name_Valid s_ = r
  unfold name_Valid at hf
  have H := St.start0 hm
  refine callsR Try.func45 (by kernel_rfl) (by kernel_rfl) ?_
  refine seg 9 [.op [1, 0] 3, .co [1, 1]] [(0, .string ⟨s_.toArray⟩), (5, .bool (!((ByteArray.toList ⟨s_.toArray⟩) == (ByteArray.toList ⟨([] : List UInt8).toArray⟩))))] (by kernel_rfl) ?_
  rw [sne_raw s_ ([] : List UInt8)]
  rcases condT hf with ⟨hb8, hf⟩ | ⟨hb8, hf⟩
  · rw [hb8]
    refine seg 5 [.op [1, 0] 8, .co [1, 1]] [(0, .string ⟨s_.toArray⟩), (10, .bool (decide ((s_.length : Int) ≤ 255)))] (by kernel_rfl) ?_
    rcases condT hf with ⟨hb9, hf⟩ | ⟨hb9, hf⟩
    · rw [hb9]
      have p9 := of_decide_eq_true hb9
      refine seg 4 [.op [1, 0] 12, .co [1, 1]] [(0, .string ⟨s_.toArray⟩), (14, .bool (!((ByteArray.toList ⟨s_.toArray⟩) == (ByteArray.toList ⟨([46] : List UInt8).toArray⟩))))] (by kernel_rfl) ?_
      rw [sne_raw s_ ([46] : List UInt8)]
      rcases condT hf with ⟨hb10, hf⟩ | ⟨hb10, hf⟩
      · rw [hb10]
        refine seg 4 [.op [1, 0] 16, .co [1, 1]] [(0, .string ⟨s_.toArray⟩), (18, .bool (!((ByteArray.toList ⟨s_.toArray⟩) == (ByteArray.toList ⟨([46, 46] : List UInt8).toArray⟩))))] (by kernel_rfl) ?_
        rw [sne_raw s_ ([46, 46] : List UInt8)]
        rcases condT hf with ⟨hb11, hf⟩ | ⟨hb11, hf⟩
        · rw [hb11]
          refine seg 1 [.op [1, 0] 17, .co [1, 1]] [(0, .string ⟨s_.toArray⟩), (18, .bool true), (19, .string ⟨s_.toArray⟩)] (by kernel_rfl) ?_
          refine st (callR (some 20) 82 #[.string ⟨s_.toArray⟩, .int .u8 47] Try.call82 (strings_IndexByte_c H.has s_ l0_0 (47 : UInt8)) (by kernel_rfl) ?_)
          rintro _ w12 ⟨rfl, hx12⟩
          replace H := H.ex hx12
          refine seg 3 [.op [1, 0] 21, .co [1, 1]] [(0, .string ⟨s_.toArray⟩), (23, .bool (decide ((strings_IndexByte s_ (47 : UInt8)) < 0)))] (by kernel_rfl) ?_
          rcases condT hf with ⟨hb13, hf⟩ | ⟨hb13, hf⟩
          · rw [hb13]
            have p13 := of_decide_eq_true hb13
            refine seg 1 [.op [1, 0] 22, .co [1, 1]] [(23, .bool true), (24, .string ⟨s_.toArray⟩)] (by kernel_rfl) ?_
            refine st (callR (some 25) 82 #[.string ⟨s_.toArray⟩, .int .u8 0] Try.call82 (strings_IndexByte_c H.has s_ l0_0 (0 : UInt8)) (by kernel_rfl) ?_)
            rintro _ w14 ⟨rfl, hx14⟩
            replace H := H.ex hx14
            refine seg 4 [.co [1, 1]] [(2, .bool (decide ((strings_IndexByte s_ (0 : UInt8)) < 0)))] (by kernel_rfl) ?_
            refine retR [2] [.bool (decide ((strings_IndexByte s_ (0 : UInt8)) < 0))] (by kernel_rfl) (by kernel_rfl) (by kernel_rfl) ?_
            obtain rfl : (decide ((strings_IndexByte s_ (0 : UInt8)) < 0)) = r := hf
            exact ⟨_, rfl, rfl, H.scalar⟩
          · rw [hb13]
            have p13 := of_decide_eq_false hb13
            refine seg 6 [.co [1, 1]] [(2, .bool false)] (by kernel_rfl) ?_
            refine retR [2] [.bool false] (by kernel_rfl) (by kernel_rfl) (by kernel_rfl) ?_
            have hret := hf
            subst hret
            exact ⟨_, rfl, rfl, H.scalar⟩
        · rw [hb11]
          refine seg 11 [.co [1, 1]] [(2, .bool false)] (by kernel_rfl) ?_
          refine retR [2] [.bool false] (by kernel_rfl) (by kernel_rfl) (by kernel_rfl) ?_
          have hret := hf
          subst hret
          exact ⟨_, rfl, rfl, H.scalar⟩
      · rw [hb10]
        refine seg 15 [.co [1, 1]] [(2, .bool false)] (by kernel_rfl) ?_
        refine retR [2] [.bool false] (by kernel_rfl) (by kernel_rfl) (by kernel_rfl) ?_
        have hret := hf
        subst hret
        exact ⟨_, rfl, rfl, H.scalar⟩
    · rw [hb9]
      have p9 := of_decide_eq_false hb9
      refine seg 19 [.co [1, 1]] [(2, .bool false)] (by kernel_rfl) ?_
      refine retR [2] [.bool false] (by kernel_rfl) (by kernel_rfl) (by kernel_rfl) ?_
      have hret := hf
      subst hret
      exact ⟨_, rfl, rfl, H.scalar⟩
  · rw [hb8]
    refine seg 24 [.co [1, 1]] [(2, .bool false)] (by kernel_rfl) ?_
    refine retR [2] [.bool false] (by kernel_rfl) (by kernel_rfl) (by kernel_rfl) ?_
    have hret := hf
    subst hret
    exact ⟨_, rfl, rfl, H.scalar⟩
theorem dirent_Check_c {m : Mem} {w : World} (hm : Has m w) (l_ : (List TApiKid)) (A0_0 : Option Addr) (c0_0 : Nat) (s0_0 : SlI rApiKid m A0_0 c0_0 l_) {r : Int} (hf : dirent_Check l_ = some r) :
    Calls Try.prog 18 #[.slice A0_0 l_.length c0_0] w fun e w' => ∃ v, e = .returned v ∧ v = .int .i64 r ∧ Ex w w' := by
  unfold dirent_Check at hf
  have H := St.start0 hm
  refine callsR Try.func18 (by kernel_rfl) (by kernel_rfl) ?_
  refine seg 15 [.co [1, 1, 0, 1], .co [1, 1, 1]] [(3, .string ⟨([] : List UInt8).toArray⟩), (6, .slice A0_0 l_.length c0_0), (7, .int .i64 (l_.length : Int)), (8, .int .i64 0)] (by kernel_rfl) ?_
  obtain ⟨y82, hp82, hfl82, hfr82⟩ := bndE hf
  refine joinR 0 (fun (x : Unit) => []) (fun (x : Unit) (wj82 : World) => y82 = .inl () ∧ St w noF m m [] wj82) (by kernel_rfl) ?_ ?_
  · refine seg 1 [.co [1, 1, 0, 1, 0], .bl 0, .le 0, .co [1, 1, 1]] [(3, .string ⟨([] : List UInt8).toArray⟩), (6, .slice A0_0 l_.length c0_0), (7, .int .i64 (l_.length : Int)), (8, .int .i64 0)] (by kernel_rfl) ?_
    obtain ⟨nn106, hR106⟩ := loopO_iff.1 hp82
    refine loopR 1 (fun (x : Nat × (List UInt8) × Nat) => [(3, .string ⟨x.2.1.toArray⟩), (6, .slice A0_0 l_.length c0_0), (7, .int .i64 (l_.length : Int)), (8, .int .i64 (x.2.2 : Int))]) (fun (x : Nat × (List UInt8) × Nat) (wl106 : World) => iter (fun s => dirent_Check_l1 l_ s.1 s.2) x.1 (x.2.1, x.2.2) = some y82 ∧ St w noF m m [] wl106 ∧ x.2.1.length ≤ 9223372036854775807) (fun (x : Nat × (List UInt8) × Nat) => x.1) (nn106, ([] : List UInt8), 0) (by kernel_rfl) (by kernel_rfl) (by kernel_rfl) ?_ ?_
    · exact ⟨hR106, H, (Nat.le_of_ble_eq_true rfl)⟩
    rintro ⟨n106, last, t⟩ wl106 ⟨hR106, H, hl107_0⟩
    try dsimp only at hR106
    try dsimp only at H
    try dsimp only at hl107_0
    obtain ⟨nk106, q106, rfl, hb_106, hnx106, hfin106⟩ := iterE hR106
    replace hb_106 : dirent_Check_l1 l_ last t = some q106 := hb_106
    unfold dirent_Check_l1 at hb_106
    refine seg 5 [.co [1, 1, 0, 1, 0, 0, 1, 0], .co [1, 1, 0, 1, 0, 0, 1, 1], .le 1, .bl 0, .le 0, .co [1, 1, 1]] [(3, .string ⟨last.toArray⟩), (6, .slice A0_0 l_.length c0_0), (7, .int .i64 (l_.length : Int)), (8, .int .i64 (t : Int)), (9, .bool (decide ((t : Int) < (l_.length : Int))))] (by kernel_rfl) ?_
    rcases condT hb_106 with ⟨hb108, hb_106⟩ | ⟨hb108, hb_106⟩
    · rw [hb108]
      have p108 := of_decide_eq_true hb108
      refine seg 6 [.op [1, 1, 0, 1, 0, 0, 1, 1, 0, 0, 0] 0, .co [1, 1, 0, 1, 0, 0, 1, 1, 0, 0, 1], .bl 1, .co [1, 1, 0, 1, 0, 0, 1, 1, 1], .le 1, .bl 0, .le 0, .co [1, 1, 1]] [(3, .string ⟨last.toArray⟩), (6, .slice A0_0 l_.length c0_0), (7, .int .i64 (l_.length : Int)), (8, .int .i64 (t : Int))] (by kernel_rfl) ?_
      obtain ⟨x_, h_x_, hb_106⟩ := bindE hb_106
      obtain ⟨ad110, _, ea110, ⟨rfl, hl110_0⟩, hc110⟩ := s0_0.at_ h_x_ (by decide)
      refine st (idxS (some 10) 22 28 2 A0_0 ad110 l_.length c0_0 .i64 (t : Int) ea110 (by kernel_rfl) (by kernel_rfl) (by omega) (by have := (List.getElem?_eq_some_iff.1 h_x_).1; omega) ?_)
      refine st (ldAggR (some 11) 28 (ad110.add (t * 2)) [.string ⟨x_.Name.toArray⟩, .int .i64 x_.Ino] (by kernel_rfl) (by kernel_rfl) (fun j v hj => H.cellI (hc110 j v hj)) ?_)
      refine st (newS (some 5) (fun g => .pointer (some ⟨g, 0, none⟩)) [.string ⟨([] : List UInt8).toArray⟩, .int .i64 0] 28 H (by kernel_rfl) ?_)
      intro g111 w111 H
      refine st (stAggS none 28 0 g111 0 [.string ⟨x_.Name.toArray⟩, .int .i64 x_.Ino] [.string ⟨([] : List UInt8).toArray⟩, .int .i64 0] [.string ⟨x_.Name.toArray⟩, .int .i64 x_.Ino] 28 H rfl (by kernel_rfl) (by kernel_rfl) (by rfl) (of_decide_eq_true rfl) rfl ?_)
      intro w112 H
      refine seg 5 [.op [1, 1, 0, 1, 0, 0, 1, 1, 0, 0, 1, 0, 0] 1, .co [1, 1, 0, 1, 0, 0, 1, 1, 0, 0, 1, 0, 1], .co [1, 1, 0, 1, 0, 0, 1, 1, 0, 0, 1, 1], .bl 1, .co [1, 1, 0, 1, 0, 0, 1, 1, 1], .le 1, .bl 0, .le 0, .co [1, 1, 1]] [(3, .string ⟨last.toArray⟩), (5, .pointer (some (⟨g111, 0, none⟩))), (6, .slice A0_0 l_.length c0_0), (7, .int .i64 (l_.length : Int)), (8, .int .i64 (t : Int)), (12, .pointer (some (⟨g111, 0, none⟩)))] (by kernel_rfl) ?_
      refine st (ldR (some 13) 9 (⟨g111, 0, none⟩) (.string ⟨x_.Name.toArray⟩) (by kernel_rfl) (by kernel_rfl) (H.cellB 0 rfl rfl) ?_)
      refine st (callR (some 14) 45 #[.string ⟨x_.Name.toArray⟩] Try.call45 (name_Valid_c H.has x_.Name hl110_0) (by kernel_rfl) ?_)
      rintro _ w113 ⟨rfl, hx113⟩
      replace H := H.ex hx113
      refine seg 2 [.op [1, 1, 0, 1, 0, 0, 1, 1, 0, 0, 1, 0, 0] 5, .co [1, 1, 0, 1, 0, 0, 1, 1, 0, 0, 1, 0, 1], .co [1, 1, 0, 1, 0, 0, 1, 1, 0, 0, 1, 1], .bl 1, .co [1, 1, 0, 1, 0, 0, 1, 1, 1], .le 1, .bl 0, .le 0, .co [1, 1, 1]] [(3, .string ⟨last.toArray⟩), (5, .pointer (some (⟨g111, 0, none⟩))), (6, .slice A0_0 l_.length c0_0), (7, .int .i64 (l_.length : Int)), (8, .int .i64 (t : Int)), (16, .bool (!(name_Valid x_.Name)))] (by kernel_rfl) ?_
      rcases condT hb_106 with ⟨hb114, hb_106⟩ | ⟨hb114, hb_106⟩
      · rw [hb114]
        refine seg 1 [.op [1, 1, 0, 1, 0, 0, 1, 1, 0, 0, 1, 0, 0] 6, .co [1, 1, 0, 1, 0, 0, 1, 1, 0, 0, 1, 0, 1], .co [1, 1, 0, 1, 0, 0, 1, 1, 0, 0, 1, 1], .bl 1, .co [1, 1, 0, 1, 0, 0, 1, 1, 1], .le 1, .bl 0, .le 0, .co [1, 1, 1]] [(3, .string ⟨last.toArray⟩), (5, .pointer (some (⟨g111, 0, none⟩))), (6, .slice A0_0 l_.length c0_0), (7, .int .i64 (l_.length : Int)), (8, .int .i64 (t : Int)), (16, .bool false), (17, .pointer (some (⟨g111, 1, none⟩)))] (by kernel_rfl) ?_
        refine st (ldR (some 18) 3 (⟨g111, 1, none⟩) (.int .i64 x_.Ino) (by kernel_rfl) (by kernel_rfl) (H.cellB 0 rfl rfl) ?_)
        refine seg 3 [.op [1, 1, 0, 1, 0, 0, 1, 1, 0, 0, 1, 0, 0] 10, .co [1, 1, 0, 1, 0, 0, 1, 1, 0, 0, 1, 0, 1], .co [1, 1, 0, 1, 0, 0, 1, 1, 0, 0, 1, 1], .bl 1, .co [1, 1, 0, 1, 0, 0, 1, 1, 1], .le 1, .bl 0, .le 0, .co [1, 1, 1]] [(3, .string ⟨last.toArray⟩), (5, .pointer (some (⟨g111, 0, none⟩))), (6, .slice A0_0 l_.length c0_0), (7, .int .i64 (l_.length : Int)), (8, .int .i64 (t : Int)), (21, .bool (decide (x_.Ino < 0)))] (by kernel_rfl) ?_
        rcases condT hb_106 with ⟨hb115, hb_106⟩ | ⟨hb115, hb_106⟩
        · rw [hb115]
          have p115 := of_decide_eq_true hb115
          refine seg 16 [.co [1, 1, 0, 1, 0, 0, 1, 1, 0, 0, 1, 0, 1, 0, 1], .co [1, 1, 0, 1, 0, 0, 1, 1, 0, 0, 1, 1], .bl 1, .co [1, 1, 0, 1, 0, 0, 1, 1, 1], .le 1, .bl 0, .le 0, .co [1, 1, 1]] [(2, .int .i64 1)] (by kernel_rfl) ?_
          refine retR [2] [.int .i64 1] (by kernel_rfl) (by kernel_rfl) (by kernel_rfl) ?_
          obtain rfl : 1 = r := (hfr82 _ (hfin106 _ (Option.some.inj hb_106).symm).symm)
          exact ⟨_, rfl, rfl, H.scalar⟩
        · rw [hb115]
          have p115 := of_decide_eq_false hb115
          refine seg 1 [.op [1, 1, 0, 1, 0, 0, 1, 1, 0, 0, 1, 0, 0] 11, .co [1, 1, 0, 1, 0, 0, 1, 1, 0, 0, 1, 0, 1], .co [1, 1, 0, 1, 0, 0, 1, 1, 0, 0, 1, 1], .bl 1, .co [1, 1, 0, 1, 0, 0, 1, 1, 1], .le 1, .bl 0, .le 0, .co [1, 1, 1]] [(3, .string ⟨last.toArray⟩), (5, .pointer (some (⟨g111, 0, none⟩))), (6, .slice A0_0 l_.length c0_0), (7, .int .i64 (l_.length : Int)), (8, .int .i64 (t : Int)), (21, .bool false), (22, .pointer (some (⟨g111, 1, none⟩)))] (by kernel_rfl) ?_
          refine st (ldR (some 23) 3 (⟨g111, 1, none⟩) (.int .i64 x_.Ino) (by kernel_rfl) (by kernel_rfl) (H.cellB 0 rfl rfl) ?_)
          refine seg 3 [.op [1, 1, 0, 1, 0, 0, 1, 1, 0, 0, 1, 0, 0] 15, .co [1, 1, 0, 1, 0, 0, 1, 1, 0, 0, 1, 0, 1], .co [1, 1, 0, 1, 0, 0, 1, 1, 0, 0, 1, 1], .bl 1, .co [1, 1, 0, 1, 0, 0, 1, 1, 1], .le 1, .bl 0, .le 0, .co [1, 1, 1]] [(3, .string ⟨last.toArray⟩), (5, .pointer (some (⟨g111, 0, none⟩))), (6, .slice A0_0 l_.length c0_0), (7, .int .i64 (l_.length : Int)), (8, .int .i64 (t : Int)), (26, .bool (decide (x_.Ino > 16384)))] (by kernel_rfl) ?_
          rcases condT hb_106 with ⟨hb116, hb_106⟩ | ⟨hb116, hb_106⟩
          · rw [hb116]
            have p116 := of_decide_eq_true hb116
            refine seg 11 [.co [1, 1, 0, 1, 0, 0, 1, 1, 0, 0, 1, 0, 1, 0, 1], .co [1, 1, 0, 1, 0, 0, 1, 1, 0, 0, 1, 1], .bl 1, .co [1, 1, 0, 1, 0, 0, 1, 1, 1], .le 1, .bl 0, .le 0, .co [1, 1, 1]] [(2, .int .i64 1)] (by kernel_rfl) ?_
            refine retR [2] [.int .i64 1] (by kernel_rfl) (by kernel_rfl) (by kernel_rfl) ?_
            obtain rfl : 1 = r := (hfr82 _ (hfin106 _ (Option.some.inj hb_106).symm).symm)
            exact ⟨_, rfl, rfl, H.scalar⟩
          · rw [hb116]
            have p116 := of_decide_eq_false hb116
            refine seg 1 [.op [1, 1, 0, 1, 0, 0, 1, 1, 0, 0, 1, 0, 0] 16, .co [1, 1, 0, 1, 0, 0, 1, 1, 0, 0, 1, 0, 1], .co [1, 1, 0, 1, 0, 0, 1, 1, 0, 0, 1, 1], .bl 1, .co [1, 1, 0, 1, 0, 0, 1, 1, 1], .le 1, .bl 0, .le 0, .co [1, 1, 1]] [(3, .string ⟨last.toArray⟩), (5, .pointer (some (⟨g111, 0, none⟩))), (6, .slice A0_0 l_.length c0_0), (7, .int .i64 (l_.length : Int)), (8, .int .i64 (t : Int)), (26, .bool false), (27, .pointer (some (⟨g111, 0, none⟩)))] (by kernel_rfl) ?_
            refine st (ldR (some 28) 9 (⟨g111, 0, none⟩) (.string ⟨x_.Name.toArray⟩) (by kernel_rfl) (by kernel_rfl) (H.cellB 0 rfl rfl) ?_)
            refine seg 4 [.co [1, 1, 0, 1, 0, 0, 1, 1, 0, 0, 1, 0, 1], .co [1, 1, 0, 1, 0, 0, 1, 1, 0, 0, 1, 1], .bl 1, .co [1, 1, 0, 1, 0, 0, 1, 1, 1], .le 1, .bl 0, .le 0, .co [1, 1, 1]] [(5, .pointer (some (⟨g111, 0, none⟩))), (6, .slice A0_0 l_.length c0_0), (7, .int .i64 (l_.length : Int)), (8, .int .i64 (t : Int)), (31, .bool (Go.Op.bytesLess (ByteArray.toList ⟨x_.Name.toArray⟩) (ByteArray.toList ⟨last.toArray⟩) || (ByteArray.toList ⟨x_.Name.toArray⟩) == (ByteArray.toList ⟨last.toArray⟩)))] (by kernel_rfl) ?_
            rw [leB_raw x_.Name last]
            rcases condT hb_106 with ⟨hb117, hb_106⟩ | ⟨hb117, hb_106⟩
            · rw [hb117]
              refine seg 5 [.co [1, 1, 0, 1, 0, 0, 1, 1, 0, 0, 1, 0, 1, 0, 1], .co [1, 1, 0, 1, 0, 0, 1, 1, 0, 0, 1, 1], .bl 1, .co [1, 1, 0, 1, 0, 0, 1, 1, 1], .le 1, .bl 0, .le 0, .co [1, 1, 1]] [(2, .int .i64 1)] (by kernel_rfl) ?_
              refine retR [2] [.int .i64 1] (by kernel_rfl) (by kernel_rfl) (by kernel_rfl) ?_
              obtain rfl : 1 = r := (hfr82 _ (hfin106 _ (Option.some.inj hb_106).symm).symm)
              exact ⟨_, rfl, rfl, H.scalar⟩
            · rw [hb117]
              refine seg 4 [.op [1, 1, 0, 1, 0, 0, 1, 1, 0, 0, 1, 1] 1, .bl 1, .co [1, 1, 0, 1, 0, 0, 1, 1, 1], .le 1, .bl 0, .le 0, .co [1, 1, 1]] [(6, .slice A0_0 l_.length c0_0), (7, .int .i64 (l_.length : Int)), (8, .int .i64 (t : Int)), (32, .pointer (some (⟨g111, 0, none⟩)))] (by kernel_rfl) ?_
              refine st (ldR (some 33) 9 (⟨g111, 0, none⟩) (.string ⟨x_.Name.toArray⟩) (by kernel_rfl) (by kernel_rfl) (H.cellB 0 rfl rfl) ?_)
              refine seg 7 [.le 1, .bl 0, .le 0, .co [1, 1, 1]] [(3, .string ⟨x_.Name.toArray⟩), (6, .slice A0_0 l_.length c0_0), (7, .int .i64 (l_.length : Int)), (8, .int .i64 (IntKind.i64.wrap ((t : Int) + 1)))] (by kernel_rfl) ?_
              have := s0_0.bound
              rw [show IntKind.i64.wrap ((t : Int) + 1) = ((t : Int) + 1) from w64 (by omega)]
              refine leR (nk106, x_.Name, (t + 1)) (Nat.lt_succ_self _) ⟨hnx106 _ (Option.some.inj hb_106).symm, (St.takeN 0 H), hl110_0⟩ (by kernel_rfl)
      · rw [hb114]
        refine seg 21 [.co [1, 1, 0, 1, 0, 0, 1, 1, 0, 0, 1, 0, 1, 0, 1], .co [1, 1, 0, 1, 0, 0, 1, 1, 0, 0, 1, 1], .bl 1, .co [1, 1, 0, 1, 0, 0, 1, 1, 1], .le 1, .bl 0, .le 0, .co [1, 1, 1]] [(2, .int .i64 1)] (by kernel_rfl) ?_
        refine retR [2] [.int .i64 1] (by kernel_rfl) (by kernel_rfl) (by kernel_rfl) ?_
        obtain rfl : 1 = r := (hfr82 _ (hfin106 _ (Option.some.inj hb_106).symm).symm)
        exact ⟨_, rfl, rfl, H.scalar⟩
    · rw [hb108]
      have p108 := of_decide_eq_false hb108
      refine seg 2 [.le 0, .co [1, 1, 1]] [] (by kernel_rfl) ?_
      refine leR_up (k' := []) (by rfl) ?_
      refine leJ () ⟨(hfin106 _ (Option.some.inj hb_106).symm).symm, H⟩ (by kernel_rfl)
  rintro _ wj82 ⟨hy82, H⟩
  have hf := hfl82 _ hy82
  try dsimp only at hf
  refine seg 4 [.co [1, 1, 1, 1]] [(2, .int .i64 0)] (by kernel_rfl) ?_
  refine retR [2] [.int .i64 0] (by kernel_rfl) (by kernel_rfl) (by kernel_rfl) ?_
  obtain rfl : 0 = r := (Option.some.inj hf)
  exact ⟨_, rfl, rfl, H.scalar⟩
theorem dirent_rows_c {m : Mem} {w : World} (hm : Has m w) (l_ : (List TApiKid)) (A0_0 : Option Addr) (c0_0 : Nat) (s0_0 : SlI rApiKid m A0_0 c0_0 l_) :
    Calls Try.prog 44 #[.slice A0_0 l_.length c0_0] w fun e w' => ∃ v, e = .returned v ∧ ∃ gz_0_0 : Nat, ∃ Az_0_0_0 : Option Addr, ∃ cz_0_0_0 : Nat, ∃ m' : Mem, v = .func (.func 81) #[] #[.pointer (some (⟨gz_0_0, 0, none⟩))] ∧ St w noF m m' [blkI gz_0_0 [.slice Az_0_0_0 ((dirent_rows l_).length) cz_0_0_0] 22] w' ∧ SlI rApiKid m' Az_0_0_0 cz_0_0_0 (dirent_rows l_) := by
  generalize hf : dirent_rows l_ = r
  unfold dirent_rows at hf
  have H := St.start0 hm
  refine callsR Try.func44 (by kernel_rfl) (by kernel_rfl) ?_
  refine seg 2 [.op [0] 0, .co [1]] [(0, .slice A0_0 l_.length c0_0)] (by kernel_rfl) ?_
  refine st (newS (some 1) (fun g => .pointer (some ⟨g, 0, none⟩)) [.slice A0_0 l_.length c0_0] 22 H (by kernel_rfl) ?_)
  intro g1 w1 H
  refine seg 7 [.co [1, 1]] [(2, .func (.func 81) #[] #[.pointer (some (⟨g1, 0, none⟩))])] (by kernel_rfl) ?_
  refine retR [2] [.func (.func 81) #[] #[.pointer (some (⟨g1, 0, none⟩))]] (by kernel_rfl) (by kernel_rfl) (by kernel_rfl) ?_
  have hret := hf
  subst hret
  exact ⟨_, rfl, g1, A0_0, c0_0, m, rfl, H, s0_0⟩
theorem dirent_rows_1_c {m : Mem} {w : World} (hm : Has m w) {σs ρs : Type} {X : σs → K.Item} {Y : ρs → K.Item} {yld : σs → (List TApiKid) → Option (Sum σs ρs)} (lY : Nat) (hY : Yld Try.prog lY m (fun (m : Mem) (args : Array Value) (x : (List TApiKid)) => ∃ Az_0_0, ∃ cz_0_0, args = #[.slice Az_0_0 x.length cz_0_0] ∧ SlI rApiKid m Az_0_0 cz_0_0 x) X Y yld) (zs : σs) (gv0 : Nat) (v_ : (List TApiKid)) (Av0_0 : Option Addr) (cv0_0 : Nat) (sv0_0 : SlI rApiKid m Av0_0 cv0_0 v_) {F : Nat → Prop} (hsep : Sep m w [X zs, blkI gv0 [.slice Av0_0 v_.length cv0_0] 22] F) (hF : ∀ k, F k → m k = none) {r : (Sum σs ρs)} (hf : dirent_rows_1 yld zs v_ = some r) :
    Calls Try.prog 81 #[.func (.yield lY) #[] #[], .pointer (some (⟨gv0, 0, none⟩))] w fun e w' => ∃ v, e = .returned v ∧ ∃ m' : Mem, v = .tuple #[] ∧ St w F m m' [Sum.elim X Y r] w' := by
  unfold dirent_rows_1 at hf
  have H := St.start hm hsep hF
  refine callsR Try.func81 (by kernel_rfl) (by kernel_rfl) ?_
  obtain ⟨y240, hp240, hfl240, hfr240⟩ := bndE hf
  refine joinR 0 (fun (x : (List TApiKid) × σs × Option Addr × Nat × Mem) => []) (fun (x : (List TApiKid) × σs × Option Addr × Nat × Mem) (wj240 : World) => y240 = .inl (x.1, x.2.1) ∧ St w F m x.2.2.2.2 [blkI gv0 [.slice (x.2.2.1) x.1.length (x.2.2.2.1)] 22, X x.2.1] wj240 ∧ Sub m x.2.2.2.2 ∧ SlI rApiKid x.2.2.2.2 x.2.2.1 x.2.2.2.1 x.1) (by kernel_rfl) ?_ ?_
  · refine seg 1 [.co [0], .bl 0, .le 0] [(0, .func (.yield lY) #[] #[]), (1, .pointer (some (⟨gv0, 0, none⟩)))] (by kernel_rfl) ?_
    obtain ⟨nn302, hR302⟩ := loopO_iff.1 hp240
    refine loopR 1 (fun (x : Nat × (List TApiKid) × σs × Option Addr × Nat × Mem) => [(0, .func (.yield lY) #[] #[]), (1, .pointer (some (⟨gv0, 0, none⟩)))]) (fun (x : Nat × (List TApiKid) × σs × Option Addr × Nat × Mem) (wl302 : World) => iter (fun s => dirent_rows_1_l1 (σs := σs) (ρs := ρs) yld s.1 s.2) x.1 (x.2.1, x.2.2.1) = some y240 ∧ St w F m x.2.2.2.2.2 [blkI gv0 [.slice (x.2.2.2.1) x.2.1.length (x.2.2.2.2.1)] 22, X x.2.2.1] wl302 ∧ Sub m x.2.2.2.2.2 ∧ SlI rApiKid x.2.2.2.2.2 x.2.2.2.1 x.2.2.2.2.1 x.2.1) (fun (x : Nat × (List TApiKid) × σs × Option Addr × Nat × Mem) => x.1) (nn302, v_, zs, Av0_0, cv0_0, m) (by kernel_rfl) (by kernel_rfl) (by kernel_rfl) ?_ ?_
    · exact ⟨hR302, (H.pull 1 rfl), (Sub.refl _), sv0_0⟩
    rintro ⟨n302, t, zs1, A_1_303, c_2_303, mm303⟩ wl302 ⟨hR302, H, hsub303, hs303_0⟩
    try dsimp only at hR302
    try dsimp only at H
    try dsimp only at hsub303
    try dsimp only at hs303_0
    obtain ⟨nk302, q302, rfl, hb_302, hnx302, hfin302⟩ := iterE hR302
    replace hb_302 : dirent_rows_1_l1 (σs := σs) (ρs := ρs) yld t zs1 = some q302 := hb_302
    unfold dirent_rows_1_l1 at hb_302
    refine seg 3 [.op [0, 0, 0, 0] 0, .co [0, 0, 0, 1], .co [0, 0, 1], .le 1, .bl 0, .le 0] [(0, .func (.yield lY) #[] #[]), (1, .pointer (some (⟨gv0, 0, none⟩)))] (by kernel_rfl) ?_
    refine st (ldR (some 4) 22 (⟨gv0, 0, none⟩) (.slice A_1_303 t.length c_2_303) (by kernel_rfl) (by kernel_rfl) (H.cellB 0 rfl rfl) ?_)
    refine seg 3 [.co [0, 0, 0, 1], .co [0, 0, 1], .le 1, .bl 0, .le 0] [(0, .func (.yield lY) #[] #[]), (1, .pointer (some (⟨gv0, 0, none⟩))), (6, .bool (decide ((t.length : Int) > 0)))] (by kernel_rfl) ?_
    rcases condT hb_302 with ⟨hb304, hb_302⟩ | ⟨hb304, hb_302⟩
    · rw [hb304]
      have p304 := of_decide_eq_true hb304
      refine seg 8 [.co [0, 0, 1, 0, 1, 0], .co [0, 0, 1, 0, 1, 1], .bl 1, .le 1, .bl 0, .le 0] [(0, .func (.yield lY) #[] #[]), (1, .pointer (some (⟨gv0, 0, none⟩))), (3, .int .i64 1)] (by kernel_rfl) ?_
      obtain ⟨y328, hp328, hb_302⟩ := bindE hb_302
      refine joinR 2 (fun (x : Nat) => [(0, .func (.yield lY) #[] #[]), (1, .pointer (some (⟨gv0, 0, none⟩))), (3, .int .i64 (x : Int))]) (fun (x : Nat) (wj328 : World) => y328 = x ∧ St w F m mm303 [blkI gv0 [.slice A_1_303 t.length c_2_303] 22, X zs1] wj328) (by kernel_rfl) ?_ ?_
      · refine seg 1 [.co [0, 0, 1, 0, 1, 0, 0], .bl 2, .le 2, .co [0, 0, 1, 0, 1, 1], .bl 1, .le 1, .bl 0, .le 0] [(0, .func (.yield lY) #[] #[]), (1, .pointer (some (⟨gv0, 0, none⟩))), (3, .int .i64 1)] (by kernel_rfl) ?_
        obtain ⟨nn345, hR345⟩ := loopO_iff.1 hp328
        refine loopR 3 (fun (x : Nat × Nat) => [(0, .func (.yield lY) #[] #[]), (1, .pointer (some (⟨gv0, 0, none⟩))), (3, .int .i64 (x.2 : Int))]) (fun (x : Nat × Nat) (wl345 : World) => iter (fun s => dirent_rows_1_l2 t s) x.1 x.2 = some y328 ∧ St w F m mm303 [blkI gv0 [.slice A_1_303 t.length c_2_303] 22, X zs1] wl345) (fun (x : Nat × Nat) => x.1) (nn345, 1) (by kernel_rfl) (by kernel_rfl) (by kernel_rfl) ?_ ?_
        · exact ⟨hR345, H⟩
        rintro ⟨n345, n_⟩ wl345 ⟨hR345, H⟩
        try dsimp only at hR345
        try dsimp only at H
        obtain ⟨nk345, q345, rfl, hb_345, hnx345, hfin345⟩ := iterE hR345
        replace hb_345 : dirent_rows_1_l2 t n_ = some q345 := hb_345
        unfold dirent_rows_1_l2 at hb_345
        refine seg 2 [.co [0, 0, 1, 0, 1, 0, 0, 0, 0, 0], .co [0, 0, 1, 0, 1, 0, 0, 0, 0, 1], .co [0, 0, 1, 0, 1, 0, 0, 0, 1], .le 3, .bl 2, .le 2, .co [0, 0, 1, 0, 1, 1], .bl 1, .le 1, .bl 0, .le 0] [(0, .func (.yield lY) #[] #[]), (1, .pointer (some (⟨gv0, 0, none⟩))), (3, .int .i64 (n_ : Int))] (by kernel_rfl) ?_
        rcases condT hb_345 with ⟨hb347, hb_345⟩ | ⟨hb347, hb_345⟩
        · have p347 := of_decide_eq_true hb347
          rcases condT hb_345 with ⟨hb348, hb_345⟩ | ⟨hb348, hb_345⟩
          · have p348 := of_decide_eq_true hb348
            obtain ⟨x_, h_x_, hb_345⟩ := bindE hb_345
            obtain ⟨x_1, h_x_1, hb_345⟩ := bindE hb_345
            have hst : statB (bodyOf Try.f81) [0, 0, 1, 0, 1, 0, 0, 0, 0, 0] = true := by kernel_rfl
            refine drawS (fun w' => Has mm303 w' ∧ w'.heap[gv0]? = some (.cells [.slice A_1_303 t.length c_2_303].toArray 22 (0, 0))) H (by kernel_rfl) (by kernel_rfl) ?_
            intro w353 H
            refine segD2 hst [0] [0] [(0, .func (.yield lY) #[] #[]), (1, .pointer (some (⟨gv0, 0, none⟩))), (3, .int .i64 (n_ : Int)), (7, .int .i64 (n_ : Int))] (by kernel_rfl) ?_
            refine stD2 (i := 1) (by kernel_rfl) ⟨H.has, H.blk 0 rfl⟩ (ldR (some 8) 22 (⟨gv0, 0, none⟩) (.slice A_1_303 t.length c_2_303) (by kernel_rfl) (by kernel_rfl) (H.cellB 0 rfl rfl) ?_)
            refine segD2 hst [2, 3] [0, 1, 2, 3] [(0, .func (.yield lY) #[] #[]), (1, .pointer (some (⟨gv0, 0, none⟩))), (3, .int .i64 (n_ : Int)), (10, .bool (decide ((n_ : Int) < (t.length : Int))))] (by kernel_rfl) ?_
            rw [show (decide ((n_ : Int) < (t.length : Int))) = true from hb347]
            refine segD2 hst [4, 5, 6] [0, 1, 2, 3, 4, 5, 6] [(0, .func (.yield lY) #[] #[]), (1, .pointer (some (⟨gv0, 0, none⟩))), (3, .int .i64 (n_ : Int)), (11, .bool true), (13, .bool (decide ((n_ : Int) < 256)))] (by kernel_rfl) ?_
            rw [show (decide ((n_ : Int) < 256)) = true from hb348]
            refine segD2 hst [7, 8, 10] [0, 1, 2, 3, 4, 5, 6, 7, 8, 10] [(0, .func (.yield lY) #[] #[]), (1, .pointer (some (⟨gv0, 0, none⟩))), (3, .int .i64 (n_ : Int)), (15, .bool true), (17, .int .i64 (n_ : Int))] (by kernel_rfl) ?_
            refine takeD2 (i := 9) (d := (some 16)) (s := vS (Instr.loadAt 22 (.pointer (some (⟨gv0, 0, none⟩))))) (v := (.slice A_1_303 t.length c_2_303)) hst (by kernel_rfl) (by kernel_rfl) (fun w' hw' => ld_run _ _ _ (by kernel_rfl) (blk_cell hw'.2 rfl)) ?_
            obtain ⟨ad354, _, ea354, ⟨rfl, hl354_0⟩, hc354⟩ := hs303_0.at_ h_x_ (by decide)
            refine takeD2 (i := 11) (d := (some 18)) (s := vS (Instr.indexAt 22 (.slice A_1_303 t.length c_2_303) (.int .i64 (n_ : Int)))) (v := .pointer (some (ad354.add (n_ * 2)))) hst (by kernel_rfl) (by kernel_rfl) (fun w' hw' => idx_run 22 28 2 _ ad354 _ _ _ _ _ ea354 (by kernel_rfl) (by omega) (by have := (List.getElem?_eq_some_iff.1 h_x_).1; omega) rfl) ?_
            refine segD2 hst [12] [0, 1, 2, 3, 4, 5, 6, 7, 8, 10, 9, 11, 12] [(0, .func (.yield lY) #[] #[]), (1, .pointer (some (⟨gv0, 0, none⟩))), (3, .int .i64 (n_ : Int)), (15, .bool true), (19, .pointer (some ((ad354.add (n_ * 2)).add 1)))] (by kernel_rfl) ?_
            refine takeD2 (i := 13) (d := (some 20)) (s := vS (Instr.loadAt 3 (.pointer (some ((ad354.add (n_ * 2)).add 1))))) (v := (.int .i64 x_.Ino)) hst (by kernel_rfl) (by kernel_rfl) (fun w' hw' => ld_run _ _ _ (by kernel_rfl) (hw'.1.cell (hc354 1 _ rfl))) ?_
            refine stD2 (i := 14) (by kernel_rfl) ⟨H.has, H.blk 0 rfl⟩ (ldR (some 21) 22 (⟨gv0, 0, none⟩) (.slice A_1_303 t.length c_2_303) (by kernel_rfl) (by kernel_rfl) (H.cellB 0 rfl rfl) ?_)
            obtain ⟨ad355, _, ea355, ⟨rfl, hl355_0⟩, hc355⟩ := hs303_0.at_ h_x_1 (by decide)
            refine stD2 (i := 15) (by kernel_rfl) ⟨H.has, H.blk 0 rfl⟩ (idxS (some 22) 22 28 2 A_1_303 ad355 t.length c_2_303 .i64 0 ea355 (by kernel_rfl) (by kernel_rfl) (by omega) (by have := (List.getElem?_eq_some_iff.1 h_x_1).1; omega) ?_)
            refine segD2 hst [16] [0, 1, 2, 3, 4, 5, 6, 7, 8, 10, 9, 11, 12, 13, 14, 15, 16] [(0, .func (.yield lY) #[] #[]), (1, .pointer (some (⟨gv0, 0, none⟩))), (3, .int .i64 (n_ : Int)), (15, .bool true), (20, .int .i64 x_.Ino), (23, .pointer (some ((ad355.add (0 * 2)).add 1)))] (by kernel_rfl) ?_
            refine stD2 (i := 17) (by kernel_rfl) ⟨H.has, H.blk 0 rfl⟩ (ldR (some 24) 3 ((ad355.add (0 * 2)).add 1) (.int .i64 x_1.Ino) (by kernel_rfl) (by kernel_rfl) (H.cellI (hc355 1 _ rfl)) ?_)
            refine segD2 hst [18] [0, 1, 2, 3, 4, 5, 6, 7, 8, 10, 9, 11, 12, 13, 14, 15, 16, 17, 18] [(0, .func (.yield lY) #[] #[]), (1, .pointer (some (⟨gv0, 0, none⟩))), (3, .int .i64 (n_ : Int)), (15, .bool true), (25, .bool (decide (x_.Ino ≥ x_1.Ino)))] (by kernel_rfl) ?_
            refine segD2 hst [19] [0, 1, 2, 3, 4, 5, 6, 7, 8, 10, 9, 11, 12, 13, 14, 15, 16, 17, 18, 19] [(0, .func (.yield lY) #[] #[]), (1, .pointer (some (⟨gv0, 0, none⟩))), (3, .int .i64 (n_ : Int)), (26, .bool (decide (x_.Ino ≥ x_1.Ino)))] (by kernel_rfl) ?_
            refine endD2 (by kernel_rfl) ⟨H.has, H.blk 0 rfl⟩ ?_
            rcases condT hb_345 with ⟨hb356, hb_345⟩ | ⟨hb356, hb_345⟩
            · rw [hb356]
              have p356 := of_decide_eq_true hb356
              refine seg 9 [.le 3, .bl 2, .le 2, .co [0, 0, 1, 0, 1, 1], .bl 1, .le 1, .bl 0, .le 0] [(0, .func (.yield lY) #[] #[]), (1, .pointer (some (⟨gv0, 0, none⟩))), (3, .int .i64 (IntKind.i64.wrap ((n_ : Int) + 1)))] (by kernel_rfl) ?_
              have := hs303_0.bound
              rw [show IntKind.i64.wrap ((n_ : Int) + 1) = ((n_ : Int) + 1) from w64 (by omega)]
              refine leR (nk345, (n_ + 1)) (Nat.lt_succ_self _) ⟨hnx345 _ (Option.some.inj hb_345).symm, H⟩ (by kernel_rfl)
            · rw [hb356]
              have p356 := of_decide_eq_false hb356
              refine seg 2 [.le 2, .co [0, 0, 1, 0, 1, 1], .bl 1, .le 1, .bl 0, .le 0] [(0, .func (.yield lY) #[] #[]), (1, .pointer (some (⟨gv0, 0, none⟩))), (3, .int .i64 (n_ : Int))] (by kernel_rfl) ?_
              refine leR_up (k' := []) (by rfl) ?_
              refine leJ (n_) ⟨(hfin345 _ (Option.some.inj hb_345).symm).symm, H⟩ (by kernel_rfl)
          · have p348 := of_decide_eq_false hb348
            have hst : statB (bodyOf Try.f81) [0, 0, 1, 0, 1, 0, 0, 0, 0, 0] = true := by kernel_rfl
            refine drawS (fun w' => Has mm303 w' ∧ w'.heap[gv0]? = some (.cells [.slice A_1_303 t.length c_2_303].toArray 22 (0, 0))) H (by kernel_rfl) (by kernel_rfl) ?_
            intro w357 H
            refine segD2 hst [0] [0] [(0, .func (.yield lY) #[] #[]), (1, .pointer (some (⟨gv0, 0, none⟩))), (3, .int .i64 (n_ : Int)), (7, .int .i64 (n_ : Int))] (by kernel_rfl) ?_
            refine stD2 (i := 1) (by kernel_rfl) ⟨H.has, H.blk 0 rfl⟩ (ldR (some 8) 22 (⟨gv0, 0, none⟩) (.slice A_1_303 t.length c_2_303) (by kernel_rfl) (by kernel_rfl) (H.cellB 0 rfl rfl) ?_)
            refine segD2 hst [2, 3] [0, 1, 2, 3] [(0, .func (.yield lY) #[] #[]), (1, .pointer (some (⟨gv0, 0, none⟩))), (3, .int .i64 (n_ : Int)), (10, .bool (decide ((n_ : Int) < (t.length : Int))))] (by kernel_rfl) ?_
            rw [show (decide ((n_ : Int) < (t.length : Int))) = true from hb347]
            refine segD2 hst [4, 5, 6] [0, 1, 2, 3, 4, 5, 6] [(0, .func (.yield lY) #[] #[]), (1, .pointer (some (⟨gv0, 0, none⟩))), (3, .int .i64 (n_ : Int)), (11, .bool true), (13, .bool (decide ((n_ : Int) < 256)))] (by kernel_rfl) ?_
            rw [show (decide ((n_ : Int) < 256)) = false from hb348]
            refine segD2 hst [7, 8, 9, 10, 11, 12, 13, 14, 15, 16, 17, 18, 19] [0, 1, 2, 3, 4, 5, 6, 7, 8, 9, 10, 11, 12, 13, 14, 15, 16, 17, 18, 19] [(0, .func (.yield lY) #[] #[]), (1, .pointer (some (⟨gv0, 0, none⟩))), (3, .int .i64 (n_ : Int)), (26, .bool false)] (by kernel_rfl) ?_
            refine endD2 (by kernel_rfl) ⟨H.has, H.blk 0 rfl⟩ ?_
            refine seg 2 [.le 2, .co [0, 0, 1, 0, 1, 1], .bl 1, .le 1, .bl 0, .le 0] [(0, .func (.yield lY) #[] #[]), (1, .pointer (some (⟨gv0, 0, none⟩))), (3, .int .i64 (n_ : Int))] (by kernel_rfl) ?_
            refine leR_up (k' := []) (by rfl) ?_
            refine leJ (n_) ⟨(hfin345 _ (Option.some.inj hb_345).symm).symm, H⟩ (by kernel_rfl)
        · have p347 := of_decide_eq_false hb347
          have hst : statB (bodyOf Try.f81) [0, 0, 1, 0, 1, 0, 0, 0, 0, 0] = true := by kernel_rfl
          refine drawS (fun w' => Has mm303 w' ∧ w'.heap[gv0]? = some (.cells [.slice A_1_303 t.length c_2_303].toArray 22 (0, 0))) H (by kernel_rfl) (by kernel_rfl) ?_
          intro w358 H
          refine segD2 hst [0] [0] [(0, .func (.yield lY) #[] #[]), (1, .pointer (some (⟨gv0, 0, none⟩))), (3, .int .i64 (n_ : Int)), (7, .int .i64 (n_ : Int))] (by kernel_rfl) ?_
          refine stD2 (i := 1) (by kernel_rfl) ⟨H.has, H.blk 0 rfl⟩ (ldR (some 8) 22 (⟨gv0, 0, none⟩) (.slice A_1_303 t.length c_2_303) (by kernel_rfl) (by kernel_rfl) (H.cellB 0 rfl rfl) ?_)
          refine segD2 hst [2, 3] [0, 1, 2, 3] [(0, .func (.yield lY) #[] #[]), (1, .pointer (some (⟨gv0, 0, none⟩))), (3, .int .i64 (n_ : Int)), (10, .bool (decide ((n_ : Int) < (t.length : Int))))] (by kernel_rfl) ?_
          rw [show (decide ((n_ : Int) < (t.length : Int))) = false from hb347]
          refine segD2 hst [4, 5, 6, 7, 8, 9, 10, 11, 12, 13, 14, 15, 16, 17, 18, 19] [0, 1, 2, 3, 4, 5, 6, 7, 8, 9, 10, 11, 12, 13, 14, 15, 16, 17, 18, 19] [(0, .func (.yield lY) #[] #[]), (1, .pointer (some (⟨gv0, 0, none⟩))), (3, .int .i64 (n_ : Int)), (26, .bool false)] (by kernel_rfl) ?_
          refine endD2 (by kernel_rfl) ⟨H.has, H.blk 0 rfl⟩ ?_
          refine seg 2 [.le 2, .co [0, 0, 1, 0, 1, 1], .bl 1, .le 1, .bl 0, .le 0] [(0, .func (.yield lY) #[] #[]), (1, .pointer (some (⟨gv0, 0, none⟩))), (3, .int .i64 (n_ : Int))] (by kernel_rfl) ?_
          refine leR_up (k' := []) (by rfl) ?_
          refine leJ (n_) ⟨(hfin345 _ (Option.some.inj hb_345).symm).symm, H⟩ (by kernel_rfl)
      rintro n_ wj328 ⟨hy328, H⟩
      rw [hy328] at hb_302
      refine seg 4 [.op [0, 0, 1, 0, 1, 1, 0, 0] 1, .co [0, 0, 1, 0, 1, 1, 0, 1], .co [0, 0, 1, 0, 1, 1, 1], .bl 1, .le 1, .bl 0, .le 0] [(0, .func (.yield lY) #[] #[]), (1, .pointer (some (⟨gv0, 0, none⟩))), (3, .int .i64 (n_ : Int)), (29, .func (.yield lY) #[] #[])] (by kernel_rfl) ?_
      refine st (ldR (some 30) 22 (⟨gv0, 0, none⟩) (.slice A_1_303 t.length c_2_303) (by kernel_rfl) (by kernel_rfl) (H.cellB 0 rfl rfl) ?_)
      refine seg 1 [.op [0, 0, 1, 0, 1, 1, 0, 0] 3, .co [0, 0, 1, 0, 1, 1, 0, 1], .co [0, 0, 1, 0, 1, 1, 1], .bl 1, .le 1, .bl 0, .le 0] [(0, .func (.yield lY) #[] #[]), (1, .pointer (some (⟨gv0, 0, none⟩))), (3, .int .i64 (n_ : Int)), (29, .func (.yield lY) #[] #[]), (30, .slice A_1_303 t.length c_2_303), (31, .int .i64 (n_ : Int))] (by kernel_rfl) ?_
      obtain ⟨y_, h_y_, hb_302⟩ := bindE hb_302
      refine st (sliS (r := rApiKid) (some 32) 22 28 A_1_303 c_2_303 t y_ none (some (.int .i64 (n_ : Int))) 0 (n_ : Int) hs303_0 (by kernel_rfl) (by kernel_rfl) (.inl ⟨rfl, rfl⟩) (.inr ⟨_, rfl⟩) h_y_ ?_)
      intro A359 c359 hs359
      obtain ⟨yy360, hyy360, hb_302⟩ := bindE hb_302
      refine stIn (yldS (some 33) lY #[.slice A359 y_.length c359] zs1 y_ yy360 hY (H.pull 1 rfl) hsub303 ⟨A359, c359, rfl, hs359⟩ hyy360 (by kernel_rfl) ?_)
      intro my360 w360 hsy360 H
      rcases sumE hb_302 with ⟨zs2, rfl, hb_302⟩ | ⟨q, rfl, hb_302⟩
      · replace H : St w F m my360 [X zs2, blkI gv0 [.slice A_1_303 t.length c_2_303] 22] w360 := H
        refine seg 5 [.op [0, 0, 1, 0, 1, 1, 1] 0, .bl 1, .le 1, .bl 0, .le 0] [(0, .func (.yield lY) #[] #[]), (1, .pointer (some (⟨gv0, 0, none⟩))), (3, .int .i64 (n_ : Int))] (by kernel_rfl) ?_
        refine st (ldR (some 35) 22 (⟨gv0, 0, none⟩) (.slice A_1_303 t.length c_2_303) (by kernel_rfl) (by kernel_rfl) (H.cellB 1 rfl rfl) ?_)
        refine seg 1 [.op [0, 0, 1, 0, 1, 1, 1] 2, .bl 1, .le 1, .bl 0, .le 0] [(0, .func (.yield lY) #[] #[]), (1, .pointer (some (⟨gv0, 0, none⟩))), (35, .slice A_1_303 t.length c_2_303), (36, .int .i64 (n_ : Int))] (by kernel_rfl) ?_
        obtain ⟨y_1, h_y_1, hb_302⟩ := bindE hb_302
        refine st (sliS (r := rApiKid) (some 37) 22 28 A_1_303 c_2_303 t y_1 (some (.int .i64 (n_ : Int))) none (n_ : Int) (t.length : Int) (hs303_0.mono hsy360) (by kernel_rfl) (by kernel_rfl) (.inr ⟨_, rfl⟩) (.inl ⟨rfl, rfl⟩) h_y_1 ?_)
        intro A361 c361 hs361
        refine st (stS none 22 1 gv0 0 (.slice A361 y_1.length c361) [.slice A_1_303 t.length c_2_303] 22 H rfl (by kernel_rfl) (by kernel_rfl) rfl (of_decide_eq_true rfl) ?_)
        intro w362 H
        refine seg 2 [.le 1, .bl 0, .le 0] [(0, .func (.yield lY) #[] #[]), (1, .pointer (some (⟨gv0, 0, none⟩)))] (by kernel_rfl) ?_
        refine leR (nk302, y_1, zs2, A361, c361, my360) (Nat.lt_succ_self _) ⟨hnx302 _ (Option.some.inj hb_302).symm, (H.pull 1 rfl), (hsub303.trans hsy360), hs361⟩ (by kernel_rfl)
      · replace H : St w F m my360 [Y q, blkI gv0 [.slice A_1_303 t.length c_2_303] 22] w360 := H
        refine seg 3 [.co [0, 0, 1, 0, 1, 1, 0, 1, 0], .co [0, 0, 1, 0, 1, 1, 1], .bl 1, .le 1, .bl 0, .le 0] [] (by kernel_rfl) ?_
        refine retR [] [] (by kernel_rfl) (by kernel_rfl) (by kernel_rfl) ?_
        obtain rfl : .inr q = r := (hfr240 _ (hfin302 _ (Option.some.inj hb_302).symm).symm)
        exact ⟨_, rfl, my360, rfl, St.takeN 1 H⟩
    · rw [hb304]
      have p304 := of_decide_eq_false hb304
      refine seg 2 [.le 0] [] (by kernel_rfl) ?_
      refine leR_up (k' := []) (by rfl) ?_
      refine leJ (t, zs1, A_1_303, c_2_303, mm303) ⟨(hfin302 _ (Option.some.inj hb_302).symm).symm, H, hsub303, hs303_0⟩ (by kernel_rfl)
  rintro ⟨v_1, zs1, A_1_241, c_2_241, mm241⟩ wj240 ⟨hy240, H, hsub241, hs241_0⟩
  try dsimp only at hy240
  try dsimp only at H
  try dsimp only at hsub241
  try dsimp only at hs241_0
  have hf := hfl240 _ hy240
  try dsimp only at hf
  refine endR [] [] (by kernel_rfl) (by kernel_rfl) ?_
  obtain rfl : .inl zs1 = r := (Option.some.inj hf)
  exact ⟨_, rfl, mm241, rfl, St.takeN 1 (H.pull 1 rfl)⟩
theorem field_wide_c {m : Mem} {w : World} (hm : Has m w) (width : Int) :
    Calls Try.prog 77 #[.int .i64 width] w fun e w' => ∃ v, e = .returned v ∧ v = .bool (field_wide width) ∧ Ex w w' := by
  generalize hf : field_wide width = r
  unfold field_wide at hf
  have H := St.start0 hm
  refine callsR Try.func77 (by kernel_rfl) (by kernel_rfl) ?_
  refine seg 21 [.co [1, 0, 1, 0, 0, 0, 0, 0, 0, 0, 1], .co [1, 0, 1, 0, 0, 0, 0, 0, 0, 1], .co [1, 0, 1, 0, 0, 0, 0, 0, 1], .co [1, 0, 1, 0, 0, 0, 0, 1], .bl 1, .bl 2, .co [1, 0, 1, 0, 1], .bl 0, .co [1, 1]] [(3, .int .i64 width), (4, .bool (width == 1))] (by kernel_rfl) ?_
  rcases condT hf with ⟨hb17, hf⟩ | ⟨hb17, hf⟩
  · rw [hb17]
    refine seg 10 [.co [1, 0, 1, 0, 1, 0, 1], .co [1, 0, 1, 0, 1, 1], .bl 0, .co [1, 1]] [(2, .bool true)] (by kernel_rfl) ?_
    refine retR [2] [.bool true] (by kernel_rfl) (by kernel_rfl) (by kernel_rfl) ?_
    have hret := hf
    subst hret
    exact ⟨_, rfl, rfl, H.scalar⟩
  · rw [hb17]
    refine seg 5 [.co [1, 0, 1, 0, 0, 0, 0, 0, 0, 1], .co [1, 0, 1, 0, 0, 0, 0, 0, 1], .co [1, 0, 1, 0, 0, 0, 0, 1], .bl 1, .bl 2, .co [1, 0, 1, 0, 1], .bl 0, .co [1, 1]] [(3, .int .i64 width), (4, .bool (width == 2))] (by kernel_rfl) ?_
    rcases condT hf with ⟨hb18, hf⟩ | ⟨hb18, hf⟩
    · rw [hb18]
      refine seg 8 [.co [1, 0, 1, 0, 1, 0, 1], .co [1, 0, 1, 0, 1, 1], .bl 0, .co [1, 1]] [(2, .bool true)] (by kernel_rfl) ?_
      refine retR [2] [.bool true] (by kernel_rfl) (by kernel_rfl) (by kernel_rfl) ?_
      have hret := hf
      subst hret
      exact ⟨_, rfl, rfl, H.scalar⟩
    · rw [hb18]
      refine seg 8 [.co [1, 0, 1, 0, 0, 0, 0, 0, 1, 0, 1], .co [1, 0, 1, 0, 0, 0, 0, 0, 1, 1], .co [1, 0, 1, 0, 0, 0, 0, 1], .bl 1, .bl 2, .co [1, 0, 1, 0, 1], .bl 0, .co [1, 1]] [(3, .int .i64 width), (7, .bool (width == 4))] (by kernel_rfl) ?_
      rcases condT hf with ⟨hb19, hf⟩ | ⟨hb19, hf⟩
      · rw [hb19]
        refine seg 9 [.co [1, 0, 1, 0, 1, 0, 1], .co [1, 0, 1, 0, 1, 1], .bl 0, .co [1, 1]] [(2, .bool true)] (by kernel_rfl) ?_
        refine retR [2] [.bool true] (by kernel_rfl) (by kernel_rfl) (by kernel_rfl) ?_
        have hret := hf
        subst hret
        exact ⟨_, rfl, rfl, H.scalar⟩
      · rw [hb19]
        refine seg 5 [.co [1, 0, 1, 0, 0, 0, 0, 0, 1, 1], .co [1, 0, 1, 0, 0, 0, 0, 1], .bl 1, .bl 2, .co [1, 0, 1, 0, 1], .bl 0, .co [1, 1]] [(7, .bool (width == 8))] (by kernel_rfl) ?_
        rcases condT hf with ⟨hb20, hf⟩ | ⟨hb20, hf⟩
        · rw [hb20]
          refine seg 7 [.co [1, 0, 1, 0, 1, 0, 1], .co [1, 0, 1, 0, 1, 1], .bl 0, .co [1, 1]] [(2, .bool true)] (by kernel_rfl) ?_
          refine retR [2] [.bool true] (by kernel_rfl) (by kernel_rfl) (by kernel_rfl) ?_
          have hret := hf
          subst hret
          exact ⟨_, rfl, rfl, H.scalar⟩
        · rw [hb20]
          refine seg 7 [.co [1, 1, 1]] [(2, .bool false)] (by kernel_rfl) ?_
          refine retR [2] [.bool false] (by kernel_rfl) (by kernel_rfl) (by kernel_rfl) ?_
          have hret := hf
          subst hret
          exact ⟨_, rfl, rfl, H.scalar⟩
theorem field_fits_c {m : Mem} {w : World} (hm : Has m w) (n_ : UInt64) (width : Int) {r : Bool} (hf : field_fits n_ width = some r) :
    Calls Try.prog 78 #[.int .u64 (n_.toNat : Int), .int .i64 width] w fun e w' => ∃ v, e = .returned v ∧ v = .bool r ∧ Ex w w' := by
  unfold field_fits at hf
  have H := St.start0 hm
  refine callsR Try.func78 (by kernel_rfl) (by kernel_rfl) ?_
  refine seg 9 [.op [1, 0] 3, .co [1, 1]] [(0, .int .u64 (n_.toNat : Int)), (1, .int .i64 width), (7, .bool (width == 8))] (by kernel_rfl) ?_
  rcases condT hf with ⟨hb3, hf⟩ | ⟨hb3, hf⟩
  · rw [hb3]
    refine seg 8 [.co [1, 1]] [(4, .bool true)] (by kernel_rfl) ?_
    refine retR [4] [.bool true] (by kernel_rfl) (by kernel_rfl) (by kernel_rfl) ?_
    have hret := (Option.some.inj hf)
    subst hret
    exact ⟨_, rfl, rfl, H.scalar⟩
  · rw [hb3]
    refine seg 3 [.op [1, 0] 6, .co [1, 1]] [(7, .bool false), (8, .int .u64 (n_.toNat : Int)), (10, .int .i64 (IntKind.i64.wrap (8 * width)))] (by kernel_rfl) ?_
    obtain ⟨hc4, hf⟩ := chkE hf
    refine st (runR (by kernel_rfl : fetch _ _ _ _ _ = some ((some 11), vS (Op.shift .shr .u64 (n_.toNat : Int) .i64 (IntKind.i64.wrap (8 * width))))) (shr64_run _ _ (of_decide_eq_true hc4)) ?_)
    refine seg 4 [.co [1, 1]] [(4, .bool (((shr64 n_ (IntKind.i64.wrap (8 * width))).toNat : Int) == 0))] (by kernel_rfl) ?_
    refine retR [4] [.bool (((shr64 n_ (IntKind.i64.wrap (8 * width))).toNat : Int) == 0)] (by kernel_rfl) (by kernel_rfl) (by kernel_rfl) ?_
    obtain rfl : (((shr64 n_ (IntKind.i64.wrap (8 * width))).toNat : Int) == 0) = r := (Option.some.inj hf)
    exact ⟨_, rfl, rfl, H.scalar⟩
theorem field_copied_c {m : Mem} {w : World} (hm : Has m w) (b : (List UInt8)) (A0_0 : Option Addr) (c0_0 : Nat) (s0_0 : SlI rU8 m A0_0 c0_0 b) {r : (List UInt8)} (hf : field_copied b = some r) :
    Calls Try.prog 80 #[.slice A0_0 b.length c0_0] w fun e w' => ∃ v, e = .returned v ∧ ∃ Az_0 : Option Addr, ∃ cz_0 : Nat, ∃ m' : Mem, v = .slice Az_0 r.length cz_0 ∧ St w noF m m' [rowI rU8 5 Az_0 cz_0 r] w' := by
  unfold field_copied at hf
  have H := St.start0 hm
  refine callsR Try.func80 (by kernel_rfl) (by kernel_rfl) ?_
  refine seg 6 [.op [1, 0] 0, .co [1, 1]] [(0, .slice A0_0 b.length c0_0)] (by kernel_rfl) ?_
  refine st (newS (some 3) (fun g => .slice (some ⟨g, 0, none⟩) 0 0) [] 5 H (by kernel_rfl) ?_)
  intro g1 w1 H
  refine seg 1 [.op [1, 0] 2, .co [1, 1]] [(3, .slice (some ⟨g1, 0, none⟩) 0 0), (4, .slice A0_0 b.length c0_0)] (by kernel_rfl) ?_
  have H := H.toRow (r := rU8) (l := ([] : List UInt8)) 0 rfl (Rows.u8.2 rfl) (Nat.le_of_ble_eq_true rfl)
  obtain ⟨xs2, hr2, hx2⟩ := s0_0.cs
  obtain ⟨b1, h_b1, hf⟩ := bindE hf
  refine st (appS (r := rU8) (some 5) 30 5 1 (.int .u8 0) 30 0 (some ⟨g1, 0, none⟩) A0_0 0 b.length c0_0 ([] : List UInt8) b b1 _ H rfl ⟨Try.underlying30, by kernel_rfl⟩ rfl (by decide) (by kernel_rfl) (hx2.cs H.has) hr2 rfl h_b1 (by decide) (by decide) ?_)
  intro A3 c3 w3 H
  refine seg 2 [.co [1, 1]] [(2, .slice A3 b1.length c3)] (by kernel_rfl) ?_
  refine retR [2] [.slice A3 b1.length c3] (by kernel_rfl) (by kernel_rfl) (by kernel_rfl) ?_
  have hret := (Option.some.inj hf)
  subst hret
  exact ⟨_, rfl, A3, c3, m, rfl, H⟩
theorem field_store_c {m : Mem} {w : World} (hm : Has m w) (b : (List UInt8)) (A0_0 : Option Addr) (c0_0 : Nat) (n_ : UInt64) (width : Int) {F : Nat → Prop} (hsep : Sep m w [rowI rU8 5 A0_0 c0_0 b] F) (hF : ∀ k, F k → m k = none) {r : (List UInt8)} (hf : field_store b n_ width = some r) :
    Calls Try.prog 79 #[.slice A0_0 b.length c0_0, .int .u64 (n_.toNat : Int), .int .i64 width] w fun e w' => ∃ v, e = .returned v ∧ ∃ Az_0 : Option Addr, ∃ cz_0 : Nat, ∃ m' : Mem, v = .slice Az_0 r.length cz_0 ∧ St w F m m' [rowI rU8 5 Az_0 cz_0 r] w' := by
  unfold field_store at hf
  have H := St.start hm hsep hF
  refine callsR Try.func79 (by kernel_rfl) (by kernel_rfl) ?_
  refine seg 10 [.co [1, 0, 1], .co [1, 1]] [(0, .slice A0_0 b.length c0_0), (1, .int .u64 (n_.toNat : Int)), (8, .int .i64 width), (9, .int .i64 0)] (by kernel_rfl) ?_
  obtain ⟨y42, hp42, hf⟩ := bindE hf
  refine joinR 0 (fun (x : (List UInt8) × Option Addr × Nat) => [(0, .slice (x.2.1) x.1.length (x.2.2))]) (fun (x : (List UInt8) × Option Addr × Nat) (wj42 : World) => y42 = x.1 ∧ St w F m m [rowI rU8 5 (x.2.1) (x.2.2) x.1] wj42) (by kernel_rfl) ?_ ?_
  · refine seg 1 [.co [1, 0, 1, 0], .bl 0, .le 0, .co [1, 1]] [(0, .slice A0_0 b.length c0_0), (1, .int .u64 (n_.toNat : Int)), (8, .int .i64 width), (9, .int .i64 0)] (by kernel_rfl) ?_
    obtain ⟨nn58, hR58⟩ := loopO_iff.1 hp42
    refine loopR 1 (fun (x : Nat × (List UInt8) × Int × Option Addr × Nat) => [(0, .slice (x.2.2.2.1) x.2.1.length (x.2.2.2.2)), (1, .int .u64 (n_.toNat : Int)), (8, .int .i64 width), (9, .int .i64 x.2.2.1)]) (fun (x : Nat × (List UInt8) × Int × Option Addr × Nat) (wl58 : World) => iter (fun s => field_store_l1 n_ width s.1 s.2) x.1 (x.2.1, x.2.2.1) = some y42 ∧ St w F m m [rowI rU8 5 (x.2.2.2.1) (x.2.2.2.2) x.2.1] wl58) (fun (x : Nat × (List UInt8) × Int × Option Addr × Nat) => x.1) (nn58, b, 0, A0_0, c0_0) (by kernel_rfl) (by kernel_rfl) (by kernel_rfl) ?_ ?_
    · exact ⟨hR58, H⟩
    rintro ⟨n58, b1, t, A_1_59, c_2_59⟩ wl58 ⟨hR58, H⟩
    try dsimp only at hR58
    try dsimp only at H
    obtain ⟨nk58, q58, rfl, hb_58, hnx58, hfin58⟩ := iterE hR58
    replace hb_58 : field_store_l1 n_ width b1 t = some q58 := hb_58
    unfold field_store_l1 at hb_58
    refine seg 5 [.co [1, 0, 1, 0, 0, 1, 0], .co [1, 0, 1, 0, 0, 1, 1], .le 1, .bl 0, .le 0, .co [1, 1]] [(0, .slice A_1_59 b1.length c_2_59), (1, .int .u64 (n_.toNat : Int)), (8, .int .i64 width), (9, .int .i64 t), (10, .bool (decide (t < width)))] (by kernel_rfl) ?_
    rcases condT hb_58 with ⟨hb60, hb_58⟩ | ⟨hb60, hb_58⟩
    · rw [hb60]
      have p60 := of_decide_eq_true hb60
      refine seg 14 [.op [1, 0, 1, 0, 0, 1, 1, 0, 0, 1] 4, .bl 1, .co [1, 0, 1, 0, 0, 1, 1, 1], .le 1, .bl 0, .le 0, .co [1, 1]] [(1, .int .u64 (n_.toNat : Int)), (8, .int .i64 width), (9, .int .i64 t), (12, .slice A_1_59 b1.length c_2_59), (13, .int .u64 (n_.toNat : Int)), (15, .int .i64 (IntKind.i64.wrap (8 * t)))] (by kernel_rfl) ?_
      replace H : St w F m m [rowI rU8 5 A_1_59 c_2_59 b1] wl58 := H
      obtain ⟨hc61, hb_58⟩ := chkE hb_58
      refine st (runR (by kernel_rfl : fetch _ _ _ _ _ = some ((some 16), vS (Op.shift .shr .u64 (n_.toNat : Int) .i64 (IntKind.i64.wrap (8 * t))))) (shr64_run _ _ (of_decide_eq_true hc61)) ?_)
      refine seg 1 [.op [1, 0, 1, 0, 0, 1, 1, 0, 0, 1] 6, .bl 1, .co [1, 0, 1, 0, 0, 1, 1, 1], .le 1, .bl 0, .le 0, .co [1, 1]] [(1, .int .u64 (n_.toNat : Int)), (8, .int .i64 width), (9, .int .i64 t), (12, .slice A_1_59 b1.length c_2_59), (17, .int .u8 (IntKind.u8.wrap ((shr64 n_ (IntKind.i64.wrap (8 * t))).toNat : Int)))] (by kernel_rfl) ?_
      rw [q8_u64 (shr64 n_ (IntKind.i64.wrap (8 * t)))]
      refine st (newS (some 18) (fun g => .slice (some ⟨g, 0, none⟩) 1 1) [.int .u8 (((shr64 n_ (IntKind.i64.wrap (8 * t))).toUInt8).toNat : Int)] 5 H (by kernel_rfl) ?_)
      intro g62 w62 H
      obtain ⟨b2, h_b2, hb_58⟩ := bindE hb_58
      refine st (appS (r := rU8) (some 19) 30 5 1 (.int .u8 0) 30 1 A_1_59 (some ⟨g62, 0, none⟩) c_2_59 1 1 b1 [(shr64 n_ (IntKind.i64.wrap (8 * t))).toUInt8] b2 _ H rfl ⟨Try.underlying30, by kernel_rfl⟩ rfl (by decide) (by kernel_rfl) (Cs.of_blk (H.blk 0 rfl)) (Rows.u8.2 rfl) rfl h_b2 (by decide) (by decide) ?_)
      intro A63 c63 w63 H
      replace H := H.drop 0 rfl
      refine seg 7 [.le 1, .bl 0, .le 0, .co [1, 1]] [(0, .slice A63 b2.length c63), (1, .int .u64 (n_.toNat : Int)), (8, .int .i64 width), (9, .int .i64 (IntKind.i64.wrap (t + 1)))] (by kernel_rfl) ?_
      refine leR (nk58, b2, (IntKind.i64.wrap (t + 1)), A63, c63) (Nat.lt_succ_self _) ⟨hnx58 _ (Option.some.inj hb_58).symm, H⟩ (by kernel_rfl)
    · rw [hb60]
      have p60 := of_decide_eq_false hb60
      refine seg 2 [.le 0, .co [1, 1]] [(0, .slice A_1_59 b1.length c_2_59)] (by kernel_rfl) ?_
      refine leR_up (k' := []) (by rfl) ?_
      refine leJ (b1, A_1_59, c_2_59) ⟨(hfin58 _ (Option.some.inj hb_58).symm).symm, H⟩ (by kernel_rfl)
  rintro ⟨b1, A_1_43, c_2_43⟩ wj42 ⟨hy42, H⟩
  try dsimp only at hy42
  try dsimp only at H
  rw [hy42] at hf
  refine seg 5 [.co [1, 1, 1]] [(6, .slice A_1_43 b1.length c_2_43)] (by kernel_rfl) ?_
  refine retR [6] [.slice A_1_43 b1.length c_2_43] (by kernel_rfl) (by kernel_rfl) (by kernel_rfl) ?_
  have hret := (Option.some.inj hf)
  subst hret
  exact ⟨_, rfl, A_1_43, c_2_43, m, rfl, H⟩
theorem field_Put_c {m : Mem} {w : World} (hm : Has m w) (b : (List UInt8)) (A0_0 : Option Addr) (c0_0 : Nat) (s0_0 : SlI rU8 m A0_0 c0_0 b) (n_ : UInt64) (width : Int) {r : ((List UInt8) × Int)} (hf : field_Put b n_ width = some r) :
    Calls Try.prog 43 #[.slice A0_0 b.length c0_0, .int .u64 (n_.toNat : Int), .int .i64 width] w fun e w' => ∃ v, e = .returned v ∧ ∃ Az_0 : Option Addr, ∃ cz_0 : Nat, ∃ m' : Mem, v = .tuple #[.slice Az_0 r.1.length cz_0, .int .i64 r.2] ∧ St w noF m m' [rowI rU8 5 Az_0 cz_0 r.1] w' := by
  unfold field_Put at hf
  have H := St.start0 hm
  refine callsR Try.func43 (by kernel_rfl) (by kernel_rfl) ?_
  refine seg 10 [.op [1, 0, 0, 0] 1, .co [1, 0, 0, 1], .bl 0, .co [1, 1]] [(0, .slice A0_0 b.length c0_0), (1, .int .u64 (n_.toNat : Int)), (2, .int .i64 width), (9, .int .i64 width)] (by kernel_rfl) ?_
  refine st (callR (some 10) 77 #[.int .i64 width] Try.call77 (field_wide_c H.has width) (by kernel_rfl) ?_)
  rintro _ w9 ⟨rfl, hx9⟩
  replace H := H.ex hx9
  refine seg 3 [.co [1, 0, 0, 1], .bl 0, .co [1, 1]] [(0, .slice A0_0 b.length c0_0), (1, .int .u64 (n_.toNat : Int)), (2, .int .i64 width), (8, .bool (!(field_wide width)))] (by kernel_rfl) ?_
  rcases condT hf with ⟨hb10, hf⟩ | ⟨hb10, hf⟩
  · rw [hb10]
    refine seg 5 [.op [1, 0, 0, 1, 1, 0] 2, .co [1, 0, 0, 1, 1, 1], .bl 0, .co [1, 1]] [(0, .slice A0_0 b.length c0_0), (1, .int .u64 (n_.toNat : Int)), (2, .int .i64 width), (13, .int .u64 (n_.toNat : Int)), (14, .int .i64 width)] (by kernel_rfl) ?_
    replace H : St w noF m m [] w9 := H
    obtain ⟨fits, h_fits, hf⟩ := bindE hf
    refine st (callR (some 15) 78 #[.int .u64 (n_.toNat : Int), .int .i64 width] Try.call78 (field_fits_c H.has n_ width h_fits) (by kernel_rfl) ?_)
    rintro _ w11 ⟨rfl, hx11⟩
    replace H := H.ex hx11
    refine seg 3 [.co [1, 0, 0, 1, 1, 1], .bl 0, .co [1, 1]] [(0, .slice A0_0 b.length c0_0), (1, .int .u64 (n_.toNat : Int)), (2, .int .i64 width), (12, .bool (!fits))] (by kernel_rfl) ?_
    rcases condT hf with ⟨hb12, hf⟩ | ⟨hb12, hf⟩
    · rw [hb12]
      refine seg 6 [.op [1, 1, 0] 1, .co [1, 1, 1]] [(1, .int .u64 (n_.toNat : Int)), (2, .int .i64 width), (17, .slice A0_0 b.length c0_0)] (by kernel_rfl) ?_
      obtain ⟨copied, h_copied, hf⟩ := bindE hf
      refine st (callR (some 18) 80 #[.slice A0_0 b.length c0_0] Try.call80 (field_copied_c H.has b A0_0 c0_0 s0_0 h_copied) (by kernel_rfl) ?_)
      rintro _ w13 ⟨A13_0, c13_0, mk13, rfl, hS13⟩
      have hsub13 := hS13.sub
      replace H := H.call0 hS13
      refine seg 2 [.op [1, 1, 0] 4, .co [1, 1, 1]] [(18, .slice A13_0 copied.length c13_0), (19, .int .u64 (n_.toNat : Int)), (20, .int .i64 width)] (by kernel_rfl) ?_
      obtain ⟨store, h_store, hf⟩ := bindE hf
      obtain ⟨F14, hse14, hFn14, hcl14⟩ := St.call [rowI rU8 5 A13_0 c13_0 copied] H
      refine st (callR (some 21) 79 #[.slice A13_0 copied.length c13_0, .int .u64 (n_.toNat : Int), .int .i64 width] Try.call79 (field_store_c H.has copied A13_0 c13_0 n_ width hse14 hFn14 h_store) (by kernel_rfl) ?_)
      rintro _ w14 ⟨A14_0, c14_0, mk14, rfl, hS14⟩
      have hsub14 := hS14.sub
      replace H := hcl14 _ _ _ hS14
      refine seg 3 [.co [1, 1, 1]] [(6, .slice A14_0 store.length c14_0), (7, .int .i64 0)] (by kernel_rfl) ?_
      refine retR [6, 7] [.slice A14_0 store.length c14_0, .int .i64 0] (by kernel_rfl) (by kernel_rfl) (by kernel_rfl) ?_
      obtain rfl : (store, 0) = r := (Option.some.inj hf)
      exact ⟨_, rfl, A14_0, c14_0, mk14, rfl, H⟩
    · rw [hb12]
      refine seg 6 [.co [1, 0, 0, 1, 1, 1, 0, 1], .bl 0, .co [1, 1]] [(6, .slice none 0 0), (7, .int .i64 9)] (by kernel_rfl) ?_
      have H := H.nilR rU8 5
      refine retR [6, 7] [.slice none 0 0, .int .i64 9] (by kernel_rfl) (by kernel_rfl) (by kernel_rfl) ?_
      obtain rfl : ([], 9) = r := (Option.some.inj hf)
      exact ⟨_, rfl, none, 0, m, rfl, H⟩
  · rw [hb10]
    refine seg 6 [.co [1, 0, 0, 1, 0, 1], .bl 0, .co [1, 1]] [(6, .slice none 0 0), (7, .int .i64 1)] (by kernel_rfl) ?_
    have H := H.nilR rU8 5
    refine retR [6, 7] [.slice none 0 0, .int .i64 1] (by kernel_rfl) (by kernel_rfl) (by kernel_rfl) ?_
    obtain rfl : ([], 1) = r := (Option.some.inj hf)
    exact ⟨_, rfl, none, 0, m, rfl, H⟩
theorem dirent_Encode_1_c {m : Mem} {w : World} (hm : Has m w) (n_ : Int) (width : Int) (gv0 : Nat) (v_ : (List UInt8)) (Av0_0 : Option Addr) (cv0_0 : Nat) {F : Nat → Prop} (hsep : Sep m w [blkI gv0 [.slice Av0_0 v_.length cv0_0] 30, rowI rU8 5 Av0_0 cv0_0 v_] F) (hF : ∀ k, F k → m k = none) {r : (List UInt8)} (hf : dirent_Encode_1 n_ width v_ = some r) :
    Calls Try.prog 42 #[.int .i64 n_, .int .i64 width, .pointer (some (⟨gv0, 0, none⟩))] w fun e w' => ∃ v, e = .returned v ∧ ∃ Az_o0_0 : Option Addr, ∃ cz_o0_0 : Nat, ∃ m' : Mem, v = .tuple #[] ∧ St w F m m' [blkI gv0 [.slice Az_o0_0 r.length cz_o0_0] 30, rowI rU8 5 Az_o0_0 cz_o0_0 r] w' := by
  unfold dirent_Encode_1 at hf
  have H := St.start hm hsep hF
  refine callsR Try.func42 (by kernel_rfl) (by kernel_rfl) ?_
  refine seg 1 [.op [] 0] [(0, .int .i64 n_), (1, .int .i64 width), (2, .pointer (some (⟨gv0, 0, none⟩)))] (by kernel_rfl) ?_
  refine st (ldR (some 6) 30 (⟨gv0, 0, none⟩) (.slice Av0_0 v_.length cv0_0) (by kernel_rfl) (by kernel_rfl) (H.cellB 0 rfl rfl) ?_)
  refine seg 3 [.op [] 4] [(2, .pointer (some (⟨gv0, 0, none⟩))), (6, .slice Av0_0 v_.length cv0_0), (8, .int .u64 (IntKind.u64.wrap n_)), (9, .int .i64 width)] (by kernel_rfl) ?_
  rw [q64_wrap n_]
  have H0_1 := H
  obtain ⟨mf2, hsub2, hsf2, H⟩ := H.fixR 1 rfl
  obtain ⟨put, h_put, hf⟩ := bindE hf
  refine st (callR (some 10) 43 #[.slice Av0_0 v_.length cv0_0, .int .u64 ((UInt64.ofInt n_).toNat : Int), .int .i64 width] Try.call43 (field_Put_c H.has v_ Av0_0 cv0_0 hsf2 (UInt64.ofInt n_) width h_put) (by kernel_rfl) ?_)
  rintro _ w3 ⟨A3_0, c3_0, mk3, rfl, hS3⟩
  replace H := H0_1.callB hS3 ⟨rowI_ind (fun _ _ _ _ h => h), trivial⟩
  refine seg 3 [.op [] 8] [(2, .pointer (some (⟨gv0, 0, none⟩))), (11, .slice A3_0 put.1.length c3_0)] (by kernel_rfl) ?_
  refine st (stS none 30 1 gv0 0 (.slice A3_0 put.1.length c3_0) [.slice Av0_0 v_.length cv0_0] 30 H rfl (by kernel_rfl) (by kernel_rfl) rfl (of_decide_eq_true rfl) ?_)
  intro w4 H
  refine seg 1 [] [] (by kernel_rfl) ?_
  refine endR [] [] (by kernel_rfl) (by kernel_rfl) ?_
  obtain rfl : put.1 = r := (Option.some.inj hf)
  exact ⟨_, rfl, A3_0, c3_0, m, rfl, (St.takeN 2 (H.pull 1 rfl))⟩
theorem dirent_Encode_c {m : Mem} {w : World} (hm : Has m w) (l_ : (List TApiKid)) (A0_0 : Option Addr) (c0_0 : Nat) (s0_0 : SlI rApiKid m A0_0 c0_0 l_) {r : ((List UInt8) × Int)} (hf : dirent_Encode l_ = some r) :
    Calls Try.prog 15 #[.slice A0_0 l_.length c0_0] w fun e w' => ∃ v, e = .returned v ∧ ∃ Az_0 : Option Addr, ∃ cz_0 : Nat, ∃ m' : Mem, v = .tuple #[.slice Az_0 r.1.length cz_0, .int .i64 r.2] ∧ St w noF m m' [rowI rU8 5 Az_0 cz_0 r.1] w' := by
  unfold dirent_Encode at hf
  have H := St.start0 hm
  refine callsR Try.func15 (by kernel_rfl) (by kernel_rfl) ?_
  refine seg 9 [.op [1, 0, 0] 1, .co [1, 0, 1], .co [1, 1]] [(0, .slice A0_0 l_.length c0_0), (9, .slice A0_0 l_.length c0_0)] (by kernel_rfl) ?_
  obtain ⟨check, h_check, hf⟩ := bindE hf
  refine st (callR (some 10) 18 #[.slice A0_0 l_.length c0_0] Try.call18 (dirent_Check_c H.has l_ A0_0 c0_0 s0_0 h_check) (by kernel_rfl) ?_)
  rintro _ w1 ⟨rfl, hx1⟩
  replace H := H.ex hx1
  refine seg 2 [.co [1, 0, 1], .co [1, 1]] [(0, .slice A0_0 l_.length c0_0), (11, .bool (check != 0))] (by kernel_rfl) ?_
  rcases condT hf with ⟨hb3, hf⟩ | ⟨hb3, hf⟩
  · rw [hb3]
    refine seg 6 [.co [1, 0, 1, 0, 1], .co [1, 1]] [(2, .slice none 0 0), (3, .int .i64 1)] (by kernel_rfl) ?_
    have H := H.nilR rU8 5
    refine retR [2, 3] [.slice none 0 0, .int .i64 1] (by kernel_rfl) (by kernel_rfl) (by kernel_rfl) ?_
    obtain rfl : ([], 1) = r := (Option.some.inj hf)
    exact ⟨_, rfl, none, 0, m, rfl, H⟩
  · rw [hb3]
    refine seg 4 [.op [1, 1, 0] 0, .co [1, 1, 1]] [(0, .slice A0_0 l_.length c0_0)] (by kernel_rfl) ?_
    refine st (newS (some 4) (fun g => .pointer (some ⟨g, 0, none⟩)) [.slice none 0 0] 30 H (by kernel_rfl) ?_)
    intro g4 w4 H
    refine seg 4 [.op [1, 1, 1, 0] 1, .co [1, 1, 1, 1]] [(0, .slice A0_0 l_.length c0_0), (4, .pointer (some (⟨g4, 0, none⟩))), (12, .func (.func 42) #[] #[.pointer (some (⟨g4, 0, none⟩))])] (by kernel_rfl) ?_
    refine st (newS (some 5) (fun g => .pointer (some ⟨g, 0, none⟩)) [.nilFunc] 72 H (by kernel_rfl) ?_)
    intro g5 w5 H
    refine st (stS none 72 0 g5 0 (.func (.func 42) #[] #[.pointer (some (⟨g4, 0, none⟩))]) [.nilFunc] 72 H rfl (by kernel_rfl) (by kernel_rfl) rfl (of_decide_eq_true rfl) ?_)
    intro w6 H
    refine seg 5 [.op [1, 1, 1, 1, 0, 0] 1, .co [1, 1, 1, 1, 0, 1], .co [1, 1, 1, 1, 1]] [(4, .pointer (some (⟨g4, 0, none⟩))), (5, .pointer (some (⟨g5, 0, none⟩))), (13, .slice A0_0 l_.length c0_0)] (by kernel_rfl) ?_
    replace H : St w noF m m [blkI g5 [.func (.func 42) #[] #[.pointer (some (⟨g4, 0, none⟩))]] 72, blkI g4 [.slice none 0 0] 30] w6 := H
    refine st (callR (some 14) 44 #[.slice A0_0 l_.length c0_0] Try.call44 (dirent_rows_c H.has l_ A0_0 c0_0 s0_0) (by kernel_rfl) ?_)
    rintro _ w7 ⟨g7_0_0, A7_0_0_0, c7_0_0_0, mk7, rfl, hS7, hs7_0⟩
    have hsub7 := hS7.sub
    replace H := H.call0 hS7
    refine seg 2 [.co [1, 1, 1, 1, 0, 1, 0], .bl 0, .co [1, 1, 1, 1, 1]] [(4, .pointer (some (⟨g4, 0, none⟩))), (5, .pointer (some (⟨g5, 0, none⟩))), (14, .func (.func 81) #[] #[.pointer (some (⟨g7_0_0, 0, none⟩))])] (by kernel_rfl) ?_
    have H := H.nilR rU8 5
    obtain ⟨yv217, hyv217, hf⟩ := bindE hf
    have hrr217 := mapOut hyv217
    have Hr217 := ((((H.pull 1 rfl).pull 2 rfl).pull 2 rfl).pull 3 rfl)
    refine rangeR (σ := []) (fun (x : (List UInt8)) (b_ : Option Addr × Nat) => [blkI g4 [.slice (b_.1) x.length (b_.2)] 30, rowI rU8 5 (b_.1) (b_.2) x, blkI g5 [.func (.func 42) #[] #[.pointer (some (⟨g4, 0, none⟩))]] 72]) (fun (q : Empty) (_ : Unit) => ([] : List K.Item)) (fun q => q.elim) (fun s x => (dirent_Encode_r1 s x).map Sum.inl) (fun (m : Mem) (args : Array Value) (x : (List TApiKid)) => ∃ Az_0_0, ∃ cz_0_0, args = #[.slice Az_0_0 x.length cz_0_0] ∧ SlI rApiKid m Az_0_0 cz_0_0 x) [15] 14 81 #[.pointer (some (⟨g7_0_0, 0, none⟩))] [blkI g7_0_0 [.slice A7_0_0_0 ((dirent_rows l_).length) c7_0_0_0] 22] [] (none, 0) (.inl yv217) (by kernel_rfl) (by kernel_rfl) rfl Try.call81 (by intro m1 args x h; obtain ⟨_, _, rfl, _⟩ := h; rfl) Hr217 ?_ ?_ ?_ (fun q => q.elim)
    · intro l X Y W F1 hm1 hY hse hF1
      exact (dirent_rows_1_c hm1 l hY [] g7_0_0 (dirent_rows l_) A7_0_0_0 c7_0_0_0 hs7_0 hse hF1 hrr217).mono (fun e w' ⟨v, h1, m', h2, h3⟩ => ⟨v, h1, m', h3⟩)
    · rintro l out ⟨A_1_217, c_2_217⟩ row y args mr217 Fr217 Wr217 hsr217 ⟨Ay217_0_0, cy217_0_0, rfl, hy217_0_0⟩ hbd H
      obtain ⟨sr217, hbr217, rfl⟩ := mapInl hbd
      replace hbr217 : dirent_Encode_r1 out row = some sr217 := hbr217
      unfold dirent_Encode_r1 at hbr217
      replace H : St Wr217 Fr217 mr217 mr217 [blkI g4 [.slice (A_1_217) out.length (c_2_217)] 30, rowI rU8 5 (A_1_217) (c_2_217) out, blkI g5 [.func (.func 42) #[] #[.pointer (some (⟨g4, 0, none⟩))]] 72] Wr217 := H
      refine ⟨[(4, .pointer (some (⟨g4, 0, none⟩))), (5, .pointer (some (⟨g5, 0, none⟩))), (6, .slice Ay217_0_0 row.length cy217_0_0)], fun W' => ?_, ?_⟩
      · refine seg 3 [] [(4, .pointer (some (⟨g4, 0, none⟩))), (5, .pointer (some (⟨g5, 0, none⟩))), (6, .slice Ay217_0_0 row.length cy217_0_0)] (by kernel_rfl) ?_
        exact asgEnd
      · refine seg 3 [.op [1, 1, 1, 1, 0, 1, 0, 1, 0, 0] 0, .co [1, 1, 1, 1, 0, 1, 0, 1, 0, 1], .bl 1] [(4, .pointer (some (⟨g4, 0, none⟩))), (5, .pointer (some (⟨g5, 0, none⟩))), (6, .slice Ay217_0_0 row.length cy217_0_0)] (by kernel_rfl) ?_
        refine st (ldR (some 16) 72 (⟨g5, 0, none⟩) (.func (.func 42) #[] #[.pointer (some (⟨g4, 0, none⟩))]) (by kernel_rfl) (by kernel_rfl) (H.cellB 2 rfl rfl) ?_)
        refine seg 2 [.op [1, 1, 1, 1, 0, 1, 0, 1, 0, 0] 3, .co [1, 1, 1, 1, 0, 1, 0, 1, 0, 1], .bl 1] [(4, .pointer (some (⟨g4, 0, none⟩))), (5, .pointer (some (⟨g5, 0, none⟩))), (6, .slice Ay217_0_0 row.length cy217_0_0), (16, .func (.func 42) #[] #[.pointer (some (⟨g4, 0, none⟩))]), (18, .int .i64 (row.length : Int))] (by kernel_rfl) ?_
        obtain ⟨encode, h_encode, hbr217⟩ := bindE hbr217
        obtain ⟨F218, hse218, hFn218, hcl218⟩ := St.call [blkI g4 [.slice A_1_217 out.length c_2_217] 30, rowI rU8 5 A_1_217 c_2_217 out] ((H.pull 1 rfl).pull 1 rfl)
        refine st (callR (some 19) 42 #[.int .i64 (row.length : Int), .int .i64 2, .pointer (some (⟨g4, 0, none⟩))] Try.call42 (dirent_Encode_1_c H.has (row.length : Int) 2 g4 out A_1_217 c_2_217 hse218 hFn218 h_encode) (by kernel_rfl) ?_)
        rintro _ w218 ⟨A218_o0_0, c218_o0_0, mk218, rfl, hS218⟩
        have hsub218 := hS218.sub
        replace H := hcl218 _ _ _ hS218
        refine seg 2 [.co [1, 1, 1, 1, 0, 1, 0, 1, 0, 1, 0], .co [1, 1, 1, 1, 0, 1, 0, 1, 0, 1, 1], .bl 1] [(4, .pointer (some (⟨g4, 0, none⟩))), (5, .pointer (some (⟨g5, 0, none⟩))), (6, .slice Ay217_0_0 row.length cy217_0_0)] (by kernel_rfl) ?_
        obtain ⟨x_, h_x_, hbr217⟩ := bindE hbr217
        obtain ⟨encode1, h_encode1, hbr217⟩ := bindE hbr217
        have hst : statB (bodyOf Try.f15) [1, 1, 1, 1, 0, 1, 0, 1, 0, 1, 0] = true := by kernel_rfl
        refine drawS (fun w' => Has mk218 w' ∧ w'.heap[g5]? = some (.cells [.func (.func 42) #[] #[.pointer (some (⟨g4, 0, none⟩))]].toArray 72 (0, 0))) H (by kernel_rfl) (by kernel_rfl) ?_
        intro w222 H
        refine segD2 hst [1] [1] [(4, .pointer (some (⟨g4, 0, none⟩))), (5, .pointer (some (⟨g5, 0, none⟩))), (6, .slice Ay217_0_0 row.length cy217_0_0), (21, .slice Ay217_0_0 row.length cy217_0_0)] (by kernel_rfl) ?_
        refine takeD2 (i := 0) (d := (some 20)) (s := vS (Instr.loadAt 72 (.pointer (some (⟨g5, 0, none⟩))))) (v := (.func (.func 42) #[] #[.pointer (some (⟨g4, 0, none⟩))])) hst (by kernel_rfl) (by kernel_rfl) (fun w' hw' => ld_run _ _ _ (by kernel_rfl) (blk_cell hw'.2 rfl)) ?_
        obtain ⟨ad223, _, ea223, ⟨rfl, hl223_0⟩, hc223⟩ := (hy217_0_0.mono hsub218).at_ h_x_ (by decide)
        refine stD2 (i := 2) (by kernel_rfl) ⟨H.has, H.blk 2 rfl⟩ (idxS (some 22) 22 28 2 Ay217_0_0 ad223 row.length cy217_0_0 .i64 0 ea223 (by kernel_rfl) (by kernel_rfl) (by omega) (by have := (List.getElem?_eq_some_iff.1 h_x_).1; omega) ?_)
        refine segD2 hst [3] [1, 0, 2, 3] [(4, .pointer (some (⟨g4, 0, none⟩))), (5, .pointer (some (⟨g5, 0, none⟩))), (6, .slice Ay217_0_0 row.length cy217_0_0), (20, .func (.func 42) #[] #[.pointer (some (⟨g4, 0, none⟩))]), (23, .pointer (some ((ad223.add (0 * 2)).add 1)))] (by kernel_rfl) ?_
        refine stD2 (i := 4) (by kernel_rfl) ⟨H.has, H.blk 2 rfl⟩ (ldR (some 24) 3 ((ad223.add (0 * 2)).add 1) (.int .i64 x_.Ino) (by kernel_rfl) (by kernel_rfl) (H.cellI (hc223 1 _ rfl)) ?_)
        replace H := ((H.pull 1 rfl).pull 1 rfl)
        obtain ⟨F224, hse224, hFn224, hcl224⟩ := St.call [blkI g4 [.slice A218_o0_0 encode.length c218_o0_0] 30, rowI rU8 5 A218_o0_0 c218_o0_0 encode] H
        refine stD2 (i := 5) (by kernel_rfl) ⟨H.has, H.blk 2 rfl⟩ (callR (some 25) 42 #[.int .i64 x_.Ino, .int .i64 4, .pointer (some (⟨g4, 0, none⟩))] Try.call42 (dirent_Encode_1_c H.has x_.Ino 4 g4 encode A218_o0_0 c218_o0_0 hse224 hFn224 h_encode1) (by kernel_rfl) ?_)
        rintro _ w224 ⟨A224_o0_0, c224_o0_0, mk224, rfl, hS224⟩
        have hsub224 := hS224.sub
        replace H := hcl224 _ _ _ hS224
        refine endD2 (by kernel_rfl) ⟨(H.has.sub hsub224), H.blk 2 rfl⟩ ?_
        refine seg 6 [.co [1, 1, 1, 1, 0, 1, 0, 1, 0, 1, 1, 1], .bl 1] [(4, .pointer (some (⟨g4, 0, none⟩))), (5, .pointer (some (⟨g5, 0, none⟩))), (6, .slice Ay217_0_0 row.length cy217_0_0), (26, .slice Ay217_0_0 row.length cy217_0_0), (27, .int .i64 (row.length : Int)), (28, .int .i64 0)] (by kernel_rfl) ?_
        obtain ⟨y253, hp253, hbr217⟩ := bindE hbr217
        refine joinR 0 (fun (x : (List UInt8) × Option Addr × Nat × Mem) => []) (fun (x : (List UInt8) × Option Addr × Nat × Mem) (wj253 : World) => y253 = x.1 ∧ St Wr217 Fr217 mr217 x.2.2.2 [blkI g4 [.slice (x.2.1) x.1.length (x.2.2.1)] 30, rowI rU8 5 (x.2.1) (x.2.2.1) x.1, blkI g5 [.func (.func 42) #[] #[.pointer (some (⟨g4, 0, none⟩))]] 72] wj253 ∧ Sub mk224 x.2.2.2) (by kernel_rfl) ?_ ?_
        · refine seg 1 [.co [1, 1, 1, 1, 0, 1, 0, 1, 0, 1, 1, 1, 0], .bl 2, .le 0, .bl 1] [(4, .pointer (some (⟨g4, 0, none⟩))), (5, .pointer (some (⟨g5, 0, none⟩))), (6, .slice Ay217_0_0 row.length cy217_0_0), (26, .slice Ay217_0_0 row.length cy217_0_0), (27, .int .i64 (row.length : Int)), (28, .int .i64 0)] (by kernel_rfl) ?_
          obtain ⟨nn273, hR273⟩ := loopO_iff.1 hp253
          refine loopR 1 (fun (x : Nat × (List UInt8) × Nat × Option Addr × Nat × Mem) => [(4, .pointer (some (⟨g4, 0, none⟩))), (5, .pointer (some (⟨g5, 0, none⟩))), (6, .slice Ay217_0_0 row.length cy217_0_0), (26, .slice Ay217_0_0 row.length cy217_0_0), (27, .int .i64 (row.length : Int)), (28, .int .i64 (x.2.2.1 : Int))]) (fun (x : Nat × (List UInt8) × Nat × Option Addr × Nat × Mem) (wl273 : World) => iter (fun s => dirent_Encode_l1 row x_ s.1 s.2) x.1 (x.2.1, x.2.2.1) = some y253 ∧ St Wr217 Fr217 mr217 x.2.2.2.2.2 [blkI g4 [.slice (x.2.2.2.1) x.2.1.length (x.2.2.2.2.1)] 30, rowI rU8 5 (x.2.2.2.1) (x.2.2.2.2.1) x.2.1, blkI g5 [.func (.func 42) #[] #[.pointer (some (⟨g4, 0, none⟩))]] 72] wl273 ∧ Sub mk224 x.2.2.2.2.2) (fun (x : Nat × (List UInt8) × Nat × Option Addr × Nat × Mem) => x.1) (nn273, encode1, 0, A224_o0_0, c224_o0_0, mk224) (by kernel_rfl) (by kernel_rfl) (by kernel_rfl) ?_ ?_
          · exact ⟨hR273, H, (Sub.refl _)⟩
          rintro ⟨n273, out1, t, A_1_274, c_2_274, mm274⟩ wl273 ⟨hR273, H, hsub274⟩
          try dsimp only at hR273
          try dsimp only at H
          try dsimp only at hsub274
          obtain ⟨nk273, q273, rfl, hb_273, hnx273, hfin273⟩ := iterE hR273
          replace hb_273 : dirent_Encode_l1 row x_ out1 t = some q273 := hb_273
          unfold dirent_Encode_l1 at hb_273
          refine seg 5 [.co [1, 1, 1, 1, 0, 1, 0, 1, 0, 1, 1, 1, 0, 0, 1, 0], .co [1, 1, 1, 1, 0, 1, 0, 1, 0, 1, 1, 1, 0, 0, 1, 1], .le 1, .bl 2, .le 0, .bl 1] [(4, .pointer (some (⟨g4, 0, none⟩))), (5, .pointer (some (⟨g5, 0, none⟩))), (6, .slice Ay217_0_0 row.length cy217_0_0), (26, .slice Ay217_0_0 row.length cy217_0_0), (27, .int .i64 (row.length : Int)), (28, .int .i64 (t : Int)), (29, .bool (decide ((t : Int) < (row.length : Int))))] (by kernel_rfl) ?_
          rcases condT hb_273 with ⟨hb275, hb_273⟩ | ⟨hb275, hb_273⟩
          · rw [hb275]
            have p275 := of_decide_eq_true hb275
            refine seg 6 [.op [1, 1, 1, 1, 0, 1, 0, 1, 0, 1, 1, 1, 0, 0, 1, 1, 0, 0, 0] 0, .co [1, 1, 1, 1, 0, 1, 0, 1, 0, 1, 1, 1, 0, 0, 1, 1, 0, 0, 1], .bl 3, .co [1, 1, 1, 1, 0, 1, 0, 1, 0, 1, 1, 1, 0, 0, 1, 1, 1], .le 1, .bl 2, .le 0, .bl 1] [(4, .pointer (some (⟨g4, 0, none⟩))), (5, .pointer (some (⟨g5, 0, none⟩))), (6, .slice Ay217_0_0 row.length cy217_0_0), (26, .slice Ay217_0_0 row.length cy217_0_0), (27, .int .i64 (row.length : Int)), (28, .int .i64 (t : Int))] (by kernel_rfl) ?_
            obtain ⟨x_1, h_x_1, hb_273⟩ := bindE hb_273
            obtain ⟨ad277, _, ea277, ⟨rfl, hl277_0⟩, hc277⟩ := (hy217_0_0.mono ((hsub218.trans hsub224).trans hsub274)).at_ h_x_1 (by decide)
            refine st (idxS (some 30) 22 28 2 Ay217_0_0 ad277 row.length cy217_0_0 .i64 (t : Int) ea277 (by kernel_rfl) (by kernel_rfl) (by omega) (by have := (List.getElem?_eq_some_iff.1 h_x_1).1; omega) ?_)
            refine st (ldAggR (some 31) 28 (ad277.add (t * 2)) [.string ⟨x_1.Name.toArray⟩, .int .i64 x_1.Ino] (by kernel_rfl) (by kernel_rfl) (fun j v hj => H.cellI (hc277 j v hj)) ?_)
            refine st (newS (some 8) (fun g => .pointer (some ⟨g, 0, none⟩)) [.string ⟨([] : List UInt8).toArray⟩, .int .i64 0] 28 H (by kernel_rfl) ?_)
            intro g278 w278 H
            refine st (stAggS none 28 0 g278 0 [.string ⟨x_1.Name.toArray⟩, .int .i64 x_1.Ino] [.string ⟨([] : List UInt8).toArray⟩, .int .i64 0] [.string ⟨x_1.Name.toArray⟩, .int .i64 x_1.Ino] 28 H rfl (by kernel_rfl) (by kernel_rfl) (by rfl) (of_decide_eq_true rfl) rfl ?_)
            intro w279 H
            refine seg 2 [.co [1, 1, 1, 1, 0, 1, 0, 1, 0, 1, 1, 1, 0, 0, 1, 1, 0, 0, 1, 0], .co [1, 1, 1, 1, 0, 1, 0, 1, 0, 1, 1, 1, 0, 0, 1, 1, 0, 0, 1, 1], .bl 3, .co [1, 1, 1, 1, 0, 1, 0, 1, 0, 1, 1, 1, 0, 0, 1, 1, 1], .le 1, .bl 2, .le 0, .bl 1] [(4, .pointer (some (⟨g4, 0, none⟩))), (5, .pointer (some (⟨g5, 0, none⟩))), (6, .slice Ay217_0_0 row.length cy217_0_0), (8, .pointer (some (⟨g278, 0, none⟩))), (26, .slice Ay217_0_0 row.length cy217_0_0), (27, .int .i64 (row.length : Int)), (28, .int .i64 (t : Int))] (by kernel_rfl) ?_
            obtain ⟨encode2, h_encode2, hb_273⟩ := bindE hb_273
            have hst : statB (bodyOf Try.f15) [1, 1, 1, 1, 0, 1, 0, 1, 0, 1, 1, 1, 0, 0, 1, 1, 0, 0, 1, 0] = true := by kernel_rfl
            refine drawS (fun w' => Has mm274 w' ∧ w'.heap[g278]? = some (.cells [.string ⟨x_1.Name.toArray⟩, .int .i64 x_1.Ino].toArray 28 (0, 0)) ∧ w'.heap[g5]? = some (.cells [.func (.func 42) #[] #[.pointer (some (⟨g4, 0, none⟩))]].toArray 72 (0, 0))) H (by kernel_rfl) (by kernel_rfl) ?_
            intro w281 H
            refine segD2 hst [1, 3] [1, 3] [(4, .pointer (some (⟨g4, 0, none⟩))), (5, .pointer (some (⟨g5, 0, none⟩))), (6, .slice Ay217_0_0 row.length cy217_0_0), (8, .pointer (some (⟨g278, 0, none⟩))), (26, .slice Ay217_0_0 row.length cy217_0_0), (27, .int .i64 (row.length : Int)), (28, .int .i64 (t : Int)), (33, .pointer (some (⟨g278, 1, none⟩))), (35, .slice Ay217_0_0 row.length cy217_0_0)] (by kernel_rfl) ?_
            refine takeD2 (i := 0) (d := (some 32)) (s := vS (Instr.loadAt 72 (.pointer (some (⟨g5, 0, none⟩))))) (v := (.func (.func 42) #[] #[.pointer (some (⟨g4, 0, none⟩))])) hst (by kernel_rfl) (by kernel_rfl) (fun w' hw' => ld_run _ _ _ (by kernel_rfl) (blk_cell hw'.2.2 rfl)) ?_
            refine takeD2 (i := 2) (d := (some 34)) (s := vS (Instr.loadAt 3 (.pointer (some (⟨g278, 1, none⟩))))) (v := (.int .i64 x_1.Ino)) hst (by kernel_rfl) (by kernel_rfl) (fun w' hw' => ld_run _ _ _ (by kernel_rfl) (blk_cell hw'.2.1 rfl)) ?_
            replace H : St Wr217 Fr217 mr217 mm274 [blkI g278 [.string ⟨x_1.Name.toArray⟩, .int .i64 x_1.Ino] 28, blkI g4 [.slice A_1_274 out1.length c_2_274] 30, rowI rU8 5 A_1_274 c_2_274 out1, blkI g5 [.func (.func 42) #[] #[.pointer (some (⟨g4, 0, none⟩))]] 72] w281 := H
            refine stD2 (i := 4) (by kernel_rfl) ⟨H.has, H.blk 0 rfl, H.blk 3 rfl⟩ (idxS (some 36) 22 28 2 Ay217_0_0 ad223 row.length cy217_0_0 .i64 0 ea223 (by kernel_rfl) (by kernel_rfl) (by omega) (by have := (List.getElem?_eq_some_iff.1 h_x_).1; omega) ?_)
            refine segD2 hst [5] [1, 3, 0, 2, 4, 5] [(4, .pointer (some (⟨g4, 0, none⟩))), (5, .pointer (some (⟨g5, 0, none⟩))), (6, .slice Ay217_0_0 row.length cy217_0_0), (8, .pointer (some (⟨g278, 0, none⟩))), (26, .slice Ay217_0_0 row.length cy217_0_0), (27, .int .i64 (row.length : Int)), (28, .int .i64 (t : Int)), (32, .func (.func 42) #[] #[.pointer (some (⟨g4, 0, none⟩))]), (34, .int .i64 x_1.Ino), (37, .pointer (some ((ad223.add (0 * 2)).add 1)))] (by kernel_rfl) ?_
            refine stD2 (i := 6) (by kernel_rfl) ⟨H.has, H.blk 0 rfl, H.blk 3 rfl⟩ (ldR (some 38) 3 ((ad223.add (0 * 2)).add 1) (.int .i64 x_.Ino) (by kernel_rfl) (by kernel_rfl) (H.cellI ((hsub224.trans hsub274).cell (hc223 1 _ rfl))) ?_)
            refine segD2 hst [7] [1, 3, 0, 2, 4, 5, 6, 7] [(4, .pointer (some (⟨g4, 0, none⟩))), (5, .pointer (some (⟨g5, 0, none⟩))), (6, .slice Ay217_0_0 row.length cy217_0_0), (8, .pointer (some (⟨g278, 0, none⟩))), (26, .slice Ay217_0_0 row.length cy217_0_0), (27, .int .i64 (row.length : Int)), (28, .int .i64 (t : Int)), (32, .func (.func 42) #[] #[.pointer (some (⟨g4, 0, none⟩))]), (39, .int .i64 (IntKind.i64.wrap (x_1.Ino - x_.Ino)))] (by kernel_rfl) ?_
            replace H := ((H.pull 2 rfl).pull 2 rfl)
            obtain ⟨F282, hse282, hFn282, hcl282⟩ := St.call [blkI g4 [.slice A_1_274 out1.length c_2_274] 30, rowI rU8 5 A_1_274 c_2_274 out1] H
            refine stD2 (i := 8) (by kernel_rfl) ⟨H.has, H.blk 2 rfl, H.blk 3 rfl⟩ (callR (some 40) 42 #[.int .i64 (IntKind.i64.wrap (x_1.Ino - x_.Ino)), .int .i64 2, .pointer (some (⟨g4, 0, none⟩))] Try.call42 (dirent_Encode_1_c H.has (IntKind.i64.wrap (x_1.Ino - x_.Ino)) 2 g4 out1 A_1_274 c_2_274 hse282 hFn282 h_encode2) (by kernel_rfl) ?_)
            rintro _ w282 ⟨A282_o0_0, c282_o0_0, mk282, rfl, hS282⟩
            have hsub282 := hS282.sub
            replace H := hcl282 _ _ _ hS282
            refine endD2 (by kernel_rfl) ⟨(H.has.sub hsub282), H.blk 2 rfl, H.blk 3 rfl⟩ ?_
            refine seg 2 [.op [1, 1, 1, 1, 0, 1, 0, 1, 0, 1, 1, 1, 0, 0, 1, 1, 0, 0, 1, 1, 0] 0, .co [1, 1, 1, 1, 0, 1, 0, 1, 0, 1, 1, 1, 0, 0, 1, 1, 0, 0, 1, 1, 1], .bl 3, .co [1, 1, 1, 1, 0, 1, 0, 1, 0, 1, 1, 1, 0, 0, 1, 1, 1], .le 1, .bl 2, .le 0, .bl 1] [(4, .pointer (some (⟨g4, 0, none⟩))), (5, .pointer (some (⟨g5, 0, none⟩))), (6, .slice Ay217_0_0 row.length cy217_0_0), (8, .pointer (some (⟨g278, 0, none⟩))), (26, .slice Ay217_0_0 row.length cy217_0_0), (27, .int .i64 (row.length : Int)), (28, .int .i64 (t : Int))] (by kernel_rfl) ?_
            refine st (ldR (some 41) 72 (⟨g5, 0, none⟩) (.func (.func 42) #[] #[.pointer (some (⟨g4, 0, none⟩))]) (by kernel_rfl) (by kernel_rfl) (H.cellB 3 rfl rfl) ?_)
            refine seg 1 [.op [1, 1, 1, 1, 0, 1, 0, 1, 0, 1, 1, 1, 0, 0, 1, 1, 0, 0, 1, 1, 0] 2, .co [1, 1, 1, 1, 0, 1, 0, 1, 0, 1, 1, 1, 0, 0, 1, 1, 0, 0, 1, 1, 1], .bl 3, .co [1, 1, 1, 1, 0, 1, 0, 1, 0, 1, 1, 1, 0, 0, 1, 1, 1], .le 1, .bl 2, .le 0, .bl 1] [(4, .pointer (some (⟨g4, 0, none⟩))), (5, .pointer (some (⟨g5, 0, none⟩))), (6, .slice Ay217_0_0 row.length cy217_0_0), (8, .pointer (some (⟨g278, 0, none⟩))), (26, .slice Ay217_0_0 row.length cy217_0_0), (27, .int .i64 (row.length : Int)), (28, .int .i64 (t : Int)), (41, .func (.func 42) #[] #[.pointer (some (⟨g4, 0, none⟩))]), (42, .pointer (some (⟨g278, 0, none⟩)))] (by kernel_rfl) ?_
            refine st (ldR (some 43) 9 (⟨g278, 0, none⟩) (.string ⟨x_1.Name.toArray⟩) (by kernel_rfl) (by kernel_rfl) (H.cellB 2 rfl rfl) ?_)
            refine seg 1 [.op [1, 1, 1, 1, 0, 1, 0, 1, 0, 1, 1, 1, 0, 0, 1, 1, 0, 0, 1, 1, 0] 4, .co [1, 1, 1, 1, 0, 1, 0, 1, 0, 1, 1, 1, 0, 0, 1, 1, 0, 0, 1, 1, 1], .bl 3, .co [1, 1, 1, 1, 0, 1, 0, 1, 0, 1, 1, 1, 0, 0, 1, 1, 1], .le 1, .bl 2, .le 0, .bl 1] [(4, .pointer (some (⟨g4, 0, none⟩))), (5, .pointer (some (⟨g5, 0, none⟩))), (6, .slice Ay217_0_0 row.length cy217_0_0), (8, .pointer (some (⟨g278, 0, none⟩))), (26, .slice Ay217_0_0 row.length cy217_0_0), (27, .int .i64 (row.length : Int)), (28, .int .i64 (t : Int)), (41, .func (.func 42) #[] #[.pointer (some (⟨g4, 0, none⟩))]), (44, .int .i64 (x_1.Name.length : Int))] (by kernel_rfl) ?_
            obtain ⟨encode3, h_encode3, hb_273⟩ := bindE hb_273
            obtain ⟨F283, hse283, hFn283, hcl283⟩ := St.call [blkI g4 [.slice A282_o0_0 encode2.length c282_o0_0] 30, rowI rU8 5 A282_o0_0 c282_o0_0 encode2] ((H.pull 1 rfl).pull 1 rfl)
            refine st (callR (some 45) 42 #[.int .i64 (x_1.Name.length : Int), .int .i64 1, .pointer (some (⟨g4, 0, none⟩))] Try.call42 (dirent_Encode_1_c H.has (x_1.Name.length : Int) 1 g4 encode2 A282_o0_0 c282_o0_0 hse283 hFn283 h_encode3) (by kernel_rfl) ?_)
            rintro _ w283 ⟨A283_o0_0, c283_o0_0, mk283, rfl, hS283⟩
            have hsub283 := hS283.sub
            replace H := hcl283 _ _ _ hS283
            refine seg 2 [.op [1, 1, 1, 1, 0, 1, 0, 1, 0, 1, 1, 1, 0, 0, 1, 1, 0, 0, 1, 1, 1] 0, .bl 3, .co [1, 1, 1, 1, 0, 1, 0, 1, 0, 1, 1, 1, 0, 0, 1, 1, 1], .le 1, .bl 2, .le 0, .bl 1] [(4, .pointer (some (⟨g4, 0, none⟩))), (5, .pointer (some (⟨g5, 0, none⟩))), (6, .slice Ay217_0_0 row.length cy217_0_0), (8, .pointer (some (⟨g278, 0, none⟩))), (26, .slice Ay217_0_0 row.length cy217_0_0), (27, .int .i64 (row.length : Int)), (28, .int .i64 (t : Int))] (by kernel_rfl) ?_
            refine st (ldR (some 46) 30 (⟨g4, 0, none⟩) (.slice A283_o0_0 encode3.length c283_o0_0) (by kernel_rfl) (by kernel_rfl) (H.cellB 0 rfl rfl) ?_)
            refine seg 1 [.op [1, 1, 1, 1, 0, 1, 0, 1, 0, 1, 1, 1, 0, 0, 1, 1, 0, 0, 1, 1, 1] 2, .bl 3, .co [1, 1, 1, 1, 0, 1, 0, 1, 0, 1, 1, 1, 0, 0, 1, 1, 1], .le 1, .bl 2, .le 0, .bl 1] [(4, .pointer (some (⟨g4, 0, none⟩))), (5, .pointer (some (⟨g5, 0, none⟩))), (6, .slice Ay217_0_0 row.length cy217_0_0), (26, .slice Ay217_0_0 row.length cy217_0_0), (27, .int .i64 (row.length : Int)), (28, .int .i64 (t : Int)), (46, .slice A283_o0_0 encode3.length c283_o0_0), (47, .pointer (some (⟨g278, 0, none⟩)))] (by kernel_rfl) ?_
            refine st (ldR (some 48) 9 (⟨g278, 0, none⟩) (.string ⟨x_1.Name.toArray⟩) (by kernel_rfl) (by kernel_rfl) (H.cellB 2 rfl rfl) ?_)
            obtain ⟨b, h_b, hb_273⟩ := bindE hb_273
            refine st (appstrS (some 49) 30 9 5 30 1 A283_o0_0 c283_o0_0 encode3 x_1.Name b H rfl ⟨Try.underlying30, by kernel_rfl⟩ Try.underlying9 (by kernel_rfl) h_b ?_)
            intro A284 c284 w284 H
            refine st (stS none 30 0 g4 0 (.slice A284 b.length c284) [.slice A283_o0_0 encode3.length c283_o0_0] 30 H rfl (by kernel_rfl) (by kernel_rfl) rfl (of_decide_eq_true rfl) ?_)
            intro w285 H
            refine seg 6 [.le 1, .bl 2, .le 0, .bl 1] [(4, .pointer (some (⟨g4, 0, none⟩))), (5, .pointer (some (⟨g5, 0, none⟩))), (6, .slice Ay217_0_0 row.length cy217_0_0), (26, .slice Ay217_0_0 row.length cy217_0_0), (27, .int .i64 (row.length : Int)), (28, .int .i64 (IntKind.i64.wrap ((t : Int) + 1)))] (by kernel_rfl) ?_
            have := hy217_0_0.bound
            rw [show IntKind.i64.wrap ((t : Int) + 1) = ((t : Int) + 1) from w64 (by omega)]
            refine leR (nk273, b, (t + 1), A284, c284, mk283) (Nat.lt_succ_self _) ⟨hnx273 _ (Option.some.inj hb_273).symm, (St.takeN 3 (((H.pull 3 rfl).pull 2 rfl).pull 2 rfl)), ((hsub274.trans hsub282).trans hsub283)⟩ (by kernel_rfl)
          · rw [hb275]
            have p275 := of_decide_eq_false hb275
            refine seg 2 [.le 0, .bl 1] [] (by kernel_rfl) ?_
            refine leR_up (k' := []) (by rfl) ?_
            refine leJ (out1, A_1_274, c_2_274, mm274) ⟨(hfin273 _ (Option.some.inj hb_273).symm).symm, H, hsub274⟩ (by kernel_rfl)
        rintro ⟨v_, A_1_254, c_2_254, mm254⟩ wj253 ⟨hy253, H, hsub254⟩
        try dsimp only at hy253
        try dsimp only at H
        try dsimp only at hsub254
        rw [hy253] at hbr217
        refine seg 1 [] [] (by kernel_rfl) ?_
        exact rndEnd v_ (A_1_254, c_2_254) mm254 (congrArg Sum.inl (Option.some.inj hbr217).symm) H
    rintro out ⟨A_1_217, c_2_217⟩ md217 D217 wd217 hr hsd217 H
    replace hr := (Sum.inl.inj hr).symm
    subst hr
    try dsimp only at hf
    replace H : St w noF m md217 [objI D217 (.deferred (some [])), blkI g4 [.slice (A_1_217) out.length (c_2_217)] 30, rowI rU8 5 (A_1_217) (c_2_217) out, blkI g5 [.func (.func 42) #[] #[.pointer (some (⟨g4, 0, none⟩))]] 72] wd217 := H
    refine seg 3 [.op [1, 1, 1, 1, 1, 0] 0, .co [1, 1, 1, 1, 1, 1]] [(4, .pointer (some (⟨g4, 0, none⟩)))] (by kernel_rfl) ?_
    replace H : St w noF m md217 [objI D217 (.deferred (some [])), blkI g4 [.slice A_1_217 out.length c_2_217] 30, rowI rU8 5 A_1_217 c_2_217 out] wd217 := (H.drop 3 rfl)
    refine st (ldR (some 51) 30 (⟨g4, 0, none⟩) (.slice A_1_217 out.length c_2_217) (by kernel_rfl) (by kernel_rfl) (H.cellB 1 rfl rfl) ?_)
    refine seg 3 [.co [1, 1, 1, 1, 1, 1]] [(2, .slice A_1_217 out.length c_2_217), (3, .int .i64 0)] (by kernel_rfl) ?_
    have hmk := H.mark
    refine retR1 [2, 3] [.slice A_1_217 out.length c_2_217, .int .i64 0] (by kernel_rfl) (by kernel_rfl) (by kernel_rfl) hmk.1 ?_
    replace H := hmk.2
    obtain rfl : (out, 0) = r := (Option.some.inj hf)
    exact ⟨_, rfl, A_1_217, c_2_217, md217, rfl, (St.takeN 1 (H.pull 1 rfl))⟩
theorem law16_num_c {m : Mem} {w : World} (hm : Has m w) (e_ : Int) :
    Calls Try.prog 17 #[.int .i64 e_] w fun e w' => ∃ v, e = .returned v ∧ v = .int .i64 (law16_num e_) ∧ Ex w w' := by
  generalize hf : law16_num e_ = r
  unfold law16_num at hf
  have H := St.start0 hm
  refine callsR Try.func17 (by kernel_rfl) (by kernel_rfl) ?_
  refine seg 9 [.co [1, 1]] [(2, .int .i64 e_)] (by kernel_rfl) ?_
  refine retR [2] [.int .i64 e_] (by kernel_rfl) (by kernel_rfl) (by kernel_rfl) ?_
  have hret := hf
  subst hret
  exact ⟨_, rfl, rfl, H.scalar⟩
theorem law16_live_c {m : Mem} {w : World} (hm : Has m w) {r : Bool} (hf : law16_live = some r) :
    Calls Try.prog 13 #[] w fun e w' => ∃ v, e = .returned v ∧ v = .bool r ∧ Ex w w' := by
  unfold law16_live at hf
  have H := St.start0 hm
  refine callsR Try.func13 (by kernel_rfl) (by kernel_rfl) ?_
  refine seg 9 [.op [1, 0] 3, .co [1, 1]] [(4, .agg #[.string ⟨([97] : List UInt8).toArray⟩, .int .i64 5]), (5, .agg #[.string ⟨([98] : List UInt8).toArray⟩, .int .i64 7]), (6, .agg #[.string ⟨([99] : List UInt8).toArray⟩, .int .i64 2])] (by kernel_rfl) ?_
  refine st (newS (some 7) (fun g => .slice (some ⟨g, 0, none⟩) 3 3) [.string ⟨([97] : List UInt8).toArray⟩, .int .i64 5, .string ⟨([98] : List UInt8).toArray⟩, .int .i64 7, .string ⟨([99] : List UInt8).toArray⟩, .int .i64 2] 28 H (by kernel_rfl) ?_)
  intro g1 w1 H
  have H := H.toRow (r := rApiKid) (l := [({ Name := ([97] : List UInt8), Ino := 5 } : TApiKid), ({ Name := ([98] : List UInt8), Ino := 7 } : TApiKid), ({ Name := ([99] : List UInt8), Ino := 2 } : TApiKid)]) 0 rfl (Rows.cons (cs := [.string ⟨([97] : List UInt8).toArray⟩, .int .i64 5]) ⟨rfl, (Nat.le_of_ble_eq_true rfl)⟩ (Rows.cons (cs := [.string ⟨([98] : List UInt8).toArray⟩, .int .i64 7]) ⟨rfl, (Nat.le_of_ble_eq_true rfl)⟩ (Rows.cons (cs := [.string ⟨([99] : List UInt8).toArray⟩, .int .i64 2]) ⟨rfl, (Nat.le_of_ble_eq_true rfl)⟩ Rows.nil))) (Nat.le_of_ble_eq_true rfl)
  have H0_2 := H
  obtain ⟨mf3, hsub3, hsf3, H⟩ := H.fixR 0 rfl
  obtain ⟨encode, h_encode, hf⟩ := bindE hf
  refine st (callR (some 8) 15 #[.slice (some ⟨g1, 0, none⟩) 3 3] Try.call15 (dirent_Encode_c H.has [({ Name := ([97] : List UInt8), Ino := 5 } : TApiKid), ({ Name := ([98] : List UInt8), Ino := 7 } : TApiKid), ({ Name := ([99] : List UInt8), Ino := 2 } : TApiKid)] (some ⟨g1, 0, none⟩) 3 hsf3 h_encode) (by kernel_rfl) ?_)
  rintro _ w4 ⟨A4_0, c4_0, mk4, rfl, hS4⟩
  replace H := H0_2.callB hS4 ⟨rowI_ind (fun _ _ _ _ h => h), trivial⟩
  refine seg 9 [.op [1, 1, 0] 1, .co [1, 1, 1]] [(1, .slice A4_0 encode.1.length c4_0), (11, .int .i64 encode.2)] (by kernel_rfl) ?_
  refine st (callR (some 12) 17 #[.int .i64 encode.2] Try.call17 (law16_num_c H.has encode.2) (by kernel_rfl) ?_)
  rintro _ w8 ⟨rfl, hx8⟩
  replace H := H.ex hx8
  refine seg 2 [.op [1, 1, 0] 4, .co [1, 1, 1]] [(1, .slice A4_0 encode.1.length c4_0), (14, .bool ((law16_num encode.2) == 0))] (by kernel_rfl) ?_
  rcases condT hf with ⟨hb9, hf⟩ | ⟨hb9, hf⟩
  · rw [hb9]
    refine seg 1 [.op [1, 1, 0] 5, .co [1, 1, 1]] [(14, .bool true), (15, .slice A4_0 encode.1.length c4_0)] (by kernel_rfl) ?_
    replace H : St w noF m m [rowI rU8 5 A4_0 c4_0 encode.1] w8 := (H.drop 1 rfl)
    refine st (b2sS (some 16) 30 9 5 A4_0 c4_0 encode.1 Try.underlying30 Try.underlying5 Try.underlying9 (by kernel_rfl) (H.rowCs 0 rfl) ?_)
    have hl10 : encode.1.length ≤ 9223372036854775807 := (Nat.le_trans (H.rowCap 0 rfl).1 (H.rowCap 0 rfl).2)
    refine seg 4 [.co [1, 1, 1]] [(0, .bool ((ByteArray.toList ⟨encode.1.toArray⟩) == (ByteArray.toList ⟨([2, 0, 5, 0, 0, 0, 0, 0, 1, 97, 2, 0, 1, 98, 1, 0, 2, 0, 0, 0, 0, 0, 1, 99] : List UInt8).toArray⟩)))] (by kernel_rfl) ?_
    rw [seq_raw encode.1 ([2, 0, 5, 0, 0, 0, 0, 0, 1, 97, 2, 0, 1, 98, 1, 0, 2, 0, 0, 0, 0, 0, 1, 99] : List UInt8)]
    refine retR [0] [.bool (encode.1 == ([2, 0, 5, 0, 0, 0, 0, 0, 1, 97, 2, 0, 1, 98, 1, 0, 2, 0, 0, 0, 0, 0, 1, 99] : List UInt8))] (by kernel_rfl) (by kernel_rfl) (by kernel_rfl) ?_
    obtain rfl : (encode.1 == ([2, 0, 5, 0, 0, 0, 0, 0, 1, 97, 2, 0, 1, 98, 1, 0, 2, 0, 0, 0, 0, 0, 1, 99] : List UInt8)) = r := (Option.some.inj hf)
    exact ⟨_, rfl, rfl, H.scalar⟩
  · rw [hb9]
    refine seg 6 [.co [1, 1, 1]] [(0, .bool false)] (by kernel_rfl) ?_
    refine retR [0] [.bool false] (by kernel_rfl) (by kernel_rfl) (by kernel_rfl) ?_
    have hret := (Option.some.inj hf)
    subst hret
    exact ⟨_, rfl, rfl, H.scalar⟩
theorem dirent_Find_1_c {m : Mem} {w : World} (hm : Has m w) (k : TApiKid) (l0_0 : k.Name.length ≤ 9223372036854775807) (gv0 : Nat) (v_ : (List UInt8)) (lv0_0 : v_.length ≤ 9223372036854775807) (hgv0 : m gv0 = some (.cells [.string ⟨v_.toArray⟩].toArray 9 (0, 0))) :
    Calls Try.prog 41 #[.agg #[.string ⟨k.Name.toArray⟩, .int .i64 k.Ino], .pointer (some (⟨gv0, 0, none⟩))] w fun e w' => ∃ v, e = .returned v ∧ v = .bool (dirent_Find_1 k v_) ∧ Ex w w' := by
  generalize hf : dirent_Find_1 k v_ = r
  unfold dirent_Find_1 at hf
  have H := St.start0 hm
  refine callsR Try.func41 (by kernel_rfl) (by kernel_rfl) ?_
  refine seg 2 [.op [0] 0, .co [1]] [(0, .agg #[.string ⟨k.Name.toArray⟩, .int .i64 k.Ino]), (1, .pointer (some (⟨gv0, 0, none⟩)))] (by kernel_rfl) ?_
  refine st (newS (some 2) (fun g => .pointer (some ⟨g, 0, none⟩)) [.string ⟨k.Name.toArray⟩, .int .i64 k.Ino] 28 H (by kernel_rfl) ?_)
  intro g1 w1 H
  refine seg 5 [.op [1, 0] 1, .co [1, 1]] [(1, .pointer (some (⟨gv0, 0, none⟩))), (4, .pointer (some (⟨g1, 0, none⟩)))] (by kernel_rfl) ?_
  refine st (ldR (some 5) 9 (⟨g1, 0, none⟩) (.string ⟨k.Name.toArray⟩) (by kernel_rfl) (by kernel_rfl) (H.cellB 0 rfl rfl) ?_)
  refine st (ldR (some 6) 9 (⟨gv0, 0, none⟩) (.string ⟨v_.toArray⟩) (by kernel_rfl) (by kernel_rfl) (H.cellI (mc_blk hgv0 rfl)) ?_)
  refine seg 3 [.co [1, 1]] [(3, .bool ((ByteArray.toList ⟨k.Name.toArray⟩) == (ByteArray.toList ⟨v_.toArray⟩)))] (by kernel_rfl) ?_
  rw [seq_raw k.Name v_]
  refine retR [3] [.bool (k.Name == v_)] (by kernel_rfl) (by kernel_rfl) (by kernel_rfl) ?_
  obtain rfl : (k.Name == v_) = r := hf
  exact ⟨_, rfl, rfl, H.scalar⟩
theorem slices_IndexFunc0_c {m : Mem} {w : World} (hm : Has m w) (s_ : (List TApiKid)) (A0_0 : Option Addr) (c0_0 : Nat) (s0_0 : SlI rApiKid m A0_0 c0_0 s_) (g1c0 : Nat) (f_ : (List UInt8)) (l1c0_0 : f_.length ≤ 9223372036854775807) (hg1c0 : m g1c0 = some (.cells [.string ⟨f_.toArray⟩].toArray 9 (0, 0))) {r : Int} (hf : slices_IndexFunc0 s_ f_ = some r) :
    Calls Try.prog 40 #[.slice A0_0 s_.length c0_0, .func (.func 41) #[] #[.pointer (some (⟨g1c0, 0, none⟩))]] w fun e w' => ∃ v, e = .returned v ∧ v = .int .i64 r ∧ Ex w w' := by
  unfold slices_IndexFunc0 at hf
  have H := St.start0 hm
  refine callsR Try.func40 (by kernel_rfl) (by kernel_rfl) ?_
  refine seg 11 [.co [1, 0, 1], .co [1, 1]] [(0, .slice A0_0 s_.length c0_0), (1, .func (.func 41) #[] #[.pointer (some (⟨g1c0, 0, none⟩))]), (7, .int .i64 (s_.length : Int)), (8, .int .i64 0)] (by kernel_rfl) ?_
  obtain ⟨y43, hp43, hfl43, hfr43⟩ := bndE hf
  refine joinR 0 (fun (x : Unit) => []) (fun (x : Unit) (wj43 : World) => y43 = .inl () ∧ St w noF m m [] wj43) (by kernel_rfl) ?_ ?_
  · refine seg 1 [.co [1, 0, 1, 0], .bl 0, .le 0, .co [1, 1]] [(0, .slice A0_0 s_.length c0_0), (1, .func (.func 41) #[] #[.pointer (some (⟨g1c0, 0, none⟩))]), (7, .int .i64 (s_.length : Int)), (8, .int .i64 0)] (by kernel_rfl) ?_
    obtain ⟨nn57, hR57⟩ := loopO_iff.1 hp43
    refine loopR 1 (fun (x : Nat × Nat) => [(0, .slice A0_0 s_.length c0_0), (1, .func (.func 41) #[] #[.pointer (some (⟨g1c0, 0, none⟩))]), (7, .int .i64 (s_.length : Int)), (8, .int .i64 (x.2 : Int))]) (fun (x : Nat × Nat) (wl57 : World) => iter (fun s => slices_IndexFunc0_l1 s_ f_ s) x.1 x.2 = some y43 ∧ St w noF m m [] wl57) (fun (x : Nat × Nat) => x.1) (nn57, 0) (by kernel_rfl) (by kernel_rfl) (by kernel_rfl) ?_ ?_
    · exact ⟨hR57, H⟩
    rintro ⟨n57, t⟩ wl57 ⟨hR57, H⟩
    try dsimp only at hR57
    try dsimp only at H
    obtain ⟨nk57, q57, rfl, hb_57, hnx57, hfin57⟩ := iterE hR57
    replace hb_57 : slices_IndexFunc0_l1 s_ f_ t = some q57 := hb_57
    unfold slices_IndexFunc0_l1 at hb_57
    refine seg 5 [.co [1, 0, 1, 0, 0, 1, 0], .co [1, 0, 1, 0, 0, 1, 1], .le 1, .bl 0, .le 0, .co [1, 1]] [(0, .slice A0_0 s_.length c0_0), (1, .func (.func 41) #[] #[.pointer (some (⟨g1c0, 0, none⟩))]), (7, .int .i64 (s_.length : Int)), (8, .int .i64 (t : Int)), (9, .bool (decide ((t : Int) < (s_.length : Int))))] (by kernel_rfl) ?_
    rcases condT hb_57 with ⟨hb59, hb_57⟩ | ⟨hb59, hb_57⟩
    · rw [hb59]
      have p59 := of_decide_eq_true hb59
      refine seg 14 [.op [1, 0, 1, 0, 0, 1, 1, 0, 0, 1, 0] 3, .co [1, 0, 1, 0, 0, 1, 1, 0, 0, 1, 1], .bl 1, .co [1, 0, 1, 0, 0, 1, 1, 1], .le 1, .bl 0, .le 0, .co [1, 1]] [(0, .slice A0_0 s_.length c0_0), (1, .func (.func 41) #[] #[.pointer (some (⟨g1c0, 0, none⟩))]), (5, .int .i64 (t : Int)), (7, .int .i64 (s_.length : Int)), (8, .int .i64 (t : Int)), (11, .func (.func 41) #[] #[.pointer (some (⟨g1c0, 0, none⟩))]), (12, .slice A0_0 s_.length c0_0), (13, .int .i64 (t : Int))] (by kernel_rfl) ?_
      obtain ⟨x_, h_x_, hb_57⟩ := bindE hb_57
      obtain ⟨ad61, _, ea61, ⟨rfl, hl61_0⟩, hc61⟩ := s0_0.at_ h_x_ (by decide)
      refine st (idxS (some 14) 22 28 2 A0_0 ad61 s_.length c0_0 .i64 (t : Int) ea61 (by kernel_rfl) (by kernel_rfl) (by omega) (by have := (List.getElem?_eq_some_iff.1 h_x_).1; omega) ?_)
      refine st (ldAggR (some 15) 28 (ad61.add (t * 2)) [.string ⟨x_.Name.toArray⟩, .int .i64 x_.Ino] (by kernel_rfl) (by kernel_rfl) (fun j v hj => H.cellI (hc61 j v hj)) ?_)
      refine st (callR (some 16) 41 #[.agg #[.string ⟨x_.Name.toArray⟩, .int .i64 x_.Ino], .pointer (some (⟨g1c0, 0, none⟩))] Try.call41 (dirent_Find_1_c H.has x_ hl61_0 g1c0 f_ l1c0_0 hg1c0) (by kernel_rfl) ?_)
      rintro _ w62 ⟨rfl, hx62⟩
      replace H := H.ex hx62
      refine seg 1 [.co [1, 0, 1, 0, 0, 1, 1, 0, 0, 1, 1], .bl 1, .co [1, 0, 1, 0, 0, 1, 1, 1], .le 1, .bl 0, .le 0, .co [1, 1]] [(0, .slice A0_0 s_.length c0_0), (1, .func (.func 41) #[] #[.pointer (some (⟨g1c0, 0, none⟩))]), (5, .int .i64 (t : Int)), (7, .int .i64 (s_.length : Int)), (8, .int .i64 (t : Int)), (16, .bool (dirent_Find_1 x_ f_))] (by kernel_rfl) ?_
      rcases condT hb_57 with ⟨hb63, hb_57⟩ | ⟨hb63, hb_57⟩
      · rw [hb63]
        refine seg 6 [.co [1, 0, 1, 0, 0, 1, 1, 0, 0, 1, 1, 0, 1], .bl 1, .co [1, 0, 1, 0, 0, 1, 1, 1], .le 1, .bl 0, .le 0, .co [1, 1]] [(4, .int .i64 (t : Int))] (by kernel_rfl) ?_
        refine retR [4] [.int .i64 (t : Int)] (by kernel_rfl) (by kernel_rfl) (by kernel_rfl) ?_
        obtain rfl : (t : Int) = r := (hfr43 _ (hfin57 _ (Option.some.inj hb_57).symm).symm)
        exact ⟨_, rfl, rfl, H.scalar⟩
      · rw [hb63]
        refine seg 7 [.le 1, .bl 0, .le 0, .co [1, 1]] [(0, .slice A0_0 s_.length c0_0), (1, .func (.func 41) #[] #[.pointer (some (⟨g1c0, 0, none⟩))]), (7, .int .i64 (s_.length : Int)), (8, .int .i64 (IntKind.i64.wrap ((t : Int) + 1)))] (by kernel_rfl) ?_
        have := s0_0.bound
        rw [show IntKind.i64.wrap ((t : Int) + 1) = ((t : Int) + 1) from w64 (by omega)]
        refine leR (nk57, (t + 1)) (Nat.lt_succ_self _) ⟨hnx57 _ (Option.some.inj hb_57).symm, H⟩ (by kernel_rfl)
    · rw [hb59]
      have p59 := of_decide_eq_false hb59
      refine seg 2 [.le 0, .co [1, 1]] [] (by kernel_rfl) ?_
      refine leR_up (k' := []) (by rfl) ?_
      refine leJ () ⟨(hfin57 _ (Option.some.inj hb_57).symm).symm, H⟩ (by kernel_rfl)
  rintro _ wj43 ⟨hy43, H⟩
  have hf := hfl43 _ hy43
  try dsimp only at hf
  refine seg 4 [.co [1, 1, 1]] [(4, .int .i64 (-1))] (by kernel_rfl) ?_
  refine retR [4] [.int .i64 (-1)] (by kernel_rfl) (by kernel_rfl) (by kernel_rfl) ?_
  obtain rfl : (-1) = r := (Option.some.inj hf)
  exact ⟨_, rfl, rfl, H.scalar⟩
theorem dirent_Find_c {m : Mem} {w : World} (hm : Has m w) (l_ : (List TApiKid)) (A0_0 : Option Addr) (c0_0 : Nat) (s0_0 : SlI rApiKid m A0_0 c0_0 l_) (name : (List UInt8)) (l1_0 : name.length ≤ 9223372036854775807) {r : (Int × Bool)} (hf : dirent_Find l_ name = some r) :
    Calls Try.prog 14 #[.slice A0_0 l_.length c0_0, .string ⟨name.toArray⟩] w fun e w' => ∃ v, e = .returned v ∧ v = .tuple #[.int .i64 r.1, .bool r.2] ∧ Ex w w' := by
  unfold dirent_Find at hf
  have H := St.start0 hm
  refine callsR Try.func14 (by kernel_rfl) (by kernel_rfl) ?_
  refine seg 2 [.op [0] 0, .co [1]] [(0, .slice A0_0 l_.length c0_0), (1, .string ⟨name.toArray⟩)] (by kernel_rfl) ?_
  refine st (newS (some 3) (fun g => .pointer (some ⟨g, 0, none⟩)) [.string ⟨name.toArray⟩] 9 H (by kernel_rfl) ?_)
  intro g1 w1 H
  refine seg 7 [.op [1, 0] 2, .co [1, 1]] [(0, .slice A0_0 l_.length c0_0), (7, .slice A0_0 l_.length c0_0), (8, .func (.func 41) #[] #[.pointer (some (⟨g1, 0, none⟩))])] (by kernel_rfl) ?_
  obtain ⟨mf2, hsub2, hbf2, H⟩ := H.fixB 0 rfl
  obtain ⟨kid, h_kid, hf⟩ := bindE hf
  refine st (callR (some 9) 40 #[.slice A0_0 l_.length c0_0, .func (.func 41) #[] #[.pointer (some (⟨g1, 0, none⟩))]] Try.call40 (slices_IndexFunc0_c H.has l_ A0_0 c0_0 (s0_0.mono hsub2) g1 name l1_0 hbf2 h_kid) (by kernel_rfl) ?_)
  rintro _ w3 ⟨rfl, hx3⟩
  replace H := H.ex hx3
  refine seg 8 [.co [1, 1, 0, 1], .co [1, 1, 1]] [(0, .slice A0_0 l_.length c0_0), (6, .int .i64 kid), (11, .bool (decide (kid < 0)))] (by kernel_rfl) ?_
  rcases condT hf with ⟨hb5, hf⟩ | ⟨hb5, hf⟩
  · rw [hb5]
    have p5 := of_decide_eq_true hb5
    refine seg 6 [.co [1, 1, 0, 1, 0, 1], .co [1, 1, 1]] [(4, .int .i64 0), (5, .bool false)] (by kernel_rfl) ?_
    refine retR [4, 5] [.int .i64 0, .bool false] (by kernel_rfl) (by kernel_rfl) (by kernel_rfl) ?_
    obtain rfl : (0, false) = r := (Option.some.inj hf)
    exact ⟨_, rfl, rfl, H.scalar⟩
  · rw [hb5]
    have p5 := of_decide_eq_false hb5
    refine seg 6 [.op [1, 1, 1, 0] 2, .co [1, 1, 1, 1]] [(12, .slice A0_0 l_.length c0_0), (13, .int .i64 kid)] (by kernel_rfl) ?_
    obtain ⟨x_, h_x_, hf⟩ := bindE hf
    obtain ⟨i06, i16, ix6⟩ := idx_some h_x_
    obtain ⟨ad7, _, ea7, ⟨rfl, hl7_0⟩, hc7⟩ := (s0_0.mono hsub2).at_ ix6 (by decide)
    refine st (idxS (some 14) 22 28 2 A0_0 ad7 l_.length c0_0 .i64 kid ea7 (by kernel_rfl) (by kernel_rfl) i06 i16 ?_)
    refine seg 1 [.op [1, 1, 1, 0] 4, .co [1, 1, 1, 1]] [(15, .pointer (some ((ad7.add (kid.toNat * 2)).add 1)))] (by kernel_rfl) ?_
    refine st (ldR (some 16) 3 ((ad7.add (kid.toNat * 2)).add 1) (.int .i64 x_.Ino) (by kernel_rfl) (by kernel_rfl) (H.cellI (hc7 1 _ rfl)) ?_)
    refine seg 3 [.co [1, 1, 1, 1]] [(4, .int .i64 x_.Ino), (5, .bool true)] (by kernel_rfl) ?_
    refine retR [4, 5] [.int .i64 x_.Ino, .bool true] (by kernel_rfl) (by kernel_rfl) (by kernel_rfl) ?_
    obtain rfl : (x_.Ino, true) = r := (Option.some.inj hf)
    exact ⟨_, rfl, rfl, H.scalar⟩
theorem law16_DirentFinds_c {m : Mem} {w : World} (hm : Has m w) (l_ : (List TApiKid)) (A0_0 : Option Addr) (c0_0 : Nat) (s0_0 : SlI rApiKid m A0_0 c0_0 l_) (name : (List UInt8)) (l1_0 : name.length ≤ 9223372036854775807) {r : Bool} (hf : law16_DirentFinds l_ name = some r) :
    Calls Try.prog 3 #[.slice A0_0 l_.length c0_0, .string ⟨name.toArray⟩] w fun e w' => ∃ v, e = .returned v ∧ v = .bool r ∧ Ex w w' := by
  unfold law16_DirentFinds at hf
  have H := St.start0 hm
  refine callsR Try.func3 (by kernel_rfl) (by kernel_rfl) ?_
  refine seg 8 [.op [1, 0, 0] 1, .co [1, 0, 1], .co [1, 1]] [(0, .slice A0_0 l_.length c0_0), (1, .string ⟨name.toArray⟩), (8, .slice A0_0 l_.length c0_0)] (by kernel_rfl) ?_
  obtain ⟨much, h_much, hf⟩ := bindE hf
  refine st (callR (some 9) 12 #[.slice A0_0 l_.length c0_0] Try.call12 (law16_much_c H.has l_ A0_0 c0_0 s0_0 h_much) (by kernel_rfl) ?_)
  rintro _ w4 ⟨rfl, hx4⟩
  replace H := H.ex hx4
  refine seg 1 [.op [1, 0, 0] 3, .co [1, 0, 1], .co [1, 1]] [(0, .slice A0_0 l_.length c0_0), (1, .string ⟨name.toArray⟩), (10, .bool much)] (by kernel_rfl) ?_
  rcases condT hf with ⟨hb5, hf⟩ | ⟨hb5, hf⟩
  · rw [hb5]
    refine seg 8 [.op [1, 0, 1, 0, 0] 0, .co [1, 0, 1, 0, 1], .co [1, 1]] [] (by kernel_rfl) ?_
    obtain ⟨live, h_live, hf⟩ := bindE hf
    refine st (callR (some 15) 13 #[] Try.call13 (law16_live_c H.has  h_live) (by kernel_rfl) ?_)
    rintro _ w6 ⟨rfl, hx6⟩
    replace H := H.ex hx6
    refine seg 2 [.co [1, 0, 1, 0, 1], .co [1, 1]] [(4, .bool live)] (by kernel_rfl) ?_
    refine retR [4] [.bool live] (by kernel_rfl) (by kernel_rfl) (by kernel_rfl) ?_
    have hret := (Option.some.inj hf)
    subst hret
    exact ⟨_, rfl, rfl, H.scalar⟩
  · rw [hb5]
    refine seg 5 [.co [1, 0, 1], .co [1, 1]] [(0, .slice A0_0 l_.length c0_0), (1, .string ⟨name.toArray⟩), (14, .bool (decide ((name.length : Int) > 300)))] (by kernel_rfl) ?_
    rcases condT hf with ⟨hb9, hf⟩ | ⟨hb9, hf⟩
    · rw [hb9]
      have p9 := of_decide_eq_true hb9
      refine seg 3 [.op [1, 0, 1, 0, 0] 0, .co [1, 0, 1, 0, 1], .co [1, 1]] [] (by kernel_rfl) ?_
      obtain ⟨live1, h_live1, hf⟩ := bindE hf
      refine st (callR (some 15) 13 #[] Try.call13 (law16_live_c H.has  h_live1) (by kernel_rfl) ?_)
      rintro _ w10 ⟨rfl, hx10⟩
      replace H := H.ex hx10
      refine seg 2 [.co [1, 0, 1, 0, 1], .co [1, 1]] [(4, .bool live1)] (by kernel_rfl) ?_
      refine retR [4] [.bool live1] (by kernel_rfl) (by kernel_rfl) (by kernel_rfl) ?_
      have hret := (Option.some.inj hf)
      subst hret
      exact ⟨_, rfl, rfl, H.scalar⟩
    · rw [hb9]
      have p9 := of_decide_eq_false hb9
      refine seg 6 [.op [1, 1, 0] 2, .co [1, 1, 1]] [(0, .slice A0_0 l_.length c0_0), (1, .string ⟨name.toArray⟩), (17, .slice A0_0 l_.length c0_0), (18, .string ⟨name.toArray⟩)] (by kernel_rfl) ?_
      obtain ⟨find, h_find, hf⟩ := bindE hf
      refine st (callR (some 19) 14 #[.slice A0_0 l_.length c0_0, .string ⟨name.toArray⟩] Try.call14 (dirent_Find_c H.has l_ A0_0 c0_0 s0_0 name l1_0 h_find) (by kernel_rfl) ?_)
      rintro _ w11 ⟨rfl, hx11⟩
      replace H := H.ex hx11
      refine seg 11 [.co [1, 1, 1, 0, 1], .co [1, 1, 1, 1]] [(0, .slice A0_0 l_.length c0_0), (1, .string ⟨name.toArray⟩), (5, .int .i64 find.1), (6, .bool find.2), (7, .int .i64 0)] (by kernel_rfl) ?_
      obtain ⟨y74, hp74, hfl74, hfr74⟩ := bndE hf
      refine joinR 0 (fun (x : Unit) => [(5, .int .i64 find.1), (6, .bool find.2)]) (fun (x : Unit) (wj74 : World) => y74 = .inl () ∧ St w noF m m [] wj74) (by kernel_rfl) ?_ ?_
      · refine seg 1 [.co [1, 1, 1, 0, 1, 0], .bl 0, .le 0, .co [1, 1, 1, 1]] [(0, .slice A0_0 l_.length c0_0), (1, .string ⟨name.toArray⟩), (5, .int .i64 find.1), (6, .bool find.2), (7, .int .i64 0)] (by kernel_rfl) ?_
        obtain ⟨nn92, hR92⟩ := loopO_iff.1 hp74
        refine loopR 1 (fun (x : Nat × Nat) => [(0, .slice A0_0 l_.length c0_0), (1, .string ⟨name.toArray⟩), (5, .int .i64 find.1), (6, .bool find.2), (7, .int .i64 (x.2 : Int))]) (fun (x : Nat × Nat) (wl92 : World) => iter (fun s => law16_DirentFinds_l1 l_ name find s) x.1 x.2 = some y74 ∧ St w noF m m [] wl92) (fun (x : Nat × Nat) => x.1) (nn92, 0) (by kernel_rfl) (by kernel_rfl) (by kernel_rfl) ?_ ?_
        · exact ⟨hR92, H⟩
        rintro ⟨n92, i⟩ wl92 ⟨hR92, H⟩
        try dsimp only at hR92
        try dsimp only at H
        obtain ⟨nk92, q92, rfl, hb_92, hnx92, hfin92⟩ := iterE hR92
        replace hb_92 : law16_DirentFinds_l1 l_ name find i = some q92 := hb_92
        unfold law16_DirentFinds_l1 at hb_92
        refine seg 8 [.co [1, 1, 1, 0, 1, 0, 0, 0, 1], .co [1, 1, 1, 0, 1, 0, 0, 1], .le 1, .bl 0, .le 0, .co [1, 1, 1, 1]] [(0, .slice A0_0 l_.length c0_0), (1, .string ⟨name.toArray⟩), (5, .int .i64 find.1), (6, .bool find.2), (7, .int .i64 (i : Int)), (25, .bool (decide ((i : Int) < (l_.length : Int))))] (by kernel_rfl) ?_
        rcases condT hb_92 with ⟨hb94, hb_92⟩ | ⟨hb94, hb_92⟩
        · rw [hb94]
          have p94 := of_decide_eq_true hb94
          refine seg 8 [.op [1, 1, 1, 0, 1, 0, 0, 1, 0, 0, 0] 2, .co [1, 1, 1, 0, 1, 0, 0, 1, 0, 0, 1], .bl 1, .co [1, 1, 1, 0, 1, 0, 0, 1, 1], .le 1, .bl 0, .le 0, .co [1, 1, 1, 1]] [(0, .slice A0_0 l_.length c0_0), (1, .string ⟨name.toArray⟩), (5, .int .i64 find.1), (6, .bool find.2), (7, .int .i64 (i : Int)), (28, .slice A0_0 l_.length c0_0), (29, .int .i64 (i : Int))] (by kernel_rfl) ?_
          obtain ⟨x_, h_x_, hb_92⟩ := bindE hb_92
          obtain ⟨ad96, _, ea96, ⟨rfl, hl96_0⟩, hc96⟩ := s0_0.at_ h_x_ (by decide)
          refine st (idxS (some 30) 22 28 2 A0_0 ad96 l_.length c0_0 .i64 (i : Int) ea96 (by kernel_rfl) (by kernel_rfl) (by omega) (by have := (List.getElem?_eq_some_iff.1 h_x_).1; omega) ?_)
          refine seg 1 [.op [1, 1, 1, 0, 1, 0, 0, 1, 0, 0, 0] 4, .co [1, 1, 1, 0, 1, 0, 0, 1, 0, 0, 1], .bl 1, .co [1, 1, 1, 0, 1, 0, 0, 1, 1], .le 1, .bl 0, .le 0, .co [1, 1, 1, 1]] [(0, .slice A0_0 l_.length c0_0), (1, .string ⟨name.toArray⟩), (5, .int .i64 find.1), (6, .bool find.2), (7, .int .i64 (i : Int)), (31, .pointer (some (ad96.add (i * 2))))] (by kernel_rfl) ?_
          refine st (ldR (some 32) 9 (ad96.add (i * 2)) (.string ⟨x_.Name.toArray⟩) (by kernel_rfl) (by kernel_rfl) (H.cellI (mc0 (hc96 0 _ rfl))) ?_)
          refine seg 3 [.co [1, 1, 1, 0, 1, 0, 0, 1, 0, 0, 1], .bl 1, .co [1, 1, 1, 0, 1, 0, 0, 1, 1], .le 1, .bl 0, .le 0, .co [1, 1, 1, 1]] [(0, .slice A0_0 l_.length c0_0), (1, .string ⟨name.toArray⟩), (5, .int .i64 find.1), (6, .bool find.2), (7, .int .i64 (i : Int)), (34, .bool ((ByteArray.toList ⟨x_.Name.toArray⟩) == (ByteArray.toList ⟨name.toArray⟩)))] (by kernel_rfl) ?_
          rw [seq_raw x_.Name name]
          rcases condT hb_92 with ⟨hb97, hb_92⟩ | ⟨hb97, hb_92⟩
          · rw [hb97]
            refine seg 5 [.op [1, 1, 1, 0, 1, 0, 0, 1, 0, 0, 1, 0, 0] 2, .co [1, 1, 1, 0, 1, 0, 0, 1, 0, 0, 1, 0, 1], .bl 1, .co [1, 1, 1, 0, 1, 0, 0, 1, 1], .le 1, .bl 0, .le 0, .co [1, 1, 1, 1]] [(0, .slice A0_0 l_.length c0_0), (5, .int .i64 find.1), (7, .int .i64 (i : Int)), (36, .bool find.2)] (by kernel_rfl) ?_
            rcases condT hb_92 with ⟨hb98, hb_92⟩ | ⟨hb98, hb_92⟩
            · rw [hb98]
              refine seg 3 [.op [1, 1, 1, 0, 1, 0, 0, 1, 0, 0, 1, 0, 0] 5, .co [1, 1, 1, 0, 1, 0, 0, 1, 0, 0, 1, 0, 1], .bl 1, .co [1, 1, 1, 0, 1, 0, 0, 1, 1], .le 1, .bl 0, .le 0, .co [1, 1, 1, 1]] [(36, .bool true), (37, .int .i64 find.1), (38, .slice A0_0 l_.length c0_0), (39, .int .i64 (i : Int))] (by kernel_rfl) ?_
              refine st (idxS (some 40) 22 28 2 A0_0 ad96 l_.length c0_0 .i64 (i : Int) ea96 (by kernel_rfl) (by kernel_rfl) (by omega) (by have := (List.getElem?_eq_some_iff.1 h_x_).1; omega) ?_)
              refine seg 1 [.op [1, 1, 1, 0, 1, 0, 0, 1, 0, 0, 1, 0, 0] 7, .co [1, 1, 1, 0, 1, 0, 0, 1, 0, 0, 1, 0, 1], .bl 1, .co [1, 1, 1, 0, 1, 0, 0, 1, 1], .le 1, .bl 0, .le 0, .co [1, 1, 1, 1]] [(36, .bool true), (37, .int .i64 find.1), (41, .pointer (some ((ad96.add (i * 2)).add 1)))] (by kernel_rfl) ?_
              refine st (ldR (some 42) 3 ((ad96.add (i * 2)).add 1) (.int .i64 x_.Ino) (by kernel_rfl) (by kernel_rfl) (H.cellI (hc96 1 _ rfl)) ?_)
              refine seg 3 [.op [1, 1, 1, 0, 1, 0, 0, 1, 0, 0, 1, 0, 0] 11, .co [1, 1, 1, 0, 1, 0, 0, 1, 0, 0, 1, 0, 1], .bl 1, .co [1, 1, 1, 0, 1, 0, 0, 1, 1], .le 1, .bl 0, .le 0, .co [1, 1, 1, 1]] [(45, .bool (find.1 == x_.Ino))] (by kernel_rfl) ?_
              rcases condT hb_92 with ⟨hb99, hb_92⟩ | ⟨hb99, hb_92⟩
              · rw [hb99]
                obtain ⟨live2, h_live2, hb_92⟩ := bindE hb_92
                refine st (callR (some 46) 13 #[] Try.call13 (law16_live_c H.has  h_live2) (by kernel_rfl) ?_)
                rintro _ w100 ⟨rfl, hx100⟩
                replace H := H.ex hx100
                refine seg 3 [.co [1, 1, 1, 0, 1, 0, 0, 1, 0, 0, 1, 0, 1], .bl 1, .co [1, 1, 1, 0, 1, 0, 0, 1, 1], .le 1, .bl 0, .le 0, .co [1, 1, 1, 1]] [(4, .bool live2)] (by kernel_rfl) ?_
                refine retR [4] [.bool live2] (by kernel_rfl) (by kernel_rfl) (by kernel_rfl) ?_
                have hret := (hfr74 _ (hfin92 _ (Option.some.inj hb_92).symm).symm)
                subst hret
                exact ⟨_, rfl, rfl, H.scalar⟩
              · rw [hb99]
                refine seg 4 [.co [1, 1, 1, 0, 1, 0, 0, 1, 0, 0, 1, 0, 1], .bl 1, .co [1, 1, 1, 0, 1, 0, 0, 1, 1], .le 1, .bl 0, .le 0, .co [1, 1, 1, 1]] [(4, .bool false)] (by kernel_rfl) ?_
                refine retR [4] [.bool false] (by kernel_rfl) (by kernel_rfl) (by kernel_rfl) ?_
                have hret := (hfr74 _ (hfin92 _ (Option.some.inj hb_92).symm).symm)
                subst hret
                exact ⟨_, rfl, rfl, H.scalar⟩
            · rw [hb98]
              refine seg 13 [.co [1, 1, 1, 0, 1, 0, 0, 1, 0, 0, 1, 0, 1], .bl 1, .co [1, 1, 1, 0, 1, 0, 0, 1, 1], .le 1, .bl 0, .le 0, .co [1, 1, 1, 1]] [(4, .bool false)] (by kernel_rfl) ?_
              refine retR [4] [.bool false] (by kernel_rfl) (by kernel_rfl) (by kernel_rfl) ?_
              have hret := (hfr74 _ (hfin92 _ (Option.some.inj hb_92).symm).symm)
              subst hret
              exact ⟨_, rfl, rfl, H.scalar⟩
          · rw [hb97]
            refine seg 8 [.le 1, .bl 0, .le 0, .co [1, 1, 1, 1]] [(0, .slice A0_0 l_.length c0_0), (1, .string ⟨name.toArray⟩), (5, .int .i64 find.1), (6, .bool find.2), (7, .int .i64 (IntKind.i64.wrap ((i : Int) + 1)))] (by kernel_rfl) ?_
            have := s0_0.bound
            rw [show IntKind.i64.wrap ((i : Int) + 1) = ((i : Int) + 1) from w64 (by omega)]
            refine leR (nk92, (i + 1)) (Nat.lt_succ_self _) ⟨hnx92 _ (Option.some.inj hb_92).symm, H⟩ (by kernel_rfl)
        · rw [hb94]
          have p94 := of_decide_eq_false hb94
          refine seg 2 [.le 0, .co [1, 1, 1, 1]] [(5, .int .i64 find.1), (6, .bool find.2)] (by kernel_rfl) ?_
          refine leR_up (k' := []) (by rfl) ?_
          refine leJ () ⟨(hfin92 _ (Option.some.inj hb_92).symm).symm, H⟩ (by kernel_rfl)
      rintro _ wj74 ⟨hy74, H⟩
      have hf := hfl74 _ hy74
      try dsimp only at hf
      refine seg 5 [.op [1, 1, 1, 1, 0] 3, .co [1, 1, 1, 1, 1]] [(5, .int .i64 find.1), (50, .bool (!find.2))] (by kernel_rfl) ?_
      rcases condT hf with ⟨hb104, hf⟩ | ⟨hb104, hf⟩
      · rw [hb104]
        refine seg 8 [.co [1, 1, 1, 1, 1]] [(4, .bool false)] (by kernel_rfl) ?_
        refine retR [4] [.bool false] (by kernel_rfl) (by kernel_rfl) (by kernel_rfl) ?_
        have hret := (Option.some.inj hf)
        subst hret
        exact ⟨_, rfl, rfl, H.scalar⟩
      · rw [hb104]
        refine seg 4 [.op [1, 1, 1, 1, 0] 7, .co [1, 1, 1, 1, 1]] [(54, .bool (find.1 == 0))] (by kernel_rfl) ?_
        rcases condT hf with ⟨hb105, hf⟩ | ⟨hb105, hf⟩
        · rw [hb105]
          replace H : St w noF m m [] wj74 := H
          obtain ⟨live3, h_live3, hf⟩ := bindE hf
          refine st (callR (some 55) 13 #[] Try.call13 (law16_live_c H.has  h_live3) (by kernel_rfl) ?_)
          rintro _ w106 ⟨rfl, hx106⟩
          replace H := H.ex hx106
          refine seg 3 [.co [1, 1, 1, 1, 1]] [(4, .bool live3)] (by kernel_rfl) ?_
          refine retR [4] [.bool live3] (by kernel_rfl) (by kernel_rfl) (by kernel_rfl) ?_
          have hret := (Option.some.inj hf)
          subst hret
          exact ⟨_, rfl, rfl, H.scalar⟩
        · rw [hb105]
          refine seg 4 [.co [1, 1, 1, 1, 1]] [(4, .bool false)] (by kernel_rfl) ?_
          refine retR [4] [.bool false] (by kernel_rfl) (by kernel_rfl) (by kernel_rfl) ?_
          have hret := (Option.some.inj hf)
          subst hret
          exact ⟨_, rfl, rfl, H.scalar⟩
theorem ref10_Valid_c {m : Mem} {w : World} (hm : Has m w) (s_ : (List UInt8)) (l0_0 : s_.length ≤ 9223372036854775807) {r : Bool} (hf : ref10_Valid s_ = some r) :
    Calls Try.prog 34 #[.string ⟨s_.toArray⟩] w fun e w' => ∃ v, e = .returned v ∧ v = .bool r ∧ Ex w w' := by
  unfold ref10_Valid at hf
  have H := St.start0 hm
  refine callsR Try.func34 (by kernel_rfl) (by kernel_rfl) ?_
  refine seg 11 [.op [1, 0, 0] 4, .co [1, 0, 1], .co [1, 1]] [(0, .string ⟨s_.toArray⟩), (7, .bool (decide ((s_.length : Int) < 1)))] (by kernel_rfl) ?_
  rcases condT hf with ⟨hb4, hf⟩ | ⟨hb4, hf⟩
  · rw [hb4]
    have p4 := of_decide_eq_true hb4
    refine seg 18 [.co [1, 0, 1, 0, 1], .co [1, 1]] [(2, .bool false)] (by kernel_rfl) ?_
    refine retR [2] [.bool false] (by kernel_rfl) (by kernel_rfl) (by kernel_rfl) ?_
    have hret := (Option.some.inj hf)
    subst hret
    exact ⟨_, rfl, rfl, H.scalar⟩
  · rw [hb4]
    have p4 := of_decide_eq_false hb4
    refine seg 5 [.op [1, 0, 0] 9, .co [1, 0, 1], .co [1, 1]] [(0, .string ⟨s_.toArray⟩), (12, .bool (decide ((s_.length : Int) > 255)))] (by kernel_rfl) ?_
    rcases condT hf with ⟨hb5, hf⟩ | ⟨hb5, hf⟩
    · rw [hb5]
      have p5 := of_decide_eq_true hb5
      refine seg 13 [.co [1, 0, 1, 0, 1], .co [1, 1]] [(2, .bool false)] (by kernel_rfl) ?_
      refine retR [2] [.bool false] (by kernel_rfl) (by kernel_rfl) (by kernel_rfl) ?_
      have hret := (Option.some.inj hf)
      subst hret
      exact ⟨_, rfl, rfl, H.scalar⟩
    · rw [hb5]
      have p5 := of_decide_eq_false hb5
      refine seg 4 [.op [1, 0, 0] 13, .co [1, 0, 1], .co [1, 1]] [(0, .string ⟨s_.toArray⟩), (16, .bool ((ByteArray.toList ⟨s_.toArray⟩) == (ByteArray.toList ⟨([46] : List UInt8).toArray⟩)))] (by kernel_rfl) ?_
      rw [seq_raw s_ ([46] : List UInt8)]
      rcases condT hf with ⟨hb6, hf⟩ | ⟨hb6, hf⟩
      · rw [hb6]
        refine seg 9 [.co [1, 0, 1, 0, 1], .co [1, 1]] [(2, .bool false)] (by kernel_rfl) ?_
        refine retR [2] [.bool false] (by kernel_rfl) (by kernel_rfl) (by kernel_rfl) ?_
        have hret := (Option.some.inj hf)
        subst hret
        exact ⟨_, rfl, rfl, H.scalar⟩
      · rw [hb6]
        refine seg 4 [.co [1, 0, 1], .co [1, 1]] [(0, .string ⟨s_.toArray⟩), (19, .bool ((ByteArray.toList ⟨s_.toArray⟩) == (ByteArray.toList ⟨([46, 46] : List UInt8).toArray⟩)))] (by kernel_rfl) ?_
        rw [seq_raw s_ ([46, 46] : List UInt8)]
        rcases condT hf with ⟨hb8, hf⟩ | ⟨hb8, hf⟩
        · rw [hb8]
          refine seg 5 [.co [1, 0, 1, 0, 1], .co [1, 1]] [(2, .bool false)] (by kernel_rfl) ?_
          refine retR [2] [.bool false] (by kernel_rfl) (by kernel_rfl) (by kernel_rfl) ?_
          have hret := (Option.some.inj hf)
          subst hret
          exact ⟨_, rfl, rfl, H.scalar⟩
        · rw [hb8]
          refine seg 7 [.co [1, 1, 0, 1], .co [1, 1, 1]] [(0, .string ⟨s_.toArray⟩), (3, .int .i64 0)] (by kernel_rfl) ?_
          obtain ⟨y38, hp38, hfl38, hfr38⟩ := bndE hf
          refine joinR 0 (fun (x : Unit) => []) (fun (x : Unit) (wj38 : World) => y38 = .inl () ∧ St w noF m m [] wj38) (by kernel_rfl) ?_ ?_
          · refine seg 1 [.co [1, 1, 0, 1, 0], .bl 0, .le 0, .co [1, 1, 1]] [(0, .string ⟨s_.toArray⟩), (3, .int .i64 0)] (by kernel_rfl) ?_
            obtain ⟨nn48, hR48⟩ := loopO_iff.1 hp38
            refine loopR 1 (fun (x : Nat × Nat) => [(0, .string ⟨s_.toArray⟩), (3, .int .i64 (x.2 : Int))]) (fun (x : Nat × Nat) (wl48 : World) => iter (fun s => ref10_Valid_l1 s_ s) x.1 x.2 = some y38 ∧ St w noF m m [] wl48) (fun (x : Nat × Nat) => x.1) (nn48, 0) (by kernel_rfl) (by kernel_rfl) (by kernel_rfl) ?_ ?_
            · exact ⟨hR48, H⟩
            rintro ⟨n48, i⟩ wl48 ⟨hR48, H⟩
            try dsimp only at hR48
            try dsimp only at H
            obtain ⟨nk48, q48, rfl, hb_48, hnx48, hfin48⟩ := iterE hR48
            replace hb_48 : ref10_Valid_l1 s_ i = some q48 := hb_48
            unfold ref10_Valid_l1 at hb_48
            refine seg 8 [.co [1, 1, 0, 1, 0, 0, 0, 1], .co [1, 1, 0, 1, 0, 0, 1], .le 1, .bl 0, .le 0, .co [1, 1, 1]] [(0, .string ⟨s_.toArray⟩), (3, .int .i64 (i : Int)), (23, .bool (decide ((i : Int) < (s_.length : Int))))] (by kernel_rfl) ?_
            rcases condT hb_48 with ⟨hb50, hb_48⟩ | ⟨hb50, hb_48⟩
            · rw [hb50]
              have p50 := of_decide_eq_true hb50
              refine seg 8 [.op [1, 1, 0, 1, 0, 0, 1, 0, 0, 0] 2, .co [1, 1, 0, 1, 0, 0, 1, 0, 0, 1], .bl 1, .co [1, 1, 0, 1, 0, 0, 1, 1], .le 1, .bl 0, .le 0, .co [1, 1, 1]] [(0, .string ⟨s_.toArray⟩), (3, .int .i64 (i : Int)), (26, .string ⟨s_.toArray⟩), (27, .int .i64 (i : Int))] (by kernel_rfl) ?_
              obtain ⟨c, h_c, hb_48⟩ := bindE hb_48
              refine st (strS (some 28) 9 s_ .i64 (i : Int) c (by kernel_rfl) (by kernel_rfl) h_c ?_)
              refine seg 2 [.op [1, 1, 0, 1, 0, 0, 1, 0, 0, 0] 5, .co [1, 1, 0, 1, 0, 0, 1, 0, 0, 1], .bl 1, .co [1, 1, 0, 1, 0, 0, 1, 1], .le 1, .bl 0, .le 0, .co [1, 1, 1]] [(0, .string ⟨s_.toArray⟩), (3, .int .i64 (i : Int)), (30, .bool ((c.toNat : Int) == 47))] (by kernel_rfl) ?_
              rcases condT hb_48 with ⟨hb51, hb_48⟩ | ⟨hb51, hb_48⟩
              · rw [hb51]
                refine seg 11 [.co [1, 1, 0, 1, 0, 0, 1, 0, 0, 1, 0, 1], .bl 1, .co [1, 1, 0, 1, 0, 0, 1, 1], .le 1, .bl 0, .le 0, .co [1, 1, 1]] [(2, .bool false)] (by kernel_rfl) ?_
                refine retR [2] [.bool false] (by kernel_rfl) (by kernel_rfl) (by kernel_rfl) ?_
                have hret := (hfr38 _ (hfin48 _ (Option.some.inj hb_48).symm).symm)
                subst hret
                exact ⟨_, rfl, rfl, H.scalar⟩
              · rw [hb51]
                refine seg 2 [.op [1, 1, 0, 1, 0, 0, 1, 0, 0, 0] 7, .co [1, 1, 0, 1, 0, 0, 1, 0, 0, 1], .bl 1, .co [1, 1, 0, 1, 0, 0, 1, 1], .le 1, .bl 0, .le 0, .co [1, 1, 1]] [(0, .string ⟨s_.toArray⟩), (3, .int .i64 (i : Int)), (30, .bool false), (31, .string ⟨s_.toArray⟩), (32, .int .i64 (i : Int))] (by kernel_rfl) ?_
                refine st (strS (some 33) 9 s_ .i64 (i : Int) c (by kernel_rfl) (by kernel_rfl) h_c ?_)
                refine seg 3 [.co [1, 1, 0, 1, 0, 0, 1, 0, 0, 1], .bl 1, .co [1, 1, 0, 1, 0, 0, 1, 1], .le 1, .bl 0, .le 0, .co [1, 1, 1]] [(0, .string ⟨s_.toArray⟩), (3, .int .i64 (i : Int)), (35, .bool ((c.toNat : Int) == 0))] (by kernel_rfl) ?_
                rcases condT hb_48 with ⟨hb52, hb_48⟩ | ⟨hb52, hb_48⟩
                · rw [hb52]
                  refine seg 5 [.co [1, 1, 0, 1, 0, 0, 1, 0, 0, 1, 0, 1], .bl 1, .co [1, 1, 0, 1, 0, 0, 1, 1], .le 1, .bl 0, .le 0, .co [1, 1, 1]] [(2, .bool false)] (by kernel_rfl) ?_
                  refine retR [2] [.bool false] (by kernel_rfl) (by kernel_rfl) (by kernel_rfl) ?_
                  have hret := (hfr38 _ (hfin48 _ (Option.some.inj hb_48).symm).symm)
                  subst hret
                  exact ⟨_, rfl, rfl, H.scalar⟩
                · rw [hb52]
                  refine seg 8 [.le 1, .bl 0, .le 0, .co [1, 1, 1]] [(0, .string ⟨s_.toArray⟩), (3, .int .i64 (IntKind.i64.wrap ((i : Int) + 1)))] (by kernel_rfl) ?_
                  have := l0_0
                  rw [show IntKind.i64.wrap ((i : Int) + 1) = ((i : Int) + 1) from w64 (by omega)]
                  refine leR (nk48, (i + 1)) (Nat.lt_succ_self _) ⟨hnx48 _ (Option.some.inj hb_48).symm, H⟩ (by kernel_rfl)
            · rw [hb50]
              have p50 := of_decide_eq_false hb50
              refine seg 2 [.le 0, .co [1, 1, 1]] [] (by kernel_rfl) ?_
              refine leR_up (k' := []) (by rfl) ?_
              refine leJ () ⟨(hfin48 _ (Option.some.inj hb_48).symm).symm, H⟩ (by kernel_rfl)
          rintro _ wj38 ⟨hy38, H⟩
          have hf := hfl38 _ hy38
          try dsimp only at hf
          refine seg 4 [.co [1, 1, 1, 1]] [(2, .bool true)] (by kernel_rfl) ?_
          refine retR [2] [.bool true] (by kernel_rfl) (by kernel_rfl) (by kernel_rfl) ?_
          have hret := (Option.some.inj hf)
          subst hret
          exact ⟨_, rfl, rfl, H.scalar⟩
theorem ref16_Right_c {m : Mem} {w : World} (hm : Has m w) (l_ : (List TApiKid)) (A0_0 : Option Addr) (c0_0 : Nat) (s0_0 : SlI rApiKid m A0_0 c0_0 l_) {r : Bool} (hf : ref16_Right l_ = some r) :
    Calls Try.prog 16 #[.slice A0_0 l_.length c0_0] w fun e w' => ∃ v, e = .returned v ∧ v = .bool r ∧ Ex w w' := by
  unfold ref16_Right at hf
  have H := St.start0 hm
  refine callsR Try.func16 (by kernel_rfl) (by kernel_rfl) ?_
  refine seg 9 [.co [1, 0, 1], .co [1, 1]] [(0, .slice A0_0 l_.length c0_0), (3, .int .i64 0)] (by kernel_rfl) ?_
  obtain ⟨y247, hp247, hfl247, hfr247⟩ := bndE hf
  refine joinR 0 (fun (x : Unit) => []) (fun (x : Unit) (wj247 : World) => y247 = .inl () ∧ St w noF m m [] wj247) (by kernel_rfl) ?_ ?_
  · refine seg 1 [.co [1, 0, 1, 0], .bl 0, .le 0, .co [1, 1]] [(0, .slice A0_0 l_.length c0_0), (3, .int .i64 0)] (by kernel_rfl) ?_
    obtain ⟨nn311, hR311⟩ := loopO_iff.1 hp247
    refine loopR 1 (fun (x : Nat × Nat) => [(0, .slice A0_0 l_.length c0_0), (3, .int .i64 (x.2 : Int))]) (fun (x : Nat × Nat) (wl311 : World) => iter (fun s => ref16_Right_l1 l_ s) x.1 x.2 = some y247 ∧ St w noF m m [] wl311) (fun (x : Nat × Nat) => x.1) (nn311, 0) (by kernel_rfl) (by kernel_rfl) (by kernel_rfl) ?_ ?_
    · exact ⟨hR311, H⟩
    rintro ⟨n311, i⟩ wl311 ⟨hR311, H⟩
    try dsimp only at hR311
    try dsimp only at H
    obtain ⟨nk311, q311, rfl, hb_311, hnx311, hfin311⟩ := iterE hR311
    replace hb_311 : ref16_Right_l1 l_ i = some q311 := hb_311
    unfold ref16_Right_l1 at hb_311
    refine seg 8 [.co [1, 0, 1, 0, 0, 0, 1], .co [1, 0, 1, 0, 0, 1], .le 1, .bl 0, .le 0, .co [1, 1]] [(0, .slice A0_0 l_.length c0_0), (3, .int .i64 (i : Int)), (7, .bool (decide ((i : Int) < (l_.length : Int))))] (by kernel_rfl) ?_
    rcases condT hb_311 with ⟨hb313, hb_311⟩ | ⟨hb313, hb_311⟩
    · rw [hb313]
      have p313 := of_decide_eq_true hb313
      refine seg 5 [.co [1, 0, 1, 0, 0, 1, 0, 0, 0], .co [1, 0, 1, 0, 0, 1, 0, 0, 1], .bl 1, .co [1, 0, 1, 0, 0, 1, 1], .le 1, .bl 0, .le 0, .co [1, 1]] [(0, .slice A0_0 l_.length c0_0), (3, .int .i64 (i : Int))] (by kernel_rfl) ?_
      obtain ⟨x_, h_x_, hb_311⟩ := bindE hb_311
      obtain ⟨valid, h_valid, hb_311⟩ := bindE hb_311
      rcases condT hb_311 with ⟨hb317, hb_311⟩ | ⟨hb317, hb_311⟩
      · rcases condT hb_311 with ⟨hb321, hb_311⟩ | ⟨hb321, hb_311⟩
        · have p321 := of_decide_eq_true hb321
          have hst : statB (bodyOf Try.f16) [1, 0, 1, 0, 0, 1, 0, 0, 0] = true := by kernel_rfl
          refine drawS (Has m) H (by kernel_rfl) (by kernel_rfl) ?_
          intro w325 H
          refine segD2 hst [0, 1] [0, 1] [(0, .slice A0_0 l_.length c0_0), (3, .int .i64 (i : Int)), (10, .slice A0_0 l_.length c0_0), (11, .int .i64 (i : Int))] (by kernel_rfl) ?_
          replace H : St w noF m m [] w325 := H
          obtain ⟨ad326, _, ea326, ⟨rfl, hl326_0⟩, hc326⟩ := s0_0.at_ h_x_ (by decide)
          refine stD2 (i := 2) (by kernel_rfl) H.has (idxS (some 12) 22 28 2 A0_0 ad326 l_.length c0_0 .i64 (i : Int) ea326 (by kernel_rfl) (by kernel_rfl) (by omega) (by have := (List.getElem?_eq_some_iff.1 h_x_).1; omega) ?_)
          refine segD2 hst [3] [0, 1, 2, 3] [(0, .slice A0_0 l_.length c0_0), (3, .int .i64 (i : Int)), (13, .pointer (some (ad326.add (i * 2))))] (by kernel_rfl) ?_
          refine stD2 (i := 4) (by kernel_rfl) H.has (ldR (some 14) 9 (ad326.add (i * 2)) (.string ⟨x_.Name.toArray⟩) (by kernel_rfl) (by kernel_rfl) (H.cellI (mc0 (hc326 0 _ rfl))) ?_)
          refine stD2 (i := 5) (by kernel_rfl) H.has (callR (some 15) 34 #[.string ⟨x_.Name.toArray⟩] Try.call34 (ref10_Valid_c H.has x_.Name hl326_0 h_valid) (by kernel_rfl) ?_)
          rintro _ w327 ⟨rfl, hx327⟩
          replace H := H.ex hx327
          refine segD2 hst [6] [0, 1, 2, 3, 4, 5, 6] [(0, .slice A0_0 l_.length c0_0), (3, .int .i64 (i : Int)), (16, .bool (!valid))] (by kernel_rfl) ?_
          rw [show valid = true from hb317]
          refine segD2 hst [7, 8, 9] [0, 1, 2, 3, 4, 5, 6, 7, 8, 9] [(0, .slice A0_0 l_.length c0_0), (3, .int .i64 (i : Int)), (17, .bool false), (18, .slice A0_0 l_.length c0_0), (19, .int .i64 (i : Int))] (by kernel_rfl) ?_
          refine stD2 (i := 10) (by kernel_rfl) H.has (idxS (some 20) 22 28 2 A0_0 ad326 l_.length c0_0 .i64 (i : Int) ea326 (by kernel_rfl) (by kernel_rfl) (by omega) (by have := (List.getElem?_eq_some_iff.1 h_x_).1; omega) ?_)
          refine segD2 hst [11] [0, 1, 2, 3, 4, 5, 6, 7, 8, 9, 10, 11] [(0, .slice A0_0 l_.length c0_0), (3, .int .i64 (i : Int)), (17, .bool false), (21, .pointer (some ((ad326.add (i * 2)).add 1)))] (by kernel_rfl) ?_
          refine stD2 (i := 12) (by kernel_rfl) H.has (ldR (some 22) 3 ((ad326.add (i * 2)).add 1) (.int .i64 x_.Ino) (by kernel_rfl) (by kernel_rfl) (H.cellI (hc326 1 _ rfl)) ?_)
          refine segD2 hst [13] [0, 1, 2, 3, 4, 5, 6, 7, 8, 9, 10, 11, 12, 13] [(0, .slice A0_0 l_.length c0_0), (3, .int .i64 (i : Int)), (17, .bool false), (23, .bool (decide (x_.Ino < 0)))] (by kernel_rfl) ?_
          rw [show (decide (x_.Ino < 0)) = true from hb321]
          refine segD2 hst [14, 15, 16, 17, 18, 19, 20, 21, 22, 23, 24, 25, 26, 27, 28, 29, 30, 31, 32, 33, 34, 35, 36, 37, 38, 39, 40] [0, 1, 2, 3, 4, 5, 6, 7, 8, 9, 10, 11, 12, 13, 14, 15, 16, 17, 18, 19, 20, 21, 22, 23, 24, 25, 26, 27, 28, 29, 30, 31, 32, 33, 34, 35, 36, 37, 38, 39, 40] [(0, .slice A0_0 l_.length c0_0), (3, .int .i64 (i : Int)), (50, .bool true)] (by kernel_rfl) ?_
          refine endD2 (by kernel_rfl) H.has ?_
          refine seg 5 [.co [1, 0, 1, 0, 0, 1, 0, 0, 1, 0, 1], .bl 1, .co [1, 0, 1, 0, 0, 1, 1], .le 1, .bl 0, .le 0, .co [1, 1]] [(2, .bool false)] (by kernel_rfl) ?_
          refine retR [2] [.bool false] (by kernel_rfl) (by kernel_rfl) (by kernel_rfl) ?_
          have hret := (hfr247 _ (hfin311 _ (Option.some.inj hb_311).symm).symm)
          subst hret
          exact ⟨_, rfl, rfl, H.scalar⟩
        · have p321 := of_decide_eq_false hb321
          rcases condT hb_311 with ⟨hb331, hb_311⟩ | ⟨hb331, hb_311⟩
          · have p331 := of_decide_eq_true hb331
            have hst : statB (bodyOf Try.f16) [1, 0, 1, 0, 0, 1, 0, 0, 0] = true := by kernel_rfl
            refine drawS (Has m) H (by kernel_rfl) (by kernel_rfl) ?_
            intro w335 H
            refine segD2 hst [0, 1] [0, 1] [(0, .slice A0_0 l_.length c0_0), (3, .int .i64 (i : Int)), (10, .slice A0_0 l_.length c0_0), (11, .int .i64 (i : Int))] (by kernel_rfl) ?_
            obtain ⟨ad336, _, ea336, ⟨rfl, hl336_0⟩, hc336⟩ := s0_0.at_ h_x_ (by decide)
            refine stD2 (i := 2) (by kernel_rfl) H.has (idxS (some 12) 22 28 2 A0_0 ad336 l_.length c0_0 .i64 (i : Int) ea336 (by kernel_rfl) (by kernel_rfl) (by omega) (by have := (List.getElem?_eq_some_iff.1 h_x_).1; omega) ?_)
            refine segD2 hst [3] [0, 1, 2, 3] [(0, .slice A0_0 l_.length c0_0), (3, .int .i64 (i : Int)), (13, .pointer (some (ad336.add (i * 2))))] (by kernel_rfl) ?_
            refine stD2 (i := 4) (by kernel_rfl) H.has (ldR (some 14) 9 (ad336.add (i * 2)) (.string ⟨x_.Name.toArray⟩) (by kernel_rfl) (by kernel_rfl) (H.cellI (mc0 (hc336 0 _ rfl))) ?_)
            refine stD2 (i := 5) (by kernel_rfl) H.has (callR (some 15) 34 #[.string ⟨x_.Name.toArray⟩] Try.call34 (ref10_Valid_c H.has x_.Name hl336_0 h_valid) (by kernel_rfl) ?_)
            rintro _ w337 ⟨rfl, hx337⟩
            replace H := H.ex hx337
            refine segD2 hst [6] [0, 1, 2, 3, 4, 5, 6] [(0, .slice A0_0 l_.length c0_0), (3, .int .i64 (i : Int)), (16, .bool (!valid))] (by kernel_rfl) ?_
            rw [show valid = true from hb317]
            refine segD2 hst [7, 8, 9] [0, 1, 2, 3, 4, 5, 6, 7, 8, 9] [(0, .slice A0_0 l_.length c0_0), (3, .int .i64 (i : Int)), (17, .bool false), (18, .slice A0_0 l_.length c0_0), (19, .int .i64 (i : Int))] (by kernel_rfl) ?_
            replace H : St w noF m m [] w337 := H
            refine stD2 (i := 10) (by kernel_rfl) H.has (idxS (some 20) 22 28 2 A0_0 ad336 l_.length c0_0 .i64 (i : Int) ea336 (by kernel_rfl) (by kernel_rfl) (by omega) (by have := (List.getElem?_eq_some_iff.1 h_x_).1; omega) ?_)
            refine segD2 hst [11] [0, 1, 2, 3, 4, 5, 6, 7, 8, 9, 10, 11] [(0, .slice A0_0 l_.length c0_0), (3, .int .i64 (i : Int)), (17, .bool false), (21, .pointer (some ((ad336.add (i * 2)).add 1)))] (by kernel_rfl) ?_
            refine stD2 (i := 12) (by kernel_rfl) H.has (ldR (some 22) 3 ((ad336.add (i * 2)).add 1) (.int .i64 x_.Ino) (by kernel_rfl) (by kernel_rfl) (H.cellI (hc336 1 _ rfl)) ?_)
            refine segD2 hst [13] [0, 1, 2, 3, 4, 5, 6, 7, 8, 9, 10, 11, 12, 13] [(0, .slice A0_0 l_.length c0_0), (3, .int .i64 (i : Int)), (17, .bool false), (23, .bool (decide (x_.Ino < 0)))] (by kernel_rfl) ?_
            rw [show (decide (x_.Ino < 0)) = false from hb321]
            refine segD2 hst [14, 15, 16, 17] [0, 1, 2, 3, 4, 5, 6, 7, 8, 9, 10, 11, 12, 13, 14, 15, 16, 17] [(0, .slice A0_0 l_.length c0_0), (3, .int .i64 (i : Int)), (25, .bool false), (26, .slice A0_0 l_.length c0_0), (27, .int .i64 (i : Int))] (by kernel_rfl) ?_
            refine stD2 (i := 18) (by kernel_rfl) H.has (idxS (some 28) 22 28 2 A0_0 ad336 l_.length c0_0 .i64 (i : Int) ea336 (by kernel_rfl) (by kernel_rfl) (by omega) (by have := (List.getElem?_eq_some_iff.1 h_x_).1; omega) ?_)
            refine segD2 hst [19] [0, 1, 2, 3, 4, 5, 6, 7, 8, 9, 10, 11, 12, 13, 14, 15, 16, 17, 18, 19] [(0, .slice A0_0 l_.length c0_0), (3, .int .i64 (i : Int)), (25, .bool false), (29, .pointer (some ((ad336.add (i * 2)).add 1)))] (by kernel_rfl) ?_
            refine stD2 (i := 20) (by kernel_rfl) H.has (ldR (some 30) 3 ((ad336.add (i * 2)).add 1) (.int .i64 x_.Ino) (by kernel_rfl) (by kernel_rfl) (H.cellI (hc336 1 _ rfl)) ?_)
            refine segD2 hst [21] [0, 1, 2, 3, 4, 5, 6, 7, 8, 9, 10, 11, 12, 13, 14, 15, 16, 17, 18, 19, 20, 21] [(0, .slice A0_0 l_.length c0_0), (3, .int .i64 (i : Int)), (25, .bool false), (31, .bool (decide (x_.Ino > 16384)))] (by kernel_rfl) ?_
            rw [show (decide (x_.Ino > 16384)) = true from hb331]
            refine segD2 hst [22, 23, 24, 25, 26, 27, 28, 29, 30, 31, 32, 33, 34, 35, 36, 37, 38, 39, 40] [0, 1, 2, 3, 4, 5, 6, 7, 8, 9, 10, 11, 12, 13, 14, 15, 16, 17, 18, 19, 20, 21, 22, 23, 24, 25, 26, 27, 28, 29, 30, 31, 32, 33, 34, 35, 36, 37, 38, 39, 40] [(0, .slice A0_0 l_.length c0_0), (3, .int .i64 (i : Int)), (50, .bool true)] (by kernel_rfl) ?_
            refine endD2 (by kernel_rfl) H.has ?_
            refine seg 5 [.co [1, 0, 1, 0, 0, 1, 0, 0, 1, 0, 1], .bl 1, .co [1, 0, 1, 0, 0, 1, 1], .le 1, .bl 0, .le 0, .co [1, 1]] [(2, .bool false)] (by kernel_rfl) ?_
            refine retR [2] [.bool false] (by kernel_rfl) (by kernel_rfl) (by kernel_rfl) ?_
            have hret := (hfr247 _ (hfin311 _ (Option.some.inj hb_311).symm).symm)
            subst hret
            exact ⟨_, rfl, rfl, H.scalar⟩
          · have p331 := of_decide_eq_false hb331
            rcases condT hb_311 with ⟨hb341, hb_311⟩ | ⟨hb341, hb_311⟩
            · have p341 := of_decide_eq_true hb341
              obtain ⟨x_1, h_x_1, hb_311⟩ := bindE hb_311
              obtain ⟨i0345, i1345, ix345⟩ := idx_some h_x_1
              have hst : statB (bodyOf Try.f16) [1, 0, 1, 0, 0, 1, 0, 0, 0] = true := by kernel_rfl
              refine drawS (Has m) H (by kernel_rfl) (by kernel_rfl) ?_
              intro w347 H
              refine segD2 hst [0, 1] [0, 1] [(0, .slice A0_0 l_.length c0_0), (3, .int .i64 (i : Int)), (10, .slice A0_0 l_.length c0_0), (11, .int .i64 (i : Int))] (by kernel_rfl) ?_
              obtain ⟨ad348, _, ea348, ⟨rfl, hl348_0⟩, hc348⟩ := s0_0.at_ h_x_ (by decide)
              refine stD2 (i := 2) (by kernel_rfl) H.has (idxS (some 12) 22 28 2 A0_0 ad348 l_.length c0_0 .i64 (i : Int) ea348 (by kernel_rfl) (by kernel_rfl) (by omega) (by have := (List.getElem?_eq_some_iff.1 h_x_).1; omega) ?_)
              refine segD2 hst [3] [0, 1, 2, 3] [(0, .slice A0_0 l_.length c0_0), (3, .int .i64 (i : Int)), (13, .pointer (some (ad348.add (i * 2))))] (by kernel_rfl) ?_
              refine stD2 (i := 4) (by kernel_rfl) H.has (ldR (some 14) 9 (ad348.add (i * 2)) (.string ⟨x_.Name.toArray⟩) (by kernel_rfl) (by kernel_rfl) (H.cellI (mc0 (hc348 0 _ rfl))) ?_)
              refine stD2 (i := 5) (by kernel_rfl) H.has (callR (some 15) 34 #[.string ⟨x_.Name.toArray⟩] Try.call34 (ref10_Valid_c H.has x_.Name hl348_0 h_valid) (by kernel_rfl) ?_)
              rintro _ w349 ⟨rfl, hx349⟩
              replace H := H.ex hx349
              refine segD2 hst [6] [0, 1, 2, 3, 4, 5, 6] [(0, .slice A0_0 l_.length c0_0), (3, .int .i64 (i : Int)), (16, .bool (!valid))] (by kernel_rfl) ?_
              rw [show valid = true from hb317]
              refine segD2 hst [7, 8, 9] [0, 1, 2, 3, 4, 5, 6, 7, 8, 9] [(0, .slice A0_0 l_.length c0_0), (3, .int .i64 (i : Int)), (17, .bool false), (18, .slice A0_0 l_.length c0_0), (19, .int .i64 (i : Int))] (by kernel_rfl) ?_
              refine stD2 (i := 10) (by kernel_rfl) H.has (idxS (some 20) 22 28 2 A0_0 ad348 l_.length c0_0 .i64 (i : Int) ea348 (by kernel_rfl) (by kernel_rfl) (by omega) (by have := (List.getElem?_eq_some_iff.1 h_x_).1; omega) ?_)
              refine segD2 hst [11] [0, 1, 2, 3, 4, 5, 6, 7, 8, 9, 10, 11] [(0, .slice A0_0 l_.length c0_0), (3, .int .i64 (i : Int)), (17, .bool false), (21, .pointer (some ((ad348.add (i * 2)).add 1)))] (by kernel_rfl) ?_
              refine stD2 (i := 12) (by kernel_rfl) H.has (ldR (some 22) 3 ((ad348.add (i * 2)).add 1) (.int .i64 x_.Ino) (by kernel_rfl) (by kernel_rfl) (H.cellI (hc348 1 _ rfl)) ?_)
              refine segD2 hst [13] [0, 1, 2, 3, 4, 5, 6, 7, 8, 9, 10, 11, 12, 13] [(0, .slice A0_0 l_.length c0_0), (3, .int .i64 (i : Int)), (17, .bool false), (23, .bool (decide (x_.Ino < 0)))] (by kernel_rfl) ?_
              rw [show (decide (x_.Ino < 0)) = false from hb321]
              refine segD2 hst [14, 15, 16, 17] [0, 1, 2, 3, 4, 5, 6, 7, 8, 9, 10, 11, 12, 13, 14, 15, 16, 17] [(0, .slice A0_0 l_.length c0_0), (3, .int .i64 (i : Int)), (25, .bool false), (26, .slice A0_0 l_.length c0_0), (27, .int .i64 (i : Int))] (by kernel_rfl) ?_
              refine stD2 (i := 18) (by kernel_rfl) H.has (idxS (some 28) 22 28 2 A0_0 ad348 l_.length c0_0 .i64 (i : Int) ea348 (by kernel_rfl) (by kernel_rfl) (by omega) (by have := (List.getElem?_eq_some_iff.1 h_x_).1; omega) ?_)
              refine segD2 hst [19] [0, 1, 2, 3, 4, 5, 6, 7, 8, 9, 10, 11, 12, 13, 14, 15, 16, 17, 18, 19] [(0, .slice A0_0 l_.length c0_0), (3, .int .i64 (i : Int)), (25, .bool false), (29, .pointer (some ((ad348.add (i * 2)).add 1)))] (by kernel_rfl) ?_
              refine stD2 (i := 20) (by kernel_rfl) H.has (ldR (some 30) 3 ((ad348.add (i * 2)).add 1) (.int .i64 x_.Ino) (by kernel_rfl) (by kernel_rfl) (H.cellI (hc348 1 _ rfl)) ?_)
              refine segD2 hst [21] [0, 1, 2, 3, 4, 5, 6, 7, 8, 9, 10, 11, 12, 13, 14, 15, 16, 17, 18, 19, 20, 21] [(0, .slice A0_0 l_.length c0_0), (3, .int .i64 (i : Int)), (25, .bool false), (31, .bool (decide (x_.Ino > 16384)))] (by kernel_rfl) ?_
              rw [show (decide (x_.Ino > 16384)) = false from hb331]
              refine segD2 hst [22, 23, 24, 25] [0, 1, 2, 3, 4, 5, 6, 7, 8, 9, 10, 11, 12, 13, 14, 15, 16, 17, 18, 19, 20, 21, 22, 23, 24, 25] [(0, .slice A0_0 l_.length c0_0), (3, .int .i64 (i : Int)), (33, .bool false), (35, .bool (decide ((i : Int) > 0)))] (by kernel_rfl) ?_
              rw [show (decide ((i : Int) > 0)) = true from hb341]
              refine segD2 hst [26, 27, 28, 32, 33, 34] [0, 1, 2, 3, 4, 5, 6, 7, 8, 9, 10, 11, 12, 13, 14, 15, 16, 17, 18, 19, 20, 21, 22, 23, 24, 25, 26, 27, 28, 32, 33, 34] [(0, .slice A0_0 l_.length c0_0), (3, .int .i64 (i : Int)), (33, .bool false), (36, .bool true), (37, .slice A0_0 l_.length c0_0), (38, .int .i64 (i : Int)), (42, .slice A0_0 l_.length c0_0), (44, .int .i64 (IntKind.i64.wrap ((i : Int) - 1)))] (by kernel_rfl) ?_
              have := s0_0.bound
              rw [show IntKind.i64.wrap ((i : Int) - 1) = ((i : Int) - 1) from w64 (by omega)]
              refine takeD2 (i := 29) (d := (some 39)) (s := vS (Instr.indexAt 22 (.slice A0_0 l_.length c0_0) (.int .i64 (i : Int)))) (v := .pointer (some (ad348.add (i * 2)))) hst (by kernel_rfl) (by kernel_rfl) (fun w' hw' => idx_run 22 28 2 _ ad348 _ _ _ _ _ ea348 (by kernel_rfl) (by omega) (by have := (List.getElem?_eq_some_iff.1 h_x_).1; omega) rfl) ?_
              refine segD2 hst [30] [0, 1, 2, 3, 4, 5, 6, 7, 8, 9, 10, 11, 12, 13, 14, 15, 16, 17, 18, 19, 20, 21, 22, 23, 24, 25, 26, 27, 28, 32, 33, 34, 29, 30] [(0, .slice A0_0 l_.length c0_0), (3, .int .i64 (i : Int)), (33, .bool false), (36, .bool true), (40, .pointer (some (ad348.add (i * 2)))), (42, .slice A0_0 l_.length c0_0), (44, .int .i64 ((i : Int) - 1))] (by kernel_rfl) ?_
              refine takeD2 (i := 31) (d := (some 41)) (s := vS (Instr.loadAt 9 (.pointer (some (ad348.add (i * 2)))))) (v := (.string ⟨x_.Name.toArray⟩)) hst (by kernel_rfl) (by kernel_rfl) (fun w' hw' => ld_run _ _ _ (by kernel_rfl) (hw'.cell (mc0 (hc348 0 _ rfl)))) ?_
              obtain ⟨ad350, _, ea350, ⟨rfl, hl350_0⟩, hc350⟩ := s0_0.at_ ix345 (by decide)
              refine stD2 (i := 35) (by kernel_rfl) H.has (idxS (some 45) 22 28 2 A0_0 ad350 l_.length c0_0 .i64 ((i : Int) - 1) ea350 (by kernel_rfl) (by kernel_rfl) i0345 i1345 ?_)
              refine segD2 hst [36] [0, 1, 2, 3, 4, 5, 6, 7, 8, 9, 10, 11, 12, 13, 14, 15, 16, 17, 18, 19, 20, 21, 22, 23, 24, 25, 26, 27, 28, 32, 33, 34, 29, 30, 31, 35, 36] [(0, .slice A0_0 l_.length c0_0), (3, .int .i64 (i : Int)), (33, .bool false), (36, .bool true), (41, .string ⟨x_.Name.toArray⟩), (46, .pointer (some (ad350.add (((i : Int) - 1).toNat * 2))))] (by kernel_rfl) ?_
              refine stD2 (i := 37) (by kernel_rfl) H.has (ldR (some 47) 9 (ad350.add (((i : Int) - 1).toNat * 2)) (.string ⟨x_1.Name.toArray⟩) (by kernel_rfl) (by kernel_rfl) (H.cellI (mc0 (hc350 0 _ rfl))) ?_)
              refine segD2 hst [38] [0, 1, 2, 3, 4, 5, 6, 7, 8, 9, 10, 11, 12, 13, 14, 15, 16, 17, 18, 19, 20, 21, 22, 23, 24, 25, 26, 27, 28, 32, 33, 34, 29, 30, 31, 35, 36, 37, 38] [(0, .slice A0_0 l_.length c0_0), (3, .int .i64 (i : Int)), (33, .bool false), (36, .bool true), (48, .bool (Go.Op.bytesLess (ByteArray.toList ⟨x_.Name.toArray⟩) (ByteArray.toList ⟨x_1.Name.toArray⟩) || (ByteArray.toList ⟨x_.Name.toArray⟩) == (ByteArray.toList ⟨x_1.Name.toArray⟩)))] (by kernel_rfl) ?_
              rw [leB_raw x_.Name x_1.Name]
              refine segD2 hst [39] [0, 1, 2, 3, 4, 5, 6, 7, 8, 9, 10, 11, 12, 13, 14, 15, 16, 17, 18, 19, 20, 21, 22, 23, 24, 25, 26, 27, 28, 32, 33, 34, 29, 30, 31, 35, 36, 37, 38, 39] [(0, .slice A0_0 l_.length c0_0), (3, .int .i64 (i : Int)), (33, .bool false), (49, .bool (leB x_.Name x_1.Name))] (by kernel_rfl) ?_
              refine segD2 hst [40] [0, 1, 2, 3, 4, 5, 6, 7, 8, 9, 10, 11, 12, 13, 14, 15, 16, 17, 18, 19, 20, 21, 22, 23, 24, 25, 26, 27, 28, 32, 33, 34, 29, 30, 31, 35, 36, 37, 38, 39, 40] [(0, .slice A0_0 l_.length c0_0), (3, .int .i64 (i : Int)), (50, .bool (leB x_.Name x_1.Name))] (by kernel_rfl) ?_
              refine endD2 (by kernel_rfl) H.has ?_
              rcases condT hb_311 with ⟨hb351, hb_311⟩ | ⟨hb351, hb_311⟩
              · rw [hb351]
                refine seg 5 [.co [1, 0, 1, 0, 0, 1, 0, 0, 1, 0, 1], .bl 1, .co [1, 0, 1, 0, 0, 1, 1], .le 1, .bl 0, .le 0, .co [1, 1]] [(2, .bool false)] (by kernel_rfl) ?_
                refine retR [2] [.bool false] (by kernel_rfl) (by kernel_rfl) (by kernel_rfl) ?_
                have hret := (hfr247 _ (hfin311 _ (Option.some.inj hb_311).symm).symm)
                subst hret
                exact ⟨_, rfl, rfl, H.scalar⟩
              · rw [hb351]
                refine seg 8 [.le 1, .bl 0, .le 0, .co [1, 1]] [(0, .slice A0_0 l_.length c0_0), (3, .int .i64 (IntKind.i64.wrap ((i : Int) + 1)))] (by kernel_rfl) ?_
                have := s0_0.bound
                rw [show IntKind.i64.wrap ((i : Int) + 1) = ((i : Int) + 1) from w64 (by omega)]
                refine leR (nk311, (i + 1)) (Nat.lt_succ_self _) ⟨hnx311 _ (Option.some.inj hb_311).symm, H⟩ (by kernel_rfl)
            · have p341 := of_decide_eq_false hb341
              have hst : statB (bodyOf Try.f16) [1, 0, 1, 0, 0, 1, 0, 0, 0] = true := by kernel_rfl
              refine drawS (Has m) H (by kernel_rfl) (by kernel_rfl) ?_
              intro w355 H
              refine segD2 hst [0, 1] [0, 1] [(0, .slice A0_0 l_.length c0_0), (3, .int .i64 (i : Int)), (10, .slice A0_0 l_.length c0_0), (11, .int .i64 (i : Int))] (by kernel_rfl) ?_
              replace H : St w noF m m [] w355 := H
              obtain ⟨ad356, _, ea356, ⟨rfl, hl356_0⟩, hc356⟩ := s0_0.at_ h_x_ (by decide)
              refine stD2 (i := 2) (by kernel_rfl) H.has (idxS (some 12) 22 28 2 A0_0 ad356 l_.length c0_0 .i64 (i : Int) ea356 (by kernel_rfl) (by kernel_rfl) (by omega) (by have := (List.getElem?_eq_some_iff.1 h_x_).1; omega) ?_)
              refine segD2 hst [3] [0, 1, 2, 3] [(0, .slice A0_0 l_.length c0_0), (3, .int .i64 (i : Int)), (13, .pointer (some (ad356.add (i * 2))))] (by kernel_rfl) ?_
              refine stD2 (i := 4) (by kernel_rfl) H.has (ldR (some 14) 9 (ad356.add (i * 2)) (.string ⟨x_.Name.toArray⟩) (by kernel_rfl) (by kernel_rfl) (H.cellI (mc0 (hc356 0 _ rfl))) ?_)
              refine stD2 (i := 5) (by kernel_rfl) H.has (callR (some 15) 34 #[.string ⟨x_.Name.toArray⟩] Try.call34 (ref10_Valid_c H.has x_.Name hl356_0 h_valid) (by kernel_rfl) ?_)
              rintro _ w357 ⟨rfl, hx357⟩
              replace H := H.ex hx357
              refine segD2 hst [6] [0, 1, 2, 3, 4, 5, 6] [(0, .slice A0_0 l_.length c0_0), (3, .int .i64 (i : Int)), (16, .bool (!valid))] (by kernel_rfl) ?_
              rw [show valid = true from hb317]
              refine segD2 hst [7, 8, 9] [0, 1, 2, 3, 4, 5, 6, 7, 8, 9] [(0, .slice A0_0 l_.length c0_0), (3, .int .i64 (i : Int)), (17, .bool false), (18, .slice A0_0 l_.length c0_0), (19, .int .i64 (i : Int))] (by kernel_rfl) ?_
              refine stD2 (i := 10) (by kernel_rfl) H.has (idxS (some 20) 22 28 2 A0_0 ad356 l_.length c0_0 .i64 (i : Int) ea356 (by kernel_rfl) (by kernel_rfl) (by omega) (by have := (List.getElem?_eq_some_iff.1 h_x_).1; omega) ?_)
              refine segD2 hst [11] [0, 1, 2, 3, 4, 5, 6, 7, 8, 9, 10, 11] [(0, .slice A0_0 l_.length c0_0), (3, .int .i64 (i : Int)), (17, .bool false), (21, .pointer (some ((ad356.add (i * 2)).add 1)))] (by kernel_rfl) ?_
              refine stD2 (i := 12) (by kernel_rfl) H.has (ldR (some 22) 3 ((ad356.add (i * 2)).add 1) (.int .i64 x_.Ino) (by kernel_rfl) (by kernel_rfl) (H.cellI (hc356 1 _ rfl)) ?_)
              refine segD2 hst [13] [0, 1, 2, 3, 4, 5, 6, 7, 8, 9, 10, 11, 12, 13] [(0, .slice A0_0 l_.length c0_0), (3, .int .i64 (i : Int)), (17, .bool false), (23, .bool (decide (x_.Ino < 0)))] (by kernel_rfl) ?_
              rw [show (decide (x_.Ino < 0)) = false from hb321]
              refine segD2 hst [14, 15, 16, 17] [0, 1, 2, 3, 4, 5, 6, 7, 8, 9, 10, 11, 12, 13, 14, 15, 16, 17] [(0, .slice A0_0 l_.length c0_0), (3, .int .i64 (i : Int)), (25, .bool false), (26, .slice A0_0 l_.length c0_0), (27, .int .i64 (i : Int))] (by kernel_rfl) ?_
              refine stD2 (i := 18) (by kernel_rfl) H.has (idxS (some 28) 22 28 2 A0_0 ad356 l_.length c0_0 .i64 (i : Int) ea356 (by kernel_rfl) (by kernel_rfl) (by omega) (by have := (List.getElem?_eq_some_iff.1 h_x_).1; omega) ?_)
              refine segD2 hst [19] [0, 1, 2, 3, 4, 5, 6, 7, 8, 9, 10, 11, 12, 13, 14, 15, 16, 17, 18, 19] [(0, .slice A0_0 l_.length c0_0), (3, .int .i64 (i : Int)), (25, .bool false), (29, .pointer (some ((ad356.add (i * 2)).add 1)))] (by kernel_rfl) ?_
              refine stD2 (i := 20) (by kernel_rfl) H.has (ldR (some 30) 3 ((ad356.add (i * 2)).add 1) (.int .i64 x_.Ino) (by kernel_rfl) (by kernel_rfl) (H.cellI (hc356 1 _ rfl)) ?_)
              refine segD2 hst [21] [0, 1, 2, 3, 4, 5, 6, 7, 8, 9, 10, 11, 12, 13, 14, 15, 16, 17, 18, 19, 20, 21] [(0, .slice A0_0 l_.length c0_0), (3, .int .i64 (i : Int)), (25, .bool false), (31, .bool (decide (x_.Ino > 16384)))] (by kernel_rfl) ?_
              rw [show (decide (x_.Ino > 16384)) = false from hb331]
              refine segD2 hst [22, 23, 24, 25] [0, 1, 2, 3, 4, 5, 6, 7, 8, 9, 10, 11, 12, 13, 14, 15, 16, 17, 18, 19, 20, 21, 22, 23, 24, 25] [(0, .slice A0_0 l_.length c0_0), (3, .int .i64 (i : Int)), (33, .bool false), (35, .bool (decide ((i : Int) > 0)))] (by kernel_rfl) ?_
              rw [show (decide ((i : Int) > 0)) = false from hb341]
              refine segD2 hst [26, 27, 28, 29, 30, 31, 32, 33, 34, 35, 36, 37, 38, 39, 40] [0, 1, 2, 3, 4, 5, 6, 7, 8, 9, 10, 11, 12, 13, 14, 15, 16, 17, 18, 19, 20, 21, 22, 23, 24, 25, 26, 27, 28, 29, 30, 31, 32, 33, 34, 35, 36, 37, 38, 39, 40] [(0, .slice A0_0 l_.length c0_0), (3, .int .i64 (i : Int)), (50, .bool false)] (by kernel_rfl) ?_
              refine endD2 (by kernel_rfl) H.has ?_
              refine seg 8 [.le 1, .bl 0, .le 0, .co [1, 1]] [(0, .slice A0_0 l_.length c0_0), (3, .int .i64 (IntKind.i64.wrap ((i : Int) + 1)))] (by kernel_rfl) ?_
              have := s0_0.bound
              rw [show IntKind.i64.wrap ((i : Int) + 1) = ((i : Int) + 1) from w64 (by omega)]
              refine leR (nk311, (i + 1)) (Nat.lt_succ_self _) ⟨hnx311 _ (Option.some.inj hb_311).symm, H⟩ (by kernel_rfl)
      · have hst : statB (bodyOf Try.f16) [1, 0, 1, 0, 0, 1, 0, 0, 0] = true := by kernel_rfl
        refine drawS (Has m) H (by kernel_rfl) (by kernel_rfl) ?_
        intro w361 H
        refine segD2 hst [0, 1] [0, 1] [(0, .slice A0_0 l_.length c0_0), (3, .int .i64 (i : Int)), (10, .slice A0_0 l_.length c0_0), (11, .int .i64 (i : Int))] (by kernel_rfl) ?_
        obtain ⟨ad362, _, ea362, ⟨rfl, hl362_0⟩, hc362⟩ := s0_0.at_ h_x_ (by decide)
        refine stD2 (i := 2) (by kernel_rfl) H.has (idxS (some 12) 22 28 2 A0_0 ad362 l_.length c0_0 .i64 (i : Int) ea362 (by kernel_rfl) (by kernel_rfl) (by omega) (by have := (List.getElem?_eq_some_iff.1 h_x_).1; omega) ?_)
        refine segD2 hst [3] [0, 1, 2, 3] [(0, .slice A0_0 l_.length c0_0), (3, .int .i64 (i : Int)), (13, .pointer (some (ad362.add (i * 2))))] (by kernel_rfl) ?_
        refine stD2 (i := 4) (by kernel_rfl) H.has (ldR (some 14) 9 (ad362.add (i * 2)) (.string ⟨x_.Name.toArray⟩) (by kernel_rfl) (by kernel_rfl) (H.cellI (mc0 (hc362 0 _ rfl))) ?_)
        refine stD2 (i := 5) (by kernel_rfl) H.has (callR (some 15) 34 #[.string ⟨x_.Name.toArray⟩] Try.call34 (ref10_Valid_c H.has x_.Name hl362_0 h_valid) (by kernel_rfl) ?_)
        rintro _ w363 ⟨rfl, hx363⟩
        replace H := H.ex hx363
        refine segD2 hst [6] [0, 1, 2, 3, 4, 5, 6] [(0, .slice A0_0 l_.length c0_0), (3, .int .i64 (i : Int)), (16, .bool (!valid))] (by kernel_rfl) ?_
        rw [show valid = false from hb317]
        refine segD2 hst [7, 8, 9, 10, 11, 12, 13, 14, 15, 16, 17, 18, 19, 20, 21, 22, 23, 24, 25, 26, 27, 28, 29, 30, 31, 32, 33, 34, 35, 36, 37, 38, 39, 40] [0, 1, 2, 3, 4, 5, 6, 7, 8, 9, 10, 11, 12, 13, 14, 15, 16, 17, 18, 19, 20, 21, 22, 23, 24, 25, 26, 27, 28, 29, 30, 31, 32, 33, 34, 35, 36, 37, 38, 39, 40] [(0, .slice A0_0 l_.length c0_0), (3, .int .i64 (i : Int)), (50, .bool true)] (by kernel_rfl) ?_
        refine endD2 (by kernel_rfl) H.has ?_
        refine seg 5 [.co [1, 0, 1, 0, 0, 1, 0, 0, 1, 0, 1], .bl 1, .co [1, 0, 1, 0, 0, 1, 1], .le 1, .bl 0, .le 0, .co [1, 1]] [(2, .bool false)] (by kernel_rfl) ?_
        refine retR [2] [.bool false] (by kernel_rfl) (by kernel_rfl) (by kernel_rfl) ?_
        have hret := (hfr247 _ (hfin311 _ (Option.some.inj hb_311).symm).symm)
        subst hret
        exact ⟨_, rfl, rfl, H.scalar⟩
    · rw [hb313]
      have p313 := of_decide_eq_false hb313
      refine seg 2 [.le 0, .co [1, 1]] [] (by kernel_rfl) ?_
      refine leR_up (k' := []) (by rfl) ?_
      refine leJ () ⟨(hfin311 _ (Option.some.inj hb_311).symm).symm, H⟩ (by kernel_rfl)
  rintro _ wj247 ⟨hy247, H⟩
  have hf := hfl247 _ hy247
  try dsimp only at hf
  refine seg 4 [.co [1, 1, 1]] [(2, .bool true)] (by kernel_rfl) ?_
  refine retR [2] [.bool true] (by kernel_rfl) (by kernel_rfl) (by kernel_rfl) ?_
  have hret := (Option.some.inj hf)
  subst hret
  exact ⟨_, rfl, rfl, H.scalar⟩
theorem ref01_Store_c {m : Mem} {w : World} (hm : Has m w) (n_ : UInt64) (w_ : Int) {r : (List UInt8)} (hf : ref01_Store n_ w_ = some r) :
    Calls Try.prog 46 #[.int .u64 (n_.toNat : Int), .int .i64 w_] w fun e w' => ∃ v, e = .returned v ∧ ∃ Az_0 : Option Addr, ∃ cz_0 : Nat, ∃ m' : Mem, v = .slice Az_0 r.length cz_0 ∧ St w noF m m' [rowI rU8 5 Az_0 cz_0 r] w' := by
  unfold ref01_Store at hf
  have H := St.start0 hm
  refine callsR Try.func46 (by kernel_rfl) (by kernel_rfl) ?_
  refine seg 13 [.co [1, 1, 0, 1], .co [1, 1, 1]] [(0, .int .u64 (n_.toNat : Int)), (1, .int .i64 w_), (5, .slice none 0 0), (6, .int .i64 0)] (by kernel_rfl) ?_
  obtain ⟨y36, hp36, hf⟩ := bindE hf
  refine joinR 0 (fun (x : (List UInt8) × Option Addr × Nat) => [(5, .slice (x.2.1) x.1.length (x.2.2))]) (fun (x : (List UInt8) × Option Addr × Nat) (wj36 : World) => y36 = x.1 ∧ St w noF m m [rowI rU8 5 (x.2.1) (x.2.2) x.1] wj36) (by kernel_rfl) ?_ ?_
  · refine seg 1 [.co [1, 1, 0, 1, 0], .bl 0, .le 0, .co [1, 1, 1]] [(0, .int .u64 (n_.toNat : Int)), (1, .int .i64 w_), (5, .slice none 0 0), (6, .int .i64 0)] (by kernel_rfl) ?_
    have H := H.nilR rU8 5
    obtain ⟨nn50, hR50⟩ := loopO_iff.1 hp36
    refine loopR 1 (fun (x : Nat × UInt64 × (List UInt8) × Int × Option Addr × Nat) => [(0, .int .u64 (x.2.1.toNat : Int)), (1, .int .i64 w_), (5, .slice (x.2.2.2.2.1) x.2.2.1.length (x.2.2.2.2.2)), (6, .int .i64 x.2.2.2.1)]) (fun (x : Nat × UInt64 × (List UInt8) × Int × Option Addr × Nat) (wl50 : World) => iter (fun s => ref01_Store_l1 w_ s.1 s.2.1 s.2.2) x.1 (x.2.1, x.2.2.1, x.2.2.2.1) = some y36 ∧ St w noF m m [rowI rU8 5 (x.2.2.2.2.1) (x.2.2.2.2.2) x.2.2.1] wl50) (fun (x : Nat × UInt64 × (List UInt8) × Int × Option Addr × Nat) => x.1) (nn50, n_, [], 0, none, 0) (by kernel_rfl) (by kernel_rfl) (by kernel_rfl) ?_ ?_
    · exact ⟨hR50, H⟩
    rintro ⟨n50, n_1, b, i, A_1_51, c_2_51⟩ wl50 ⟨hR50, H⟩
    try dsimp only at hR50
    try dsimp only at H
    obtain ⟨nk50, q50, rfl, hb_50, hnx50, hfin50⟩ := iterE hR50
    replace hb_50 : ref01_Store_l1 w_ n_1 b i = some q50 := hb_50
    unfold ref01_Store_l1 at hb_50
    refine seg 7 [.co [1, 1, 0, 1, 0, 0, 0, 1], .co [1, 1, 0, 1, 0, 0, 1], .le 1, .bl 0, .le 0, .co [1, 1, 1]] [(0, .int .u64 (n_1.toNat : Int)), (1, .int .i64 w_), (5, .slice A_1_51 b.length c_2_51), (6, .int .i64 i), (9, .bool (decide (i < w_)))] (by kernel_rfl) ?_
    rcases condT hb_50 with ⟨hb52, hb_50⟩ | ⟨hb52, hb_50⟩
    · rw [hb52]
      have p52 := of_decide_eq_true hb52
      refine seg 10 [.op [1, 1, 0, 1, 0, 0, 1, 0, 0, 0] 4, .co [1, 1, 0, 1, 0, 0, 1, 0, 0, 1], .bl 1, .co [1, 1, 0, 1, 0, 0, 1, 1], .le 1, .bl 0, .le 0, .co [1, 1, 1]] [(0, .int .u64 (n_1.toNat : Int)), (1, .int .i64 w_), (6, .int .i64 i), (12, .slice A_1_51 b.length c_2_51), (15, .int .u8 (IntKind.u8.wrap (Int.tmod (n_1.toNat : Int) 256)))] (by kernel_rfl) ?_
      rw [q64_rem n_1 (256 : UInt64) (n_1.toNat : Int) 256 (by rfl) (by rfl)]
      rw [q8_u64 (n_1 % (256 : UInt64))]
      replace H : St w noF m m [rowI rU8 5 A_1_51 c_2_51 b] wl50 := H
      refine st (newS (some 16) (fun g => .slice (some ⟨g, 0, none⟩) 1 1) [.int .u8 (((n_1 % (256 : UInt64)).toUInt8).toNat : Int)] 5 H (by kernel_rfl) ?_)
      intro g53 w53 H
      obtain ⟨b1, h_b1, hb_50⟩ := bindE hb_50
      refine st (appS (r := rU8) (some 17) 30 5 1 (.int .u8 0) 30 1 A_1_51 (some ⟨g53, 0, none⟩) c_2_51 1 1 b [(n_1 % (256 : UInt64)).toUInt8] b1 _ H rfl ⟨Try.underlying30, by kernel_rfl⟩ rfl (by decide) (by kernel_rfl) (Cs.of_blk (H.blk 0 rfl)) (Rows.u8.2 rfl) rfl h_b1 (by decide) (by decide) ?_)
      intro A54 c54 w54 H
      replace H := H.drop 0 rfl
      refine seg 13 [.le 1, .bl 0, .le 0, .co [1, 1, 1]] [(0, .int .u64 (IntKind.u64.wrap (Int.tdiv (n_1.toNat : Int) 256))), (1, .int .i64 w_), (5, .slice A54 b1.length c54), (6, .int .i64 (IntKind.i64.wrap (i + 1)))] (by kernel_rfl) ?_
      rw [q64_quo n_1 (256 : UInt64) (n_1.toNat : Int) 256 (by rfl) (by rfl)]
      refine leR (nk50, (n_1 / (256 : UInt64)), b1, (IntKind.i64.wrap (i + 1)), A54, c54) (Nat.lt_succ_self _) ⟨hnx50 _ (Option.some.inj hb_50).symm, H⟩ (by kernel_rfl)
    · rw [hb52]
      have p52 := of_decide_eq_false hb52
      refine seg 2 [.le 0, .co [1, 1, 1]] [(5, .slice A_1_51 b.length c_2_51)] (by kernel_rfl) ?_
      refine leR_up (k' := []) (by rfl) ?_
      refine leJ (b, A_1_51, c_2_51) ⟨(hfin50 _ (Option.some.inj hb_50).symm).symm, H⟩ (by kernel_rfl)
  rintro ⟨b, A_1_37, c_2_37⟩ wj36 ⟨hy36, H⟩
  try dsimp only at hy36
  try dsimp only at H
  rw [hy36] at hf
  refine seg 5 [.co [1, 1, 1, 1]] [(4, .slice A_1_37 b.length c_2_37)] (by kernel_rfl) ?_
  refine retR [4] [.slice A_1_37 b.length c_2_37] (by kernel_rfl) (by kernel_rfl) (by kernel_rfl) ?_
  have hret := (Option.some.inj hf)
  subst hret
  exact ⟨_, rfl, A_1_37, c_2_37, m, rfl, H⟩
theorem ref16_Bytes_c {m : Mem} {w : World} (hm : Has m w) (l_ : (List TApiKid)) (A0_0 : Option Addr) (c0_0 : Nat) (s0_0 : SlI rApiKid m A0_0 c0_0 l_) {r : (List UInt8)} (hf : ref16_Bytes l_ = some r) :
    Calls Try.prog 19 #[.slice A0_0 l_.length c0_0] w fun e w' => ∃ v, e = .returned v ∧ ∃ Az_0 : Option Addr, ∃ cz_0 : Nat, ∃ m' : Mem, v = .slice Az_0 r.length cz_0 ∧ St w noF m m' [rowI rU8 5 Az_0 cz_0 r] w' := by
  unfold ref16_Bytes at hf
  have H := St.start0 hm
  refine callsR Try.func19 (by kernel_rfl) (by kernel_rfl) ?_
  refine seg 13 [.co [1, 1, 0, 1], .co [1, 1, 1]] [(0, .slice A0_0 l_.length c0_0), (3, .slice none 0 0), (4, .int .i64 0)] (by kernel_rfl) ?_
  obtain ⟨y499, hp499, hf⟩ := bindE hf
  refine joinR 0 (fun (x : (List UInt8) × Option Addr × Nat × Mem) => [(3, .slice (x.2.1) x.1.length (x.2.2.1))]) (fun (x : (List UInt8) × Option Addr × Nat × Mem) (wj499 : World) => y499 = x.1 ∧ St w noF m x.2.2.2 [rowI rU8 5 (x.2.1) (x.2.2.1) x.1] wj499 ∧ Sub m x.2.2.2) (by kernel_rfl) ?_ ?_
  · refine seg 1 [.co [1, 1, 0, 1, 0], .bl 0, .le 0, .co [1, 1, 1]] [(0, .slice A0_0 l_.length c0_0), (3, .slice none 0 0), (4, .int .i64 0)] (by kernel_rfl) ?_
    have H := H.nilR rU8 5
    obtain ⟨nn626, hR626⟩ := loopO_iff.1 hp499
    refine loopR 1 (fun (x : Nat × (List UInt8) × Int × Option Addr × Nat × Mem) => [(0, .slice A0_0 l_.length c0_0), (3, .slice (x.2.2.2.1) x.2.1.length (x.2.2.2.2.1)), (4, .int .i64 x.2.2.1)]) (fun (x : Nat × (List UInt8) × Int × Option Addr × Nat × Mem) (wl626 : World) => iter (fun s => ref16_Bytes_l1 l_ s.1 s.2) x.1 (x.2.1, x.2.2.1) = some y499 ∧ St w noF m x.2.2.2.2.2 [rowI rU8 5 (x.2.2.2.1) (x.2.2.2.2.1) x.2.1] wl626 ∧ Sub m x.2.2.2.2.2) (fun (x : Nat × (List UInt8) × Int × Option Addr × Nat × Mem) => x.1) (nn626, [], 0, none, 0, m) (by kernel_rfl) (by kernel_rfl) (by kernel_rfl) ?_ ?_
    · exact ⟨hR626, H, (Sub.refl _)⟩
    rintro ⟨n626, b, i, A_1_627, c_2_627, mm627⟩ wl626 ⟨hR626, H, hsub627⟩
    try dsimp only at hR626
    try dsimp only at H
    try dsimp only at hsub627
    obtain ⟨nk626, q626, rfl, hb_626, hnx626, hfin626⟩ := iterE hR626
    replace hb_626 : ref16_Bytes_l1 l_ b i = some q626 := hb_626
    unfold ref16_Bytes_l1 at hb_626
    refine seg 8 [.co [1, 1, 0, 1, 0, 0, 0, 1], .co [1, 1, 0, 1, 0, 0, 1], .le 1, .bl 0, .le 0, .co [1, 1, 1]] [(0, .slice A0_0 l_.length c0_0), (3, .slice A_1_627 b.length c_2_627), (4, .int .i64 i), (11, .bool (decide (i < (l_.length : Int))))] (by kernel_rfl) ?_
    rcases condT hb_626 with ⟨hb628, hb_626⟩ | ⟨hb628, hb_626⟩
    · rw [hb628]
      have p628 := of_decide_eq_true hb628
      refine seg 12 [.co [1, 1, 0, 1, 0, 0, 1, 0, 1, 1, 0], .co [1, 1, 0, 1, 0, 0, 1, 0, 1, 1, 1], .bl 1, .le 1, .bl 0, .le 0, .co [1, 1, 1]] [(0, .slice A0_0 l_.length c0_0), (3, .slice A_1_627 b.length c_2_627), (4, .int .i64 i), (5, .int .i64 0), (6, .slice none 0 0)] (by kernel_rfl) ?_
      obtain ⟨y679, hp679, hb_626⟩ := bindE hb_626
      refine joinR 2 (fun (x : Nat × (List UInt8) × Option Addr × Nat × Mem) => [(0, .slice A0_0 l_.length c0_0), (3, .slice A_1_627 b.length c_2_627), (4, .int .i64 i), (5, .int .i64 (x.1 : Int)), (6, .slice (x.2.2.1) x.2.1.length (x.2.2.2.1))]) (fun (x : Nat × (List UInt8) × Option Addr × Nat × Mem) (wj679 : World) => y679 = (x.1, x.2.1) ∧ St w noF m x.2.2.2.2 [rowI rU8 5 A_1_627 c_2_627 b, rowI rU8 5 (x.2.2.1) (x.2.2.2.1) x.2.1] wj679 ∧ Sub mm627 x.2.2.2.2) (by kernel_rfl) ?_ ?_
      · refine seg 1 [.co [1, 1, 0, 1, 0, 0, 1, 0, 1, 1, 0, 0], .bl 2, .le 2, .co [1, 1, 0, 1, 0, 0, 1, 0, 1, 1, 1], .bl 1, .le 1, .bl 0, .le 0, .co [1, 1, 1]] [(0, .slice A0_0 l_.length c0_0), (3, .slice A_1_627 b.length c_2_627), (4, .int .i64 i), (5, .int .i64 0), (6, .slice none 0 0)] (by kernel_rfl) ?_
        have H := H.nilR rU8 5
        obtain ⟨nn714, hR714⟩ := loopO_iff.1 hp679
        refine loopR 3 (fun (x : Nat × Nat × (List UInt8) × Option Addr × Nat × Mem) => [(0, .slice A0_0 l_.length c0_0), (3, .slice A_1_627 b.length c_2_627), (4, .int .i64 i), (5, .int .i64 (x.2.1 : Int)), (6, .slice (x.2.2.2.1) x.2.2.1.length (x.2.2.2.2.1))]) (fun (x : Nat × Nat × (List UInt8) × Option Addr × Nat × Mem) (wl714 : World) => iter (fun s => ref16_Bytes_l2 l_ i s.1 s.2) x.1 (x.2.1, x.2.2.1) = some y679 ∧ St w noF m x.2.2.2.2.2 [rowI rU8 5 A_1_627 c_2_627 b, rowI rU8 5 (x.2.2.2.1) (x.2.2.2.2.1) x.2.2.1] wl714 ∧ Sub mm627 x.2.2.2.2.2) (fun (x : Nat × Nat × (List UInt8) × Option Addr × Nat × Mem) => x.1) (nn714, 0, [], none, 0, mm627) (by kernel_rfl) (by kernel_rfl) (by kernel_rfl) ?_ ?_
        · exact ⟨hR714, (H.pull 1 rfl), (Sub.refl _)⟩
        rintro ⟨n714, n_, row, A_1_715, c_2_715, mm715⟩ wl714 ⟨hR714, H, hsub715⟩
        try dsimp only at hR714
        try dsimp only at H
        try dsimp only at hsub715
        obtain ⟨nk714, q714, rfl, hb_714, hnx714, hfin714⟩ := iterE hR714
        replace hb_714 : ref16_Bytes_l2 l_ i n_ row = some q714 := hb_714
        unfold ref16_Bytes_l2 at hb_714
        refine seg 2 [.co [1, 1, 0, 1, 0, 0, 1, 0, 1, 1, 0, 0, 0, 0, 0], .co [1, 1, 0, 1, 0, 0, 1, 0, 1, 1, 0, 0, 0, 0, 1], .co [1, 1, 0, 1, 0, 0, 1, 0, 1, 1, 0, 0, 0, 1], .le 3, .bl 2, .le 2, .co [1, 1, 0, 1, 0, 0, 1, 0, 1, 1, 1], .bl 1, .le 1, .bl 0, .le 0, .co [1, 1, 1]] [(0, .slice A0_0 l_.length c0_0), (3, .slice A_1_627 b.length c_2_627), (4, .int .i64 i), (5, .int .i64 (n_ : Int)), (6, .slice A_1_715 row.length c_2_715)] (by kernel_rfl) ?_
        rcases condT hb_714 with ⟨hb716, hb_714⟩ | ⟨hb716, hb_714⟩
        · have p716 := of_decide_eq_true hb716
          rcases condT hb_714 with ⟨hb717, hb_714⟩ | ⟨hb717, hb_714⟩
          · have p717 := of_decide_eq_true hb717
            obtain ⟨x_, h_x_, hb_714⟩ := bindE hb_714
            obtain ⟨i0718, i1718, ix718⟩ := idx_some h_x_
            obtain ⟨x_1, h_x_1, hb_714⟩ := bindE hb_714
            obtain ⟨i0720, i1720, ix720⟩ := idx_some h_x_1
            have hst : statB (bodyOf Try.f19) [1, 1, 0, 1, 0, 0, 1, 0, 1, 1, 0, 0, 0, 0, 0] = true := by kernel_rfl
            refine drawS (Has mm715) H (by kernel_rfl) (by kernel_rfl) ?_
            intro w722 H
            refine segD2 hst [0, 1, 2] [0, 1, 2] [(0, .slice A0_0 l_.length c0_0), (3, .slice A_1_627 b.length c_2_627), (4, .int .i64 i), (5, .int .i64 (n_ : Int)), (6, .slice A_1_715 row.length c_2_715), (14, .int .i64 (IntKind.i64.wrap (i + (n_ : Int))))] (by kernel_rfl) ?_
            refine segD2 hst [3, 4, 5] [0, 1, 2, 3, 4, 5] [(0, .slice A0_0 l_.length c0_0), (3, .slice A_1_627 b.length c_2_627), (4, .int .i64 i), (5, .int .i64 (n_ : Int)), (6, .slice A_1_715 row.length c_2_715), (17, .bool (decide ((IntKind.i64.wrap (i + (n_ : Int))) < (l_.length : Int))))] (by kernel_rfl) ?_
            rw [show (decide ((IntKind.i64.wrap (i + (n_ : Int))) < (l_.length : Int))) = true from hb716]
            refine segD2 hst [6, 7, 8] [0, 1, 2, 3, 4, 5, 6, 7, 8] [(0, .slice A0_0 l_.length c0_0), (3, .slice A_1_627 b.length c_2_627), (4, .int .i64 i), (5, .int .i64 (n_ : Int)), (6, .slice A_1_715 row.length c_2_715), (18, .bool true), (20, .bool (decide ((n_ : Int) < 256)))] (by kernel_rfl) ?_
            rw [show (decide ((n_ : Int) < 256)) = true from hb717]
            refine segD2 hst [9, 10, 11, 12, 13, 14] [0, 1, 2, 3, 4, 5, 6, 7, 8, 9, 10, 11, 12, 13, 14] [(0, .slice A0_0 l_.length c0_0), (3, .slice A_1_627 b.length c_2_627), (4, .int .i64 i), (5, .int .i64 (n_ : Int)), (6, .slice A_1_715 row.length c_2_715), (22, .bool true), (23, .slice A0_0 l_.length c0_0), (26, .int .i64 (IntKind.i64.wrap (i + (n_ : Int))))] (by kernel_rfl) ?_
            refine segD2 hst [18, 19] [0, 1, 2, 3, 4, 5, 6, 7, 8, 9, 10, 11, 12, 13, 14, 18, 19] [(0, .slice A0_0 l_.length c0_0), (3, .slice A_1_627 b.length c_2_627), (4, .int .i64 i), (5, .int .i64 (n_ : Int)), (6, .slice A_1_715 row.length c_2_715), (22, .bool true), (23, .slice A0_0 l_.length c0_0), (26, .int .i64 (IntKind.i64.wrap (i + (n_ : Int)))), (30, .slice A0_0 l_.length c0_0), (31, .int .i64 i)] (by kernel_rfl) ?_
            obtain ⟨ad723, _, ea723, ⟨rfl, hl723_0⟩, hc723⟩ := (s0_0.mono (hsub627.trans hsub715)).at_ ix718 (by decide)
            refine takeD2 (i := 15) (d := (some 27)) (s := vS (Instr.indexAt 22 (.slice A0_0 l_.length c0_0) (.int .i64 (IntKind.i64.wrap (i + (n_ : Int)))))) (v := .pointer (some (ad723.add ((IntKind.i64.wrap (i + (n_ : Int))).toNat * 2)))) hst (by kernel_rfl) (by kernel_rfl) (fun w' hw' => idx_run 22 28 2 _ ad723 _ _ _ _ _ ea723 (by kernel_rfl) i0718 i1718 rfl) ?_
            refine segD2 hst [16] [0, 1, 2, 3, 4, 5, 6, 7, 8, 9, 10, 11, 12, 13, 14, 18, 19, 15, 16] [(0, .slice A0_0 l_.length c0_0), (3, .slice A_1_627 b.length c_2_627), (4, .int .i64 i), (5, .int .i64 (n_ : Int)), (6, .slice A_1_715 row.length c_2_715), (22, .bool true), (28, .pointer (some ((ad723.add ((IntKind.i64.wrap (i + (n_ : Int))).toNat * 2)).add 1))), (30, .slice A0_0 l_.length c0_0), (31, .int .i64 i)] (by kernel_rfl) ?_
            refine takeD2 (i := 17) (d := (some 29)) (s := vS (Instr.loadAt 3 (.pointer (some ((ad723.add ((IntKind.i64.wrap (i + (n_ : Int))).toNat * 2)).add 1))))) (v := (.int .i64 x_.Ino)) hst (by kernel_rfl) (by kernel_rfl) (fun w' hw' => ld_run _ _ _ (by kernel_rfl) (hw'.cell (hc723 1 _ rfl))) ?_
            replace H : St w noF m mm715 [rowI rU8 5 A_1_627 c_2_627 b, rowI rU8 5 A_1_715 c_2_715 row] w722 := H
            obtain ⟨ad724, _, ea724, ⟨rfl, hl724_0⟩, hc724⟩ := (s0_0.mono (hsub627.trans hsub715)).at_ ix720 (by decide)
            refine stD2 (i := 20) (by kernel_rfl) H.has (idxS (some 32) 22 28 2 A0_0 ad724 l_.length c0_0 .i64 i ea724 (by kernel_rfl) (by kernel_rfl) i0720 i1720 ?_)
            refine segD2 hst [21] [0, 1, 2, 3, 4, 5, 6, 7, 8, 9, 10, 11, 12, 13, 14, 18, 19, 15, 16, 17, 20, 21] [(0, .slice A0_0 l_.length c0_0), (3, .slice A_1_627 b.length c_2_627), (4, .int .i64 i), (5, .int .i64 (n_ : Int)), (6, .slice A_1_715 row.length c_2_715), (22, .bool true), (29, .int .i64 x_.Ino), (33, .pointer (some ((ad724.add (i.toNat * 2)).add 1)))] (by kernel_rfl) ?_
            refine stD2 (i := 22) (by kernel_rfl) H.has (ldR (some 34) 3 ((ad724.add (i.toNat * 2)).add 1) (.int .i64 x_1.Ino) (by kernel_rfl) (by kernel_rfl) (H.cellI (hc724 1 _ rfl)) ?_)
            refine segD2 hst [23] [0, 1, 2, 3, 4, 5, 6, 7, 8, 9, 10, 11, 12, 13, 14, 18, 19, 15, 16, 17, 20, 21, 22, 23] [(0, .slice A0_0 l_.length c0_0), (3, .slice A_1_627 b.length c_2_627), (4, .int .i64 i), (5, .int .i64 (n_ : Int)), (6, .slice A_1_715 row.length c_2_715), (22, .bool true), (35, .bool (decide (x_.Ino ≥ x_1.Ino)))] (by kernel_rfl) ?_
            refine segD2 hst [24] [0, 1, 2, 3, 4, 5, 6, 7, 8, 9, 10, 11, 12, 13, 14, 18, 19, 15, 16, 17, 20, 21, 22, 23, 24] [(0, .slice A0_0 l_.length c0_0), (3, .slice A_1_627 b.length c_2_627), (4, .int .i64 i), (5, .int .i64 (n_ : Int)), (6, .slice A_1_715 row.length c_2_715), (36, .bool (decide (x_.Ino ≥ x_1.Ino)))] (by kernel_rfl) ?_
            refine endD2 (by kernel_rfl) H.has ?_
            rcases condT hb_714 with ⟨hb725, hb_714⟩ | ⟨hb725, hb_714⟩
            · rw [hb725]
              have p725 := of_decide_eq_true hb725
              refine seg 9 [.op [1, 1, 0, 1, 0, 0, 1, 0, 1, 1, 0, 0, 0, 1, 0, 0] 4, .co [1, 1, 0, 1, 0, 0, 1, 0, 1, 1, 0, 0, 0, 1, 0, 1], .bl 3, .le 3, .bl 2, .le 2, .co [1, 1, 0, 1, 0, 0, 1, 0, 1, 1, 1], .bl 1, .le 1, .bl 0, .le 0, .co [1, 1, 1]] [(0, .slice A0_0 l_.length c0_0), (3, .slice A_1_627 b.length c_2_627), (4, .int .i64 i), (5, .int .i64 (n_ : Int)), (6, .slice A_1_715 row.length c_2_715), (37, .slice A0_0 l_.length c0_0), (40, .int .i64 (IntKind.i64.wrap (i + (n_ : Int))))] (by kernel_rfl) ?_
              refine st (idxS (some 41) 22 28 2 A0_0 ad723 l_.length c0_0 .i64 (IntKind.i64.wrap (i + (n_ : Int))) ea723 (by kernel_rfl) (by kernel_rfl) i0718 i1718 ?_)
              refine st (ldAggR (some 42) 28 (ad723.add ((IntKind.i64.wrap (i + (n_ : Int))).toNat * 2)) [.string ⟨x_.Name.toArray⟩, .int .i64 x_.Ino] (by kernel_rfl) (by kernel_rfl) (fun j v hj => H.cellI (hc723 j v hj)) ?_)
              refine st (newS (some 7) (fun g => .pointer (some ⟨g, 0, none⟩)) [.string ⟨([] : List UInt8).toArray⟩, .int .i64 0] 28 H (by kernel_rfl) ?_)
              intro g726 w726 H
              refine st (stAggS none 28 0 g726 0 [.string ⟨x_.Name.toArray⟩, .int .i64 x_.Ino] [.string ⟨([] : List UInt8).toArray⟩, .int .i64 0] [.string ⟨x_.Name.toArray⟩, .int .i64 x_.Ino] 28 H rfl (by kernel_rfl) (by kernel_rfl) (by rfl) (of_decide_eq_true rfl) rfl ?_)
              intro w727 H
              refine seg 2 [.co [1, 1, 0, 1, 0, 0, 1, 0, 1, 1, 0, 0, 0, 1, 0, 1, 0], .co [1, 1, 0, 1, 0, 0, 1, 0, 1, 1, 0, 0, 0, 1, 0, 1, 1], .bl 3, .le 3, .bl 2, .le 2, .co [1, 1, 0, 1, 0, 0, 1, 0, 1, 1, 1], .bl 1, .le 1, .bl 0, .le 0, .co [1, 1, 1]] [(0, .slice A0_0 l_.length c0_0), (3, .slice A_1_627 b.length c_2_627), (4, .int .i64 i), (5, .int .i64 (n_ : Int)), (6, .slice A_1_715 row.length c_2_715), (7, .pointer (some (⟨g726, 0, none⟩)))] (by kernel_rfl) ?_
              obtain ⟨y734, hp734, hb_714⟩ := bindE hb_714
              refine joinR 4 (fun (x : (List UInt8) × Option Addr × Nat × Mem) => [(0, .slice A0_0 l_.length c0_0), (3, .slice A_1_627 b.length c_2_627), (4, .int .i64 i), (5, .int .i64 (n_ : Int)), (6, .slice (x.2.1) x.1.length (x.2.2.1))]) (fun (x : (List UInt8) × Option Addr × Nat × Mem) (wj734 : World) => y734 = x.1 ∧ St w noF m x.2.2.2 [rowI rU8 5 A_1_627 c_2_627 b, rowI rU8 5 (x.2.1) (x.2.2.1) x.1] wj734 ∧ Sub mm715 x.2.2.2) (by kernel_rfl) ?_ ?_
              · obtain ⟨store, h_store, hp734⟩ := bindE hp734
                obtain ⟨b1, h_b1, hp734⟩ := bindE hp734
                obtain ⟨b2, h_b2, hp734⟩ := bindE hp734
                obtain ⟨b3, h_b3, hp734⟩ := bindE hp734
                have hst : statB (bodyOf Try.f19) [1, 1, 0, 1, 0, 0, 1, 0, 1, 1, 0, 0, 0, 1, 0, 1, 0] = true := by kernel_rfl
                refine drawS (fun w' => Has mm715 w' ∧ w'.heap[g726]? = some (.cells [.string ⟨x_.Name.toArray⟩, .int .i64 x_.Ino].toArray 28 (0, 0))) H (by kernel_rfl) (by kernel_rfl) ?_
                intro w742 H
                refine segD2 hst [0, 1, 3, 4, 12, 18] [0, 1, 3, 4, 12, 18] [(0, .slice A0_0 l_.length c0_0), (3, .slice A_1_627 b.length c_2_627), (4, .int .i64 i), (5, .int .i64 (n_ : Int)), (43, .slice A_1_715 row.length c_2_715), (44, .pointer (some (⟨g726, 1, none⟩))), (46, .slice A0_0 l_.length c0_0), (47, .int .i64 i), (55, .pointer (some (⟨g726, 0, none⟩))), (61, .pointer (some (⟨g726, 0, none⟩)))] (by kernel_rfl) ?_
                refine takeD2 (i := 2) (d := (some 45)) (s := vS (Instr.loadAt 3 (.pointer (some (⟨g726, 1, none⟩))))) (v := (.int .i64 x_.Ino)) hst (by kernel_rfl) (by kernel_rfl) (fun w' hw' => ld_run _ _ _ (by kernel_rfl) (blk_cell hw'.2 rfl)) ?_
                refine takeD2 (i := 5) (d := (some 48)) (s := vS (Instr.indexAt 22 (.slice A0_0 l_.length c0_0) (.int .i64 i))) (v := .pointer (some (ad724.add (i.toNat * 2)))) hst (by kernel_rfl) (by kernel_rfl) (fun w' hw' => idx_run 22 28 2 _ ad724 _ _ _ _ _ ea724 (by kernel_rfl) i0720 i1720 rfl) ?_
                refine segD2 hst [6] [0, 1, 3, 4, 12, 18, 2, 5, 6] [(0, .slice A0_0 l_.length c0_0), (3, .slice A_1_627 b.length c_2_627), (4, .int .i64 i), (5, .int .i64 (n_ : Int)), (43, .slice A_1_715 row.length c_2_715), (45, .int .i64 x_.Ino), (49, .pointer (some ((ad724.add (i.toNat * 2)).add 1))), (55, .pointer (some (⟨g726, 0, none⟩))), (61, .pointer (some (⟨g726, 0, none⟩)))] (by kernel_rfl) ?_
                refine takeD2 (i := 7) (d := (some 50)) (s := vS (Instr.loadAt 3 (.pointer (some ((ad724.add (i.toNat * 2)).add 1))))) (v := (.int .i64 x_1.Ino)) hst (by kernel_rfl) (by kernel_rfl) (fun w' hw' => ld_run _ _ _ (by kernel_rfl) (hw'.1.cell (hc724 1 _ rfl))) ?_
                refine segD2 hst [8] [0, 1, 3, 4, 12, 18, 2, 5, 6, 7, 8] [(0, .slice A0_0 l_.length c0_0), (3, .slice A_1_627 b.length c_2_627), (4, .int .i64 i), (5, .int .i64 (n_ : Int)), (43, .slice A_1_715 row.length c_2_715), (51, .int .i64 (IntKind.i64.wrap (x_.Ino - x_1.Ino))), (55, .pointer (some (⟨g726, 0, none⟩))), (61, .pointer (some (⟨g726, 0, none⟩)))] (by kernel_rfl) ?_
                refine segD2 hst [9] [0, 1, 3, 4, 12, 18, 2, 5, 6, 7, 8, 9] [(0, .slice A0_0 l_.length c0_0), (3, .slice A_1_627 b.length c_2_627), (4, .int .i64 i), (5, .int .i64 (n_ : Int)), (43, .slice A_1_715 row.length c_2_715), (52, .int .u64 (IntKind.u64.wrap (IntKind.i64.wrap (x_.Ino - x_1.Ino)))), (55, .pointer (some (⟨g726, 0, none⟩))), (61, .pointer (some (⟨g726, 0, none⟩)))] (by kernel_rfl) ?_
                rw [q64_wrap (IntKind.i64.wrap (x_.Ino - x_1.Ino))]
                refine takeD2 (i := 13) (d := (some 56)) (s := vS (Instr.loadAt 9 (.pointer (some (⟨g726, 0, none⟩))))) (v := (.string ⟨x_.Name.toArray⟩)) hst (by kernel_rfl) (by kernel_rfl) (fun w' hw' => ld_run _ _ _ (by kernel_rfl) (blk_cell hw'.2 rfl)) ?_
                refine segD2 hst [14, 15] [0, 1, 3, 4, 12, 18, 2, 5, 6, 7, 8, 9, 13, 14, 15] [(0, .slice A0_0 l_.length c0_0), (3, .slice A_1_627 b.length c_2_627), (4, .int .i64 i), (5, .int .i64 (n_ : Int)), (43, .slice A_1_715 row.length c_2_715), (52, .int .u64 ((UInt64.ofInt (IntKind.i64.wrap (x_.Ino - x_1.Ino))).toNat : Int)), (58, .int .u8 (IntKind.u8.wrap (x_.Name.length : Int))), (61, .pointer (some (⟨g726, 0, none⟩)))] (by kernel_rfl) ?_
                rw [q8_wrap (x_.Name.length : Int)]
                refine takeD2 (i := 19) (d := (some 62)) (s := vS (Instr.loadAt 9 (.pointer (some (⟨g726, 0, none⟩))))) (v := (.string ⟨x_.Name.toArray⟩)) hst (by kernel_rfl) (by kernel_rfl) (fun w' hw' => ld_run _ _ _ (by kernel_rfl) (blk_cell hw'.2 rfl)) ?_
                refine allD2 [10, 16] (by kernel_rfl) ⟨H.has, H.blk 0 rfl⟩ ⟨?_, ?_, trivial⟩
                · replace H : St w noF m mm715 [blkI g726 [.string ⟨x_.Name.toArray⟩, .int .i64 x_.Ino] 28, rowI rU8 5 A_1_627 c_2_627 b, rowI rU8 5 A_1_715 c_2_715 row] w742 := H
                  refine (callR (some 53) 46 #[.int .u64 ((UInt64.ofInt (IntKind.i64.wrap (x_.Ino - x_1.Ino))).toNat : Int), .int .i64 2] Try.call46 (ref01_Store_c H.has (UInt64.ofInt (IntKind.i64.wrap (x_.Ino - x_1.Ino))) 2 h_store) (by kernel_rfl) ?_)
                  rintro _ w743 ⟨A743_0, c743_0, mk743, rfl, hS743⟩
                  have hsub743 := hS743.sub
                  replace H := H.call0 hS743
                  refine allD2 [11, 16] (by kernel_rfl) ⟨(H.has.sub hsub743), H.blk 1 rfl⟩ ⟨?_, ?_, trivial⟩
                  · obtain ⟨xs744, hr744, hx744⟩ := H.rowCs' 0 rfl
                    refine (appS (r := rU8) (some 54) 30 5 1 (.int .u8 0) 30 3 A_1_715 A743_0 c_2_715 store.length c743_0 row store b1 _ H rfl ⟨Try.underlying30, by kernel_rfl⟩ rfl (by decide) (by kernel_rfl) hx744 hr744 rfl h_b1 (by decide) (by decide) ?_)
                    intro A745 c745 w745 H
                    refine stD2 (i := 16) (by kernel_rfl) ⟨(H.has.sub hsub743), H.blk 1 rfl⟩ (newS (some 59) (fun g => .slice (some ⟨g, 0, none⟩) 1 1) [.int .u8 ((UInt8.ofInt (x_.Name.length : Int)).toNat : Int)] 5 H (by kernel_rfl) ?_)
                    intro g746 w746 H
                    refine stD2 (i := 17) (by kernel_rfl) ⟨(H.has.sub hsub743), H.blk 2 rfl⟩ (appS (r := rU8) (some 60) 30 5 1 (.int .u8 0) 30 4 A745 (some ⟨g746, 0, none⟩) c745 1 1 b1 [(UInt8.ofInt (x_.Name.length : Int))] b2 _ H rfl ⟨Try.underlying30, by kernel_rfl⟩ rfl (by decide) (by kernel_rfl) (Cs.of_blk (H.blk 0 rfl)) (Rows.u8.2 rfl) rfl h_b2 (by decide) (by decide) ?_)
                    intro A747 c747 w747 H
                    replace H := H.drop 0 rfl
                    replace H : St w noF m mk743 [blkI g726 [.string ⟨x_.Name.toArray⟩, .int .i64 x_.Ino] 28, rowI rU8 5 A_1_627 c_2_627 b, rowI rU8 5 A747 c747 b2] w747 := (H.drop 0 rfl)
                    refine stD2 (i := 20) (by kernel_rfl) ⟨(H.has.sub hsub743), H.blk 0 rfl⟩ (appstrS (some 63) 30 9 5 30 2 A747 c747 b2 x_.Name b3 H rfl ⟨Try.underlying30, by kernel_rfl⟩ Try.underlying9 (by kernel_rfl) h_b3 ?_)
                    intro A748 c748 w748 H
                    refine segD2 hst [21] [0, 1, 3, 4, 12, 18, 2, 5, 6, 7, 8, 9, 13, 14, 15, 19, 10, 11, 16, 17, 20, 21] [(0, .slice A0_0 l_.length c0_0), (3, .slice A_1_627 b.length c_2_627), (4, .int .i64 i), (5, .int .i64 (n_ : Int)), (6, .slice A748 b3.length c748)] (by kernel_rfl) ?_
                    refine endD2 (by kernel_rfl) ⟨(H.has.sub hsub743), H.blk 0 rfl⟩ ?_
                    refine leJ (b3, A748, c748, mk743) ⟨(Option.some.inj hp734).symm, (St.takeN 2 ((H.pull 2 rfl).pull 2 rfl)), hsub743⟩ (by kernel_rfl)
                  · refine (newS (some 59) (fun g => .slice (some ⟨g, 0, none⟩) 1 1) [.int .u8 ((UInt8.ofInt (x_.Name.length : Int)).toNat : Int)] 5 H (by kernel_rfl) ?_)
                    intro g749 w749 H
                    obtain ⟨xs750, hr750, hx750⟩ := H.rowCs' 1 rfl
                    refine stD2 (i := 11) (by kernel_rfl) ⟨(H.has.sub hsub743), H.blk 2 rfl⟩ (appS (r := rU8) (some 54) 30 5 1 (.int .u8 0) 30 4 A_1_715 A743_0 c_2_715 store.length c743_0 row store b1 _ H rfl ⟨Try.underlying30, by kernel_rfl⟩ rfl (by decide) (by kernel_rfl) hx750 hr750 rfl h_b1 (by decide) (by decide) ?_)
                    intro A751 c751 w751 H
                    refine stD2 (i := 17) (by kernel_rfl) ⟨(H.has.sub hsub743), H.blk 2 rfl⟩ (appS (r := rU8) (some 60) 30 5 1 (.int .u8 0) 30 4 A751 (some ⟨g749, 0, none⟩) c751 1 1 b1 [(UInt8.ofInt (x_.Name.length : Int))] b2 _ H rfl ⟨Try.underlying30, by kernel_rfl⟩ rfl (by decide) (by kernel_rfl) (Cs.of_blk (H.blk 0 rfl)) (Rows.u8.2 rfl) rfl h_b2 (by decide) (by decide) ?_)
                    intro A752 c752 w752 H
                    replace H := H.drop 0 rfl
                    replace H : St w noF m mk743 [blkI g726 [.string ⟨x_.Name.toArray⟩, .int .i64 x_.Ino] 28, rowI rU8 5 A_1_627 c_2_627 b, rowI rU8 5 A752 c752 b2] w752 := (H.drop 0 rfl)
                    refine stD2 (i := 20) (by kernel_rfl) ⟨(H.has.sub hsub743), H.blk 0 rfl⟩ (appstrS (some 63) 30 9 5 30 2 A752 c752 b2 x_.Name b3 H rfl ⟨Try.underlying30, by kernel_rfl⟩ Try.underlying9 (by kernel_rfl) h_b3 ?_)
                    intro A753 c753 w753 H
                    refine segD2 hst [21] [0, 1, 3, 4, 12, 18, 2, 5, 6, 7, 8, 9, 13, 14, 15, 19, 10, 16, 11, 17, 20, 21] [(0, .slice A0_0 l_.length c0_0), (3, .slice A_1_627 b.length c_2_627), (4, .int .i64 i), (5, .int .i64 (n_ : Int)), (6, .slice A753 b3.length c753)] (by kernel_rfl) ?_
                    refine endD2 (by kernel_rfl) ⟨(H.has.sub hsub743), H.blk 0 rfl⟩ ?_
                    refine leJ (b3, A753, c753, mk743) ⟨(Option.some.inj hp734).symm, (St.takeN 2 ((H.pull 2 rfl).pull 2 rfl)), hsub743⟩ (by kernel_rfl)
                · refine (newS (some 59) (fun g => .slice (some ⟨g, 0, none⟩) 1 1) [.int .u8 ((UInt8.ofInt (x_.Name.length : Int)).toNat : Int)] 5 H (by kernel_rfl) ?_)
                  intro g754 w754 H
                  refine stD2 (i := 10) (by kernel_rfl) ⟨H.has, H.blk 1 rfl⟩ (callR (some 53) 46 #[.int .u64 ((UInt64.ofInt (IntKind.i64.wrap (x_.Ino - x_1.Ino))).toNat : Int), .int .i64 2] Try.call46 (ref01_Store_c H.has (UInt64.ofInt (IntKind.i64.wrap (x_.Ino - x_1.Ino))) 2 h_store) (by kernel_rfl) ?_)
                  rintro _ w755 ⟨A755_0, c755_0, mk755, rfl, hS755⟩
                  have hsub755 := hS755.sub
                  replace H := H.call0 hS755
                  obtain ⟨xs756, hr756, hx756⟩ := H.rowCs' 0 rfl
                  refine stD2 (i := 11) (by kernel_rfl) ⟨(H.has.sub hsub755), H.blk 2 rfl⟩ (appS (r := rU8) (some 54) 30 5 1 (.int .u8 0) 30 4 A_1_715 A755_0 c_2_715 store.length c755_0 row store b1 _ H rfl ⟨Try.underlying30, by kernel_rfl⟩ rfl (by decide) (by kernel_rfl) hx756 hr756 rfl h_b1 (by decide) (by decide) ?_)
                  intro A757 c757 w757 H
                  replace H : St w noF m mk755 [blkI g754 [.int .u8 ((UInt8.ofInt (x_.Name.length : Int)).toNat : Int)] 5, blkI g726 [.string ⟨x_.Name.toArray⟩, .int .i64 x_.Ino] 28, rowI rU8 5 A_1_627 c_2_627 b, rowI rU8 5 A757 c757 b1] w757 := (H.drop 0 rfl)
                  refine stD2 (i := 17) (by kernel_rfl) ⟨(H.has.sub hsub755), H.blk 1 rfl⟩ (appS (r := rU8) (some 60) 30 5 1 (.int .u8 0) 30 3 A757 (some ⟨g754, 0, none⟩) c757 1 1 b1 [(UInt8.ofInt (x_.Name.length : Int))] b2 _ H rfl ⟨Try.underlying30, by kernel_rfl⟩ rfl (by decide) (by kernel_rfl) (Cs.of_blk (H.blk 0 rfl)) (Rows.u8.2 rfl) rfl h_b2 (by decide) (by decide) ?_)
                  intro A758 c758 w758 H
                  replace H := H.drop 0 rfl
                  refine stD2 (i := 20) (by kernel_rfl) ⟨(H.has.sub hsub755), H.blk 0 rfl⟩ (appstrS (some 63) 30 9 5 30 2 A758 c758 b2 x_.Name b3 H rfl ⟨Try.underlying30, by kernel_rfl⟩ Try.underlying9 (by kernel_rfl) h_b3 ?_)
                  intro A759 c759 w759 H
                  refine segD2 hst [21] [0, 1, 3, 4, 12, 18, 2, 5, 6, 7, 8, 9, 13, 14, 15, 19, 16, 10, 11, 17, 20, 21] [(0, .slice A0_0 l_.length c0_0), (3, .slice A_1_627 b.length c_2_627), (4, .int .i64 i), (5, .int .i64 (n_ : Int)), (6, .slice A759 b3.length c759)] (by kernel_rfl) ?_
                  refine endD2 (by kernel_rfl) ⟨(H.has.sub hsub755), H.blk 0 rfl⟩ ?_
                  refine leJ (b3, A759, c759, mk755) ⟨(Option.some.inj hp734).symm, (St.takeN 2 ((H.pull 2 rfl).pull 2 rfl)), hsub755⟩ (by kernel_rfl)
              rintro ⟨row1, A_1_735, c_2_735, mm735⟩ wj734 ⟨hy734, H, hsub735⟩
              try dsimp only at hy734
              try dsimp only at H
              try dsimp only at hsub735
              rw [hy734] at hb_714
              refine seg 6 [.le 3, .bl 2, .le 2, .co [1, 1, 0, 1, 0, 0, 1, 0, 1, 1, 1], .bl 1, .le 1, .bl 0, .le 0, .co [1, 1, 1]] [(0, .slice A0_0 l_.length c0_0), (3, .slice A_1_627 b.length c_2_627), (4, .int .i64 i), (5, .int .i64 (IntKind.i64.wrap ((n_ : Int) + 1))), (6, .slice A_1_735 row1.length c_2_735)] (by kernel_rfl) ?_
              rw [show IntKind.i64.wrap ((n_ : Int) + 1) = ((n_ : Int) + 1) from w64 (by omega)]
              refine leR (nk714, (n_ + 1), row1, A_1_735, c_2_735, mm735) (Nat.lt_succ_self _) ⟨hnx714 _ (Option.some.inj hb_714).symm, H, (hsub715.trans hsub735)⟩ (by kernel_rfl)
            · rw [hb725]
              have p725 := of_decide_eq_false hb725
              refine seg 2 [.le 2, .co [1, 1, 0, 1, 0, 0, 1, 0, 1, 1, 1], .bl 1, .le 1, .bl 0, .le 0, .co [1, 1, 1]] [(0, .slice A0_0 l_.length c0_0), (3, .slice A_1_627 b.length c_2_627), (4, .int .i64 i), (5, .int .i64 (n_ : Int)), (6, .slice A_1_715 row.length c_2_715)] (by kernel_rfl) ?_
              refine leR_up (k' := []) (by rfl) ?_
              refine leJ (n_, row, A_1_715, c_2_715, mm715) ⟨(hfin714 _ (Option.some.inj hb_714).symm).symm, H, hsub715⟩ (by kernel_rfl)
          · have p717 := of_decide_eq_false hb717
            have hst : statB (bodyOf Try.f19) [1, 1, 0, 1, 0, 0, 1, 0, 1, 1, 0, 0, 0, 0, 0] = true := by kernel_rfl
            refine drawS (Has mm715) H (by kernel_rfl) (by kernel_rfl) ?_
            intro w760 H
            refine segD2 hst [0, 1, 2] [0, 1, 2] [(0, .slice A0_0 l_.length c0_0), (3, .slice A_1_627 b.length c_2_627), (4, .int .i64 i), (5, .int .i64 (n_ : Int)), (6, .slice A_1_715 row.length c_2_715), (14, .int .i64 (IntKind.i64.wrap (i + (n_ : Int))))] (by kernel_rfl) ?_
            refine segD2 hst [3, 4, 5] [0, 1, 2, 3, 4, 5] [(0, .slice A0_0 l_.length c0_0), (3, .slice A_1_627 b.length c_2_627), (4, .int .i64 i), (5, .int .i64 (n_ : Int)), (6, .slice A_1_715 row.length c_2_715), (17, .bool (decide ((IntKind.i64.wrap (i + (n_ : Int))) < (l_.length : Int))))] (by kernel_rfl) ?_
            rw [show (decide ((IntKind.i64.wrap (i + (n_ : Int))) < (l_.length : Int))) = true from hb716]
            refine segD2 hst [6, 7, 8] [0, 1, 2, 3, 4, 5, 6, 7, 8] [(0, .slice A0_0 l_.length c0_0), (3, .slice A_1_627 b.length c_2_627), (4, .int .i64 i), (5, .int .i64 (n_ : Int)), (6, .slice A_1_715 row.length c_2_715), (18, .bool true), (20, .bool (decide ((n_ : Int) < 256)))] (by kernel_rfl) ?_
            rw [show (decide ((n_ : Int) < 256)) = false from hb717]
            refine segD2 hst [9, 10, 11, 12, 13, 14, 15, 16, 17, 18, 19, 20, 21, 22, 23, 24] [0, 1, 2, 3, 4, 5, 6, 7, 8, 9, 10, 11, 12, 13, 14, 15, 16, 17, 18, 19, 20, 21, 22, 23, 24] [(0, .slice A0_0 l_.length c0_0), (3, .slice A_1_627 b.length c_2_627), (4, .int .i64 i), (5, .int .i64 (n_ : Int)), (6, .slice A_1_715 row.length c_2_715), (36, .bool false)] (by kernel_rfl) ?_
            refine endD2 (by kernel_rfl) H.has ?_
            refine seg 2 [.le 2, .co [1, 1, 0, 1, 0, 0, 1, 0, 1, 1, 1], .bl 1, .le 1, .bl 0, .le 0, .co [1, 1, 1]] [(0, .slice A0_0 l_.length c0_0), (3, .slice A_1_627 b.length c_2_627), (4, .int .i64 i), (5, .int .i64 (n_ : Int)), (6, .slice A_1_715 row.length c_2_715)] (by kernel_rfl) ?_
            refine leR_up (k' := []) (by rfl) ?_
            refine leJ (n_, row, A_1_715, c_2_715, mm715) ⟨(hfin714 _ (Option.some.inj hb_714).symm).symm, H, hsub715⟩ (by kernel_rfl)
        · have p716 := of_decide_eq_false hb716
          have hst : statB (bodyOf Try.f19) [1, 1, 0, 1, 0, 0, 1, 0, 1, 1, 0, 0, 0, 0, 0] = true := by kernel_rfl
          refine drawS (Has mm715) H (by kernel_rfl) (by kernel_rfl) ?_
          intro w761 H
          refine segD2 hst [0, 1, 2] [0, 1, 2] [(0, .slice A0_0 l_.length c0_0), (3, .slice A_1_627 b.length c_2_627), (4, .int .i64 i), (5, .int .i64 (n_ : Int)), (6, .slice A_1_715 row.length c_2_715), (14, .int .i64 (IntKind.i64.wrap (i + (n_ : Int))))] (by kernel_rfl) ?_
          refine segD2 hst [3, 4, 5] [0, 1, 2, 3, 4, 5] [(0, .slice A0_0 l_.length c0_0), (3, .slice A_1_627 b.length c_2_627), (4, .int .i64 i), (5, .int .i64 (n_ : Int)), (6, .slice A_1_715 row.length c_2_715), (17, .bool (decide ((IntKind.i64.wrap (i + (n_ : Int))) < (l_.length : Int))))] (by kernel_rfl) ?_
          rw [show (decide ((IntKind.i64.wrap (i + (n_ : Int))) < (l_.length : Int))) = false from hb716]
          refine segD2 hst [6, 7, 8, 9, 10, 11, 12, 13, 14, 15, 16, 17, 18, 19, 20, 21, 22, 23, 24] [0, 1, 2, 3, 4, 5, 6, 7, 8, 9, 10, 11, 12, 13, 14, 15, 16, 17, 18, 19, 20, 21, 22, 23, 24] [(0, .slice A0_0 l_.length c0_0), (3, .slice A_1_627 b.length c_2_627), (4, .int .i64 i), (5, .int .i64 (n_ : Int)), (6, .slice A_1_715 row.length c_2_715), (36, .bool false)] (by kernel_rfl) ?_
          refine endD2 (by kernel_rfl) H.has ?_
          refine seg 2 [.le 2, .co [1, 1, 0, 1, 0, 0, 1, 0, 1, 1, 1], .bl 1, .le 1, .bl 0, .le 0, .co [1, 1, 1]] [(0, .slice A0_0 l_.length c0_0), (3, .slice A_1_627 b.length c_2_627), (4, .int .i64 i), (5, .int .i64 (n_ : Int)), (6, .slice A_1_715 row.length c_2_715)] (by kernel_rfl) ?_
          refine leR_up (k' := []) (by rfl) ?_
          refine leJ (n_, row, A_1_715, c_2_715, mm715) ⟨(hfin714 _ (Option.some.inj hb_714).symm).symm, H, hsub715⟩ (by kernel_rfl)
      rintro ⟨n_, row, A_1_680, c_2_680, mm680⟩ wj679 ⟨hy679, H, hsub680⟩
      try dsimp only at hy679
      try dsimp only at H
      try dsimp only at hsub680
      rw [hy679] at hb_626
      try dsimp only at hb_626
      refine seg 1 [.co [1, 1, 0, 1, 0, 0, 1, 0, 1, 1, 1, 0], .co [1, 1, 0, 1, 0, 0, 1, 0, 1, 1, 1, 1], .bl 1, .le 1, .bl 0, .le 0, .co [1, 1, 1]] [(0, .slice A0_0 l_.length c0_0), (3, .slice A_1_627 b.length c_2_627), (4, .int .i64 i), (5, .int .i64 (n_ : Int)), (6, .slice A_1_680 row.length c_2_680)] (by kernel_rfl) ?_
      obtain ⟨store1, h_store1, hb_626⟩ := bindE hb_626
      obtain ⟨b4, h_b4, hb_626⟩ := bindE hb_626
      obtain ⟨x_2, h_x_2, hb_626⟩ := bindE hb_626
      obtain ⟨i0765, i1765, ix765⟩ := idx_some h_x_2
      obtain ⟨store2, h_store2, hb_626⟩ := bindE hb_626
      obtain ⟨b5, h_b5, hb_626⟩ := bindE hb_626
      obtain ⟨b6, h_b6, hb_626⟩ := bindE hb_626
      have hst : statB (bodyOf Try.f19) [1, 1, 0, 1, 0, 0, 1, 0, 1, 1, 1, 0] = true := by kernel_rfl
      refine drawS (Has mm680) H (by kernel_rfl) (by kernel_rfl) ?_
      intro w772 H
      refine segD2 hst [0, 1, 2] [0, 1, 2] [(0, .slice A0_0 l_.length c0_0), (4, .int .i64 i), (5, .int .i64 (n_ : Int)), (6, .slice A_1_680 row.length c_2_680), (66, .slice A_1_627 b.length c_2_627), (68, .int .u64 (IntKind.u64.wrap (n_ : Int)))] (by kernel_rfl) ?_
      rw [q64_wrap (n_ : Int)]
      refine segD2 hst [5, 6, 13] [0, 1, 2, 5, 6, 13] [(0, .slice A0_0 l_.length c0_0), (4, .int .i64 i), (5, .int .i64 (n_ : Int)), (66, .slice A_1_627 b.length c_2_627), (68, .int .u64 ((UInt64.ofInt (n_ : Int)).toNat : Int)), (71, .slice A0_0 l_.length c0_0), (72, .int .i64 i), (79, .slice A_1_680 row.length c_2_680)] (by kernel_rfl) ?_
      obtain ⟨ad773, _, ea773, ⟨rfl, hl773_0⟩, hc773⟩ := (s0_0.mono (hsub627.trans hsub680)).at_ ix765 (by decide)
      refine takeD2 (i := 7) (d := (some 73)) (s := vS (Instr.indexAt 22 (.slice A0_0 l_.length c0_0) (.int .i64 i))) (v := .pointer (some (ad773.add (i.toNat * 2)))) hst (by kernel_rfl) (by kernel_rfl) (fun w' hw' => idx_run 22 28 2 _ ad773 _ _ _ _ _ ea773 (by kernel_rfl) i0765 i1765 rfl) ?_
      refine segD2 hst [8] [0, 1, 2, 5, 6, 13, 7, 8] [(0, .slice A0_0 l_.length c0_0), (4, .int .i64 i), (5, .int .i64 (n_ : Int)), (66, .slice A_1_627 b.length c_2_627), (68, .int .u64 ((UInt64.ofInt (n_ : Int)).toNat : Int)), (74, .pointer (some ((ad773.add (i.toNat * 2)).add 1))), (79, .slice A_1_680 row.length c_2_680)] (by kernel_rfl) ?_
      refine takeD2 (i := 9) (d := (some 75)) (s := vS (Instr.loadAt 3 (.pointer (some ((ad773.add (i.toNat * 2)).add 1))))) (v := (.int .i64 x_2.Ino)) hst (by kernel_rfl) (by kernel_rfl) (fun w' hw' => ld_run _ _ _ (by kernel_rfl) (hw'.cell (hc773 1 _ rfl))) ?_
      refine segD2 hst [10] [0, 1, 2, 5, 6, 13, 7, 8, 9, 10] [(0, .slice A0_0 l_.length c0_0), (4, .int .i64 i), (5, .int .i64 (n_ : Int)), (66, .slice A_1_627 b.length c_2_627), (68, .int .u64 ((UInt64.ofInt (n_ : Int)).toNat : Int)), (76, .int .u64 (IntKind.u64.wrap x_2.Ino)), (79, .slice A_1_680 row.length c_2_680)] (by kernel_rfl) ?_
      rw [q64_wrap x_2.Ino]
      replace H : St w noF m mm680 [rowI rU8 5 A_1_627 c_2_627 b, rowI rU8 5 A_1_680 c_2_680 row] w772 := H
      refine stD2 (i := 3) (by kernel_rfl) H.has (callR (some 69) 46 #[.int .u64 ((UInt64.ofInt (n_ : Int)).toNat : Int), .int .i64 2] Try.call46 (ref01_Store_c H.has (UInt64.ofInt (n_ : Int)) 2 h_store1) (by kernel_rfl) ?_)
      rintro _ w774 ⟨A774_0, c774_0, mk774, rfl, hS774⟩
      have hsub774 := hS774.sub
      replace H := H.call0 hS774
      obtain ⟨xs775, hr775, hx775⟩ := H.rowCs' 0 rfl
      refine stD2 (i := 4) (by kernel_rfl) (H.has.sub hsub774) (appS (r := rU8) (some 70) 30 5 1 (.int .u8 0) 30 1 A_1_627 A774_0 c_2_627 store1.length c774_0 b store1 b4 _ H rfl ⟨Try.underlying30, by kernel_rfl⟩ rfl (by decide) (by kernel_rfl) hx775 hr775 rfl h_b4 (by decide) (by decide) ?_)
      intro A776 c776 w776 H
      refine stD2 (i := 11) (by kernel_rfl) (H.has.sub hsub774) (callR (some 77) 46 #[.int .u64 ((UInt64.ofInt x_2.Ino).toNat : Int), .int .i64 4] Try.call46 (ref01_Store_c H.has (UInt64.ofInt x_2.Ino) 4 h_store2) (by kernel_rfl) ?_)
      rintro _ w777 ⟨A777_0, c777_0, mk777, rfl, hS777⟩
      have hsub777 := hS777.sub
      replace H := H.call0 hS777
      obtain ⟨xs778, hr778, hx778⟩ := H.rowCs' 0 rfl
      refine stD2 (i := 12) (by kernel_rfl) (H.has.sub (hsub774.trans hsub777)) (appS (r := rU8) (some 78) 30 5 1 (.int .u8 0) 30 2 A776 A777_0 c776 store2.length c777_0 b4 store2 b5 _ H rfl ⟨Try.underlying30, by kernel_rfl⟩ rfl (by decide) (by kernel_rfl) hx778 hr778 rfl h_b5 (by decide) (by decide) ?_)
      intro A779 c779 w779 H
      replace H : St w noF m mk777 [rowI rU8 5 A779 c779 b5, rowI rU8 5 A_1_680 c_2_680 row] w779 := ((H.drop 1 rfl).drop 0 rfl)
      obtain ⟨xs780, hr780, hx780⟩ := H.rowCs' 1 rfl
      refine stD2 (i := 14) (by kernel_rfl) (H.has.sub (hsub774.trans hsub777)) (appS (r := rU8) (some 80) 30 5 1 (.int .u8 0) 30 0 A779 A_1_680 c779 row.length c_2_680 b5 row b6 _ H rfl ⟨Try.underlying30, by kernel_rfl⟩ rfl (by decide) (by kernel_rfl) hx780 hr780 rfl h_b6 (by decide) (by decide) ?_)
      intro A781 c781 w781 H
      refine segD2 hst [15] [0, 1, 2, 5, 6, 13, 7, 8, 9, 10, 3, 4, 11, 12, 14, 15] [(0, .slice A0_0 l_.length c0_0), (3, .slice A781 b6.length c781), (4, .int .i64 i), (5, .int .i64 (n_ : Int))] (by kernel_rfl) ?_
      refine endD2 (by kernel_rfl) (H.has.sub (hsub774.trans hsub777)) ?_
      refine seg 7 [.le 1, .bl 0, .le 0, .co [1, 1, 1]] [(0, .slice A0_0 l_.length c0_0), (3, .slice A781 b6.length c781), (4, .int .i64 (IntKind.i64.wrap (i + (n_ : Int))))] (by kernel_rfl) ?_
      refine leR (nk626, b6, (IntKind.i64.wrap (i + (n_ : Int))), A781, c781, mk777) (Nat.lt_succ_self _) ⟨hnx626 _ (Option.some.inj hb_626).symm, (St.takeN 1 H), (((hsub627.trans hsub680).trans hsub774).trans hsub777)⟩ (by kernel_rfl)
    · rw [hb628]
      have p628 := of_decide_eq_false hb628
      refine seg 2 [.le 0, .co [1, 1, 1]] [(3, .slice A_1_627 b.length c_2_627)] (by kernel_rfl) ?_
      refine leR_up (k' := []) (by rfl) ?_
      refine leJ (b, A_1_627, c_2_627, mm627) ⟨(hfin626 _ (Option.some.inj hb_626).symm).symm, H, hsub627⟩ (by kernel_rfl)
  rintro ⟨b, A_1_500, c_2_500, mm500⟩ wj499 ⟨hy499, H, hsub500⟩
  try dsimp only at hy499
  try dsimp only at H
  try dsimp only at hsub500
  rw [hy499] at hf
  refine seg 5 [.co [1, 1, 1, 1]] [(2, .slice A_1_500 b.length c_2_500)] (by kernel_rfl) ?_
  refine retR [2] [.slice A_1_500 b.length c_2_500] (by kernel_rfl) (by kernel_rfl) (by kernel_rfl) ?_
  have hret := (Option.some.inj hf)
  subst hret
  exact ⟨_, rfl, A_1_500, c_2_500, mm500, rfl, H⟩
theorem field_NewReader_c {m : Mem} {w : World} (hm : Has m w) (b : (List UInt8)) (A0_0 : Option Addr) (c0_0 : Nat) (s0_0 : SlI rU8 m A0_0 c0_0 b) {r : TFieldReader} (hf : field_NewReader b = some r) :
    Calls Try.prog 47 #[.slice A0_0 b.length c0_0] w fun e w' => ∃ v, e = .returned v ∧ ∃ gz_0 : Nat, ∃ Az_0_0 : Option Addr, ∃ cz_0_0 : Nat, ∃ m' : Mem, v = .pointer (some (⟨gz_0, 0, none⟩)) ∧ St w noF m m' [blkI gz_0 [.slice Az_0_0 r.f_b.length cz_0_0, .int .i64 r.f_at, .int .i64 r.f_e] 117] w' ∧ SlI rU8 m' Az_0_0 cz_0_0 r.f_b := by
  unfold field_NewReader at hf
  have H := St.start0 hm
  refine callsR Try.func47 (by kernel_rfl) (by kernel_rfl) ?_
  refine seg 7 [.op [1, 0] 1, .co [1, 1]] [(3, .slice A0_0 b.length c0_0)] (by kernel_rfl) ?_
  obtain ⟨copied, h_copied, hf⟩ := bindE hf
  refine st (callR (some 4) 80 #[.slice A0_0 b.length c0_0] Try.call80 (field_copied_c H.has b A0_0 c0_0 s0_0 h_copied) (by kernel_rfl) ?_)
  rintro _ w1 ⟨A1_0, c1_0, mk1, rfl, hS1⟩
  have hsub1 := hS1.sub
  replace H := H.call0 hS1
  refine seg 1 [.op [1, 0] 3, .co [1, 1]] [(5, .agg #[.slice A1_0 copied.length c1_0, .int .i64 0, .int .i64 0])] (by kernel_rfl) ?_
  refine st (newS (some 6) (fun g => .pointer (some ⟨g, 0, none⟩)) [.slice A1_0 copied.length c1_0, .int .i64 0, .int .i64 0] 117 H (by kernel_rfl) ?_)
  intro g2 w2 H
  refine seg 2 [.co [1, 1]] [(2, .pointer (some (⟨g2, 0, none⟩)))] (by kernel_rfl) ?_
  obtain ⟨mf3, hsub3, hsf3, H⟩ := H.fixR 1 rfl
  refine retR [2] [.pointer (some (⟨g2, 0, none⟩))] (by kernel_rfl) (by kernel_rfl) (by kernel_rfl) ?_
  obtain rfl : ({ f_b := copied, f_at := 0, f_e := 0 } : TFieldReader) = r := (Option.some.inj hf)
  exact ⟨_, rfl, g2, A1_0, c1_0, mf3, rfl, H, hsf3⟩
end Go.Proofs.Ytebbaokcgnjfiaa.F
