/- The code computes them: printed by lift.py, part 1. -/
import Derived.Test.YtebbaokcgnjfiaaProg
import Derived.Test.YtebbaokcgnjfiaaLAP
set_option linter.unusedVariables false
set_option linter.unusedSimpArgs false
namespace Go.Proofs.Ytebbaokcgnjfiaa.F
open Go Go.RowKit Go.Proofs.Ytebbaokcgnjfiaa Go.Proofs.Ytebbaokcgnjfiaa.K
set_option maxRecDepth 100000
theorem inode_between_c {m : Mem} {w : World} (hm : Has m w) (n_ : Int) (low : Int) (high : Int) :
    Calls Try.prog 54 #[.int .i64 n_, .int .i64 low, .int .i64 high] w fun e w' => ∃ v, e = .returned v ∧ v = .bool (inode_between n_ low high) ∧ Ex w w' := by
  generalize hf : inode_between n_ low high = r
  unfold inode_between at hf
  have H := St.start0 hm
  refine callsR Try.func54 (by kernel_rfl) (by kernel_rfl) ?_
  refine seg 10 [.op [1, 0] 4, .co [1, 1]] [(0, .int .i64 n_), (2, .int .i64 high), (10, .bool (decide (n_ ≥ low)))] (by kernel_rfl) ?_
  rcases condT hf with ⟨hb2, hf⟩ | ⟨hb2, hf⟩
  · rw [hb2]
    have p2 := of_decide_eq_true hb2
    refine seg 6 [.co [1, 1]] [(6, .bool (decide (n_ ≤ high)))] (by kernel_rfl) ?_
    refine retR [6] [.bool (decide (n_ ≤ high))] (by kernel_rfl) (by kernel_rfl) (by kernel_rfl) ?_
    obtain rfl : (decide (n_ ≤ high)) = r := hf
    exact ⟨_, rfl, rfl, H.scalar⟩
  · rw [hb2]
    have p2 := of_decide_eq_false hb2
    refine seg 6 [.co [1, 1]] [(6, .bool false)] (by kernel_rfl) ?_
    refine retR [6] [.bool false] (by kernel_rfl) (by kernel_rfl) (by kernel_rfl) ?_
    have hret := hf
    subst hret
    exact ⟨_, rfl, rfl, H.scalar⟩
theorem inode_file_1_c {m : Mem} {w : World} (hm : Has m w) (w_ : Int) :
    Calls Try.prog 87 #[.int .i64 w_] w fun e w' => ∃ v, e = .returned v ∧ v = .bool (inode_file_1 w_) ∧ Ex w w' := by
  generalize hf : inode_file_1 w_ = r
  unfold inode_file_1 at hf
  have H := St.start0 hm
  refine callsR Try.func87 (by kernel_rfl) (by kernel_rfl) ?_
  refine seg 7 [.op [1, 0] 1, .co [1, 1]] [(3, .int .i64 w_)] (by kernel_rfl) ?_
  refine st (callR (some 4) 54 #[.int .i64 w_, .int .i64 0, .int .i64 4294967295] Try.call54 (inode_between_c H.has w_ 0 4294967295) (by kernel_rfl) ?_)
  rintro _ w1 ⟨rfl, hx1⟩
  replace H := H.ex hx1
  refine seg 3 [.co [1, 1]] [(2, .bool (!(inode_between w_ 0 4294967295)))] (by kernel_rfl) ?_
  refine retR [2] [.bool (!(inode_between w_ 0 4294967295))] (by kernel_rfl) (by kernel_rfl) (by kernel_rfl) ?_
  obtain rfl : (!(inode_between w_ 0 4294967295)) = r := hf
  exact ⟨_, rfl, rfl, H.scalar⟩
theorem slices_IndexFunc1_c {m : Mem} {w : World} (hm : Has m w) (s_ : (List Int)) (A0_0 : Option Addr) (c0_0 : Nat) (s0_0 : SlI rI64 m A0_0 c0_0 s_) {r : Int} (hf : slices_IndexFunc1 s_ = some r) :
    Calls Try.prog 99 #[.slice A0_0 s_.length c0_0, .func (.func 87) #[] #[]] w fun e w' => ∃ v, e = .returned v ∧ v = .int .i64 r ∧ Ex w w' := by
  unfold slices_IndexFunc1 at hf
  have H := St.start0 hm
  refine callsR Try.func99 (by kernel_rfl) (by kernel_rfl) ?_
  refine seg 11 [.co [1, 0, 1], .co [1, 1]] [(0, .slice A0_0 s_.length c0_0), (1, .func (.func 87) #[] #[]), (7, .int .i64 (s_.length : Int)), (8, .int .i64 0)] (by kernel_rfl) ?_
  obtain ⟨y43, hp43, hfl43, hfr43⟩ := bndE hf
  refine joinR 0 (fun (x : Unit) => []) (fun (x : Unit) (wj43 : World) => y43 = .inl () ∧ St w noF m m [] wj43) (by kernel_rfl) ?_ ?_
  · refine seg 1 [.co [1, 0, 1, 0], .bl 0, .le 0, .co [1, 1]] [(0, .slice A0_0 s_.length c0_0), (1, .func (.func 87) #[] #[]), (7, .int .i64 (s_.length : Int)), (8, .int .i64 0)] (by kernel_rfl) ?_
    obtain ⟨nn57, hR57⟩ := loopO_iff.1 hp43
    refine loopR 1 (fun (x : Nat × Nat) => [(0, .slice A0_0 s_.length c0_0), (1, .func (.func 87) #[] #[]), (7, .int .i64 (s_.length : Int)), (8, .int .i64 (x.2 : Int))]) (fun (x : Nat × Nat) (wl57 : World) => iter (fun s => slices_IndexFunc1_l1 s_ s) x.1 x.2 = some y43 ∧ St w noF m m [] wl57) (fun (x : Nat × Nat) => x.1) (nn57, 0) (by kernel_rfl) (by kernel_rfl) (by kernel_rfl) ?_ ?_
    · exact ⟨hR57, H⟩
    rintro ⟨n57, t⟩ wl57 ⟨hR57, H⟩
    try dsimp only at hR57
    try dsimp only at H
    obtain ⟨nk57, q57, rfl, hb_57, hnx57, hfin57⟩ := iterE hR57
    replace hb_57 : slices_IndexFunc1_l1 s_ t = some q57 := hb_57
    unfold slices_IndexFunc1_l1 at hb_57
    refine seg 5 [.co [1, 0, 1, 0, 0, 1, 0], .co [1, 0, 1, 0, 0, 1, 1], .le 1, .bl 0, .le 0, .co [1, 1]] [(0, .slice A0_0 s_.length c0_0), (1, .func (.func 87) #[] #[]), (7, .int .i64 (s_.length : Int)), (8, .int .i64 (t : Int)), (9, .bool (decide ((t : Int) < (s_.length : Int))))] (by kernel_rfl) ?_
    rcases condT hb_57 with ⟨hb59, hb_57⟩ | ⟨hb59, hb_57⟩
    · rw [hb59]
      have p59 := of_decide_eq_true hb59
      refine seg 14 [.op [1, 0, 1, 0, 0, 1, 1, 0, 0, 1, 0] 3, .co [1, 0, 1, 0, 0, 1, 1, 0, 0, 1, 1], .bl 1, .co [1, 0, 1, 0, 0, 1, 1, 1], .le 1, .bl 0, .le 0, .co [1, 1]] [(0, .slice A0_0 s_.length c0_0), (1, .func (.func 87) #[] #[]), (5, .int .i64 (t : Int)), (7, .int .i64 (s_.length : Int)), (8, .int .i64 (t : Int)), (11, .func (.func 87) #[] #[]), (12, .slice A0_0 s_.length c0_0), (13, .int .i64 (t : Int))] (by kernel_rfl) ?_
      obtain ⟨x_, h_x_, hb_57⟩ := bindE hb_57
      obtain ⟨ad61, _, ea61, rfl, hc61⟩ := s0_0.at_ h_x_ (by decide)
      refine st (idxS (some 14) 44 3 1 A0_0 ad61 s_.length c0_0 .i64 (t : Int) ea61 (by kernel_rfl) (by kernel_rfl) (by omega) (by have := (List.getElem?_eq_some_iff.1 h_x_).1; omega) ?_)
      refine st (ldR (some 15) 3 (ad61.add (t * 1)) (.int .i64 x_) (by kernel_rfl) (by kernel_rfl) (H.cellI (mc0 (hc61 0 _ rfl))) ?_)
      refine st (callR (some 16) 87 #[.int .i64 x_] Try.call87 (inode_file_1_c H.has x_) (by kernel_rfl) ?_)
      rintro _ w62 ⟨rfl, hx62⟩
      replace H := H.ex hx62
      refine seg 1 [.co [1, 0, 1, 0, 0, 1, 1, 0, 0, 1, 1], .bl 1, .co [1, 0, 1, 0, 0, 1, 1, 1], .le 1, .bl 0, .le 0, .co [1, 1]] [(0, .slice A0_0 s_.length c0_0), (1, .func (.func 87) #[] #[]), (5, .int .i64 (t : Int)), (7, .int .i64 (s_.length : Int)), (8, .int .i64 (t : Int)), (16, .bool (inode_file_1 x_))] (by kernel_rfl) ?_
      rcases condT hb_57 with ⟨hb63, hb_57⟩ | ⟨hb63, hb_57⟩
      · rw [hb63]
        refine seg 6 [.co [1, 0, 1, 0, 0, 1, 1, 0, 0, 1, 1, 0, 1], .bl 1, .co [1, 0, 1, 0, 0, 1, 1, 1], .le 1, .bl 0, .le 0, .co [1, 1]] [(4, .int .i64 (t : Int))] (by kernel_rfl) ?_
        refine retR [4] [.int .i64 (t : Int)] (by kernel_rfl) (by kernel_rfl) (by kernel_rfl) ?_
        obtain rfl : (t : Int) = r := (hfr43 _ (hfin57 _ (Option.some.inj hb_57).symm).symm)
        exact ⟨_, rfl, rfl, H.scalar⟩
      · rw [hb63]
        refine seg 7 [.le 1, .bl 0, .le 0, .co [1, 1]] [(0, .slice A0_0 s_.length c0_0), (1, .func (.func 87) #[] #[]), (7, .int .i64 (s_.length : Int)), (8, .int .i64 (IntKind.i64.wrap ((t : Int) + 1)))] (by kernel_rfl) ?_
        have := s0_0.bound
        rw [show IntKind.i64.wrap ((t : Int) + 1) = ((t : Int) + 1) from w64 (by omega)]
        refine leR (nk57, (t + 1)) (Nat.lt_succ_self _) ⟨hnx57 _ (Option.some.inj hb_57).symm, H⟩ (by kernel_rfl)
    · rw [hb59]
      have p59 := of_decide_eq_false hb59
      refine seg 2 [.le 0, .co [1, 1]] [] (by kernel_rfl) ?_
      refine leR_up (k' := []) (by rfl) ?_
      refine leJ () ⟨(hfin57 _ (Option.some.inj hb_57).symm).symm, H⟩ (by kernel_rfl)
  rintro _ wj43 ⟨hy43, H⟩
  have hf := hfl43 _ hy43
  try dsimp only at hf
  refine seg 4 [.co [1, 1, 1]] [(4, .int .i64 (-1))] (by kernel_rfl) ?_
  refine retR [4] [.int .i64 (-1)] (by kernel_rfl) (by kernel_rfl) (by kernel_rfl) ?_
  obtain rfl : (-1) = r := (Option.some.inj hf)
  exact ⟨_, rfl, rfl, H.scalar⟩
theorem slices_ContainsFunc_c {m : Mem} {w : World} (hm : Has m w) (s_ : (List Int)) (A0_0 : Option Addr) (c0_0 : Nat) (s0_0 : SlI rI64 m A0_0 c0_0 s_) {r : Bool} (hf : slices_ContainsFunc s_ = some r) :
    Calls Try.prog 86 #[.slice A0_0 s_.length c0_0, .func (.func 87) #[] #[]] w fun e w' => ∃ v, e = .returned v ∧ v = .bool r ∧ Ex w w' := by
  unfold slices_ContainsFunc at hf
  have H := St.start0 hm
  refine callsR Try.func86 (by kernel_rfl) (by kernel_rfl) ?_
  refine seg 8 [.op [1, 0] 2, .co [1, 1]] [(5, .slice A0_0 s_.length c0_0), (6, .func (.func 87) #[] #[])] (by kernel_rfl) ?_
  obtain ⟨indexF, h_indexF, hf⟩ := bindE hf
  refine st (callR (some 7) 99 #[.slice A0_0 s_.length c0_0, .func (.func 87) #[] #[]] Try.call99 (slices_IndexFunc1_c H.has s_ A0_0 c0_0 s0_0 h_indexF) (by kernel_rfl) ?_)
  rintro _ w1 ⟨rfl, hx1⟩
  replace H := H.ex hx1
  refine seg 3 [.co [1, 1]] [(4, .bool (decide (indexF ≥ 0)))] (by kernel_rfl) ?_
  refine retR [4] [.bool (decide (indexF ≥ 0))] (by kernel_rfl) (by kernel_rfl) (by kernel_rfl) ?_
  obtain rfl : (decide (indexF ≥ 0)) = r := (Option.some.inj hf)
  exact ⟨_, rfl, rfl, H.scalar⟩
theorem inode_file_c {m : Mem} {w : World} (hm : Has m w) (n_ : TApiInode) (A0_9 : Option Addr) (c0_9 : Nat) (s0_9 : SlI rI64 m A0_9 c0_9 n_.Words) (l0_16 : n_.Target.length ≤ 9223372036854775807) {r : Bool} (hf : inode_file n_ = some r) :
    Calls Try.prog 61 #[.agg #[.int .i64 n_.Kind, .int .i64 n_.Mode, .int .i64 n_.Uid, .int .i64 n_.Gid, .int .i64 n_.Time, .int .i64 n_.Links, .int .i64 n_.Attrs, .int .i64 n_.Size, .int .i64 n_.Start, .slice A0_9 n_.Words.length c0_9, .int .i64 n_.Frag, .int .i64 n_.Off, .int .i64 n_.Tail, .int .i64 n_.Dir, .int .i64 n_.Bytes, .int .i64 n_.Parent, .string ⟨n_.Target.toArray⟩, .int .i64 n_.Dev]] w fun e w' => ∃ v, e = .returned v ∧ v = .bool r ∧ Ex w w' := by
  unfold inode_file at hf
  have H := St.start0 hm
  refine callsR Try.func61 (by kernel_rfl) (by kernel_rfl) ?_
  refine seg 2 [.op [0] 0, .co [1]] [(0, .agg #[.int .i64 n_.Kind, .int .i64 n_.Mode, .int .i64 n_.Uid, .int .i64 n_.Gid, .int .i64 n_.Time, .int .i64 n_.Links, .int .i64 n_.Attrs, .int .i64 n_.Size, .int .i64 n_.Start, .slice A0_9 n_.Words.length c0_9, .int .i64 n_.Frag, .int .i64 n_.Off, .int .i64 n_.Tail, .int .i64 n_.Dir, .int .i64 n_.Bytes, .int .i64 n_.Parent, .string ⟨n_.Target.toArray⟩, .int .i64 n_.Dev])] (by kernel_rfl) ?_
  refine st (newS (some 1) (fun g => .pointer (some ⟨g, 0, none⟩)) [.int .i64 n_.Kind, .int .i64 n_.Mode, .int .i64 n_.Uid, .int .i64 n_.Gid, .int .i64 n_.Time, .int .i64 n_.Links, .int .i64 n_.Attrs, .int .i64 n_.Size, .int .i64 n_.Start, .slice A0_9 n_.Words.length c0_9, .int .i64 n_.Frag, .int .i64 n_.Off, .int .i64 n_.Tail, .int .i64 n_.Dir, .int .i64 n_.Bytes, .int .i64 n_.Parent, .string ⟨n_.Target.toArray⟩, .int .i64 n_.Dev] 46 H (by kernel_rfl) ?_)
  intro g1 w1 H
  refine seg 3 [.co [1, 0], .co [1, 1]] [(1, .pointer (some (⟨g1, 0, none⟩)))] (by kernel_rfl) ?_
  obtain ⟨y38, hp38, hf⟩ := bindE hf
  refine joinR 0 (fun (x : Bool) => [(1, .pointer (some (⟨g1, 0, none⟩))), (3, .bool x)]) (fun (x : Bool) (wj38 : World) => y38 = x ∧ St w noF m m [blkI g1 [.int .i64 n_.Kind, .int .i64 n_.Mode, .int .i64 n_.Uid, .int .i64 n_.Gid, .int .i64 n_.Time, .int .i64 n_.Links, .int .i64 n_.Attrs, .int .i64 n_.Size, .int .i64 n_.Start, .slice A0_9 n_.Words.length c0_9, .int .i64 n_.Frag, .int .i64 n_.Off, .int .i64 n_.Tail, .int .i64 n_.Dir, .int .i64 n_.Bytes, .int .i64 n_.Parent, .string ⟨n_.Target.toArray⟩, .int .i64 n_.Dev] 46] wj38) (by kernel_rfl) ?_ ?_
  · refine seg 2 [.op [1, 0] 1, .le 0, .co [1, 1]] [(1, .pointer (some (⟨g1, 0, none⟩))), (5, .pointer (some (⟨g1, 9, none⟩)))] (by kernel_rfl) ?_
    refine st (ldR (some 6) 44 (⟨g1, 9, none⟩) (.slice A0_9 n_.Words.length c0_9) (by kernel_rfl) (by kernel_rfl) (H.cellB 0 rfl rfl) ?_)
    refine seg 3 [.op [1, 0] 5, .le 0, .co [1, 1]] [(1, .pointer (some (⟨g1, 0, none⟩))), (9, .bool (decide ((n_.Words.length : Int) ≤ 65536)))] (by kernel_rfl) ?_
    rcases condT hp38 with ⟨hb40, hp38⟩ | ⟨hb40, hp38⟩
    · rw [hb40]
      have p40 := of_decide_eq_true hb40
      refine seg 1 [.op [1, 0] 6, .le 0, .co [1, 1]] [(1, .pointer (some (⟨g1, 0, none⟩))), (9, .bool true), (10, .pointer (some (⟨g1, 9, none⟩)))] (by kernel_rfl) ?_
      refine st (ldR (some 11) 44 (⟨g1, 9, none⟩) (.slice A0_9 n_.Words.length c0_9) (by kernel_rfl) (by kernel_rfl) (H.cellB 0 rfl rfl) ?_)
      obtain ⟨contai, h_contai, hp38⟩ := bindE hp38
      refine st (callR (some 12) 86 #[.slice A0_9 n_.Words.length c0_9, .func (.func 87) #[] #[]] Try.call86 (slices_ContainsFunc_c H.has n_.Words A0_9 c0_9 s0_9 h_contai) (by kernel_rfl) ?_)
      rintro _ w41 ⟨rfl, hx41⟩
      replace H := H.ex hx41
      refine seg 4 [.le 0, .co [1, 1]] [(1, .pointer (some (⟨g1, 0, none⟩))), (3, .bool (!contai))] (by kernel_rfl) ?_
      refine leJ ((!contai)) ⟨(Option.some.inj hp38).symm, H⟩ (by kernel_rfl)
    · rw [hb40]
      have p40 := of_decide_eq_false hb40
      refine seg 7 [.le 0, .co [1, 1]] [(1, .pointer (some (⟨g1, 0, none⟩))), (3, .bool false)] (by kernel_rfl) ?_
      refine leJ (false) ⟨(Option.some.inj hp38).symm, H⟩ (by kernel_rfl)
  rintro words wj38 ⟨hy38, H⟩
  rw [hy38] at hf
  refine seg 1 [.co [1, 1, 0], .co [1, 1, 1]] [(1, .pointer (some (⟨g1, 0, none⟩))), (3, .bool words)] (by kernel_rfl) ?_
  obtain ⟨y50, hp50, hf⟩ := ltE hf
  refine joinR 0 (fun (x : Bool) => [(1, .pointer (some (⟨g1, 0, none⟩))), (3, .bool words), (4, .bool x)]) (fun (x : Bool) (wj50 : World) => y50 = x ∧ St w noF m m [blkI g1 [.int .i64 n_.Kind, .int .i64 n_.Mode, .int .i64 n_.Uid, .int .i64 n_.Gid, .int .i64 n_.Time, .int .i64 n_.Links, .int .i64 n_.Attrs, .int .i64 n_.Size, .int .i64 n_.Start, .slice A0_9 n_.Words.length c0_9, .int .i64 n_.Frag, .int .i64 n_.Off, .int .i64 n_.Tail, .int .i64 n_.Dir, .int .i64 n_.Bytes, .int .i64 n_.Parent, .string ⟨n_.Target.toArray⟩, .int .i64 n_.Dev] 46] wj50) (by kernel_rfl) ?_ ?_
  · refine seg 2 [.op [1, 1, 0] 1, .le 0, .co [1, 1, 1]] [(1, .pointer (some (⟨g1, 0, none⟩))), (3, .bool words), (15, .pointer (some (⟨g1, 10, none⟩)))] (by kernel_rfl) ?_
    refine st (ldR (some 16) 3 (⟨g1, 10, none⟩) (.int .i64 n_.Frag) (by kernel_rfl) (by kernel_rfl) (H.cellB 0 rfl rfl) ?_)
    refine st (callR (some 17) 54 #[.int .i64 n_.Frag, .int .i64 (-1), .int .i64 65535] Try.call54 (inode_between_c H.has n_.Frag (-1) 65535) (by kernel_rfl) ?_)
    rintro _ w52 ⟨rfl, hx52⟩
    replace H := H.ex hx52
    refine seg 1 [.op [1, 1, 0] 4, .le 0, .co [1, 1, 1]] [(1, .pointer (some (⟨g1, 0, none⟩))), (3, .bool words), (18, .bool (inode_between n_.Frag (-1) 65535))] (by kernel_rfl) ?_
    rcases condT hp50 with ⟨hb53, hp50⟩ | ⟨hb53, hp50⟩
    · rw [hb53]
      refine seg 1 [.op [1, 1, 0] 5, .le 0, .co [1, 1, 1]] [(1, .pointer (some (⟨g1, 0, none⟩))), (3, .bool words), (18, .bool true), (19, .pointer (some (⟨g1, 11, none⟩)))] (by kernel_rfl) ?_
      replace H : St w noF m m [blkI g1 [.int .i64 n_.Kind, .int .i64 n_.Mode, .int .i64 n_.Uid, .int .i64 n_.Gid, .int .i64 n_.Time, .int .i64 n_.Links, .int .i64 n_.Attrs, .int .i64 n_.Size, .int .i64 n_.Start, .slice A0_9 n_.Words.length c0_9, .int .i64 n_.Frag, .int .i64 n_.Off, .int .i64 n_.Tail, .int .i64 n_.Dir, .int .i64 n_.Bytes, .int .i64 n_.Parent, .string ⟨n_.Target.toArray⟩, .int .i64 n_.Dev] 46] w52 := H
      refine st (ldR (some 20) 3 (⟨g1, 11, none⟩) (.int .i64 n_.Off) (by kernel_rfl) (by kernel_rfl) (H.cellB 0 rfl rfl) ?_)
      refine st (callR (some 21) 54 #[.int .i64 n_.Off, .int .i64 0, .int .i64 1048575] Try.call54 (inode_between_c H.has n_.Off 0 1048575) (by kernel_rfl) ?_)
      rintro _ w54 ⟨rfl, hx54⟩
      replace H := H.ex hx54
      refine seg 2 [.op [1, 1, 0] 9, .le 0, .co [1, 1, 1]] [(1, .pointer (some (⟨g1, 0, none⟩))), (3, .bool words), (23, .bool (inode_between n_.Off 0 1048575))] (by kernel_rfl) ?_
      rcases condT hp50 with ⟨hb55, hp50⟩ | ⟨hb55, hp50⟩
      · rw [hb55]
        refine seg 1 [.op [1, 1, 0] 10, .le 0, .co [1, 1, 1]] [(1, .pointer (some (⟨g1, 0, none⟩))), (3, .bool words), (23, .bool true), (24, .pointer (some (⟨g1, 12, none⟩)))] (by kernel_rfl) ?_
        refine st (ldR (some 25) 3 (⟨g1, 12, none⟩) (.int .i64 n_.Tail) (by kernel_rfl) (by kernel_rfl) (H.cellB 0 rfl rfl) ?_)
        refine st (callR (some 26) 54 #[.int .i64 n_.Tail, .int .i64 0, .int .i64 1048575] Try.call54 (inode_between_c H.has n_.Tail 0 1048575) (by kernel_rfl) ?_)
        rintro _ w56 ⟨rfl, hx56⟩
        replace H := H.ex hx56
        refine seg 2 [.op [1, 1, 0] 14, .le 0, .co [1, 1, 1]] [(1, .pointer (some (⟨g1, 0, none⟩))), (3, .bool words), (28, .bool (inode_between n_.Tail 0 1048575))] (by kernel_rfl) ?_
        rcases condT hp50 with ⟨hb57, hp50⟩ | ⟨hb57, hp50⟩
        · rw [hb57]
          refine seg 1 [.op [1, 1, 0] 15, .le 0, .co [1, 1, 1]] [(1, .pointer (some (⟨g1, 0, none⟩))), (3, .bool words), (28, .bool true), (29, .pointer (some (⟨g1, 10, none⟩)))] (by kernel_rfl) ?_
          refine st (ldR (some 30) 3 (⟨g1, 10, none⟩) (.int .i64 n_.Frag) (by kernel_rfl) (by kernel_rfl) (H.cellB 0 rfl rfl) ?_)
          refine seg 2 [.op [1, 1, 0] 18, .le 0, .co [1, 1, 1]] [(1, .pointer (some (⟨g1, 0, none⟩))), (3, .bool words), (28, .bool true), (32, .bool (decide (n_.Frag ≥ 0)))] (by kernel_rfl) ?_
          rcases condT hp50 with ⟨hb58, hp50⟩ | ⟨hb58, hp50⟩
          · rw [hb58]
            have p58 := of_decide_eq_true hb58
            refine seg 7 [.op [1, 1, 0] 25, .le 0, .co [1, 1, 1]] [(1, .pointer (some (⟨g1, 0, none⟩))), (3, .bool words), (38, .bool true), (39, .pointer (some (⟨g1, 10, none⟩)))] (by kernel_rfl) ?_
            refine st (ldR (some 40) 3 (⟨g1, 10, none⟩) (.int .i64 n_.Frag) (by kernel_rfl) (by kernel_rfl) (H.cellB 0 rfl rfl) ?_)
            refine seg 2 [.op [1, 1, 0] 28, .le 0, .co [1, 1, 1]] [(1, .pointer (some (⟨g1, 0, none⟩))), (3, .bool words), (38, .bool true), (41, .bool (decide (n_.Frag ≥ 0))), (42, .pointer (some (⟨g1, 12, none⟩)))] (by kernel_rfl) ?_
            refine st (ldR (some 43) 3 (⟨g1, 12, none⟩) (.int .i64 n_.Tail) (by kernel_rfl) (by kernel_rfl) (H.cellB 0 rfl rfl) ?_)
            refine seg 5 [.le 0, .co [1, 1, 1]] [(1, .pointer (some (⟨g1, 0, none⟩))), (3, .bool words), (4, .bool ((decide (n_.Frag ≥ 0)) == (decide (n_.Tail > 0))))] (by kernel_rfl) ?_
            refine leJ (((decide (n_.Frag ≥ 0)) == (decide (n_.Tail > 0)))) ⟨hp50.symm, H⟩ (by kernel_rfl)
          · rw [hb58]
            have p58 := of_decide_eq_false hb58
            refine seg 1 [.op [1, 1, 0] 19, .le 0, .co [1, 1, 1]] [(1, .pointer (some (⟨g1, 0, none⟩))), (3, .bool words), (28, .bool true), (32, .bool false), (33, .pointer (some (⟨g1, 11, none⟩)))] (by kernel_rfl) ?_
            refine st (ldR (some 34) 3 (⟨g1, 11, none⟩) (.int .i64 n_.Off) (by kernel_rfl) (by kernel_rfl) (H.cellB 0 rfl rfl) ?_)
            refine seg 4 [.op [1, 1, 0] 24, .le 0, .co [1, 1, 1]] [(1, .pointer (some (⟨g1, 0, none⟩))), (3, .bool words), (38, .bool (n_.Off == 0))] (by kernel_rfl) ?_
            rcases condT hp50 with ⟨hb59, hp50⟩ | ⟨hb59, hp50⟩
            · rw [hb59]
              refine seg 1 [.op [1, 1, 0] 25, .le 0, .co [1, 1, 1]] [(1, .pointer (some (⟨g1, 0, none⟩))), (3, .bool words), (38, .bool true), (39, .pointer (some (⟨g1, 10, none⟩)))] (by kernel_rfl) ?_
              refine st (ldR (some 40) 3 (⟨g1, 10, none⟩) (.int .i64 n_.Frag) (by kernel_rfl) (by kernel_rfl) (H.cellB 0 rfl rfl) ?_)
              refine seg 2 [.op [1, 1, 0] 28, .le 0, .co [1, 1, 1]] [(1, .pointer (some (⟨g1, 0, none⟩))), (3, .bool words), (38, .bool true), (41, .bool (decide (n_.Frag ≥ 0))), (42, .pointer (some (⟨g1, 12, none⟩)))] (by kernel_rfl) ?_
              refine st (ldR (some 43) 3 (⟨g1, 12, none⟩) (.int .i64 n_.Tail) (by kernel_rfl) (by kernel_rfl) (H.cellB 0 rfl rfl) ?_)
              refine seg 5 [.le 0, .co [1, 1, 1]] [(1, .pointer (some (⟨g1, 0, none⟩))), (3, .bool words), (4, .bool ((decide (n_.Frag ≥ 0)) == (decide (n_.Tail > 0))))] (by kernel_rfl) ?_
              refine leJ (((decide (n_.Frag ≥ 0)) == (decide (n_.Tail > 0)))) ⟨hp50.symm, H⟩ (by kernel_rfl)
            · rw [hb59]
              refine seg 10 [.le 0, .co [1, 1, 1]] [(1, .pointer (some (⟨g1, 0, none⟩))), (3, .bool words), (4, .bool false)] (by kernel_rfl) ?_
              refine leJ (false) ⟨hp50.symm, H⟩ (by kernel_rfl)
        · rw [hb57]
          refine seg 20 [.le 0, .co [1, 1, 1]] [(1, .pointer (some (⟨g1, 0, none⟩))), (3, .bool words), (4, .bool false)] (by kernel_rfl) ?_
          refine leJ (false) ⟨hp50.symm, H⟩ (by kernel_rfl)
      · rw [hb55]
        refine seg 25 [.le 0, .co [1, 1, 1]] [(1, .pointer (some (⟨g1, 0, none⟩))), (3, .bool words), (4, .bool false)] (by kernel_rfl) ?_
        refine leJ (false) ⟨hp50.symm, H⟩ (by kernel_rfl)
    · rw [hb53]
      refine seg 30 [.le 0, .co [1, 1, 1]] [(1, .pointer (some (⟨g1, 0, none⟩))), (3, .bool words), (4, .bool false)] (by kernel_rfl) ?_
      refine leJ (false) ⟨hp50.symm, H⟩ (by kernel_rfl)
  rintro frag wj50 ⟨hy50, H⟩
  rw [hy50] at hf
  refine seg 3 [.op [1, 1, 1, 0] 1, .co [1, 1, 1, 1]] [(1, .pointer (some (⟨g1, 0, none⟩))), (3, .bool words), (4, .bool frag), (47, .pointer (some (⟨g1, 7, none⟩)))] (by kernel_rfl) ?_
  refine st (ldR (some 48) 3 (⟨g1, 7, none⟩) (.int .i64 n_.Size) (by kernel_rfl) (by kernel_rfl) (H.cellB 0 rfl rfl) ?_)
  refine st (callR (some 49) 54 #[.int .i64 n_.Size, .int .i64 0, .int .i64 1099511627775] Try.call54 (inode_between_c H.has n_.Size 0 1099511627775) (by kernel_rfl) ?_)
  rintro _ w60 ⟨rfl, hx60⟩
  replace H := H.ex hx60
  refine seg 1 [.op [1, 1, 1, 0] 4, .co [1, 1, 1, 1]] [(1, .pointer (some (⟨g1, 0, none⟩))), (3, .bool words), (4, .bool frag), (50, .bool (inode_between n_.Size 0 1099511627775))] (by kernel_rfl) ?_
  rcases condT hf with ⟨hb61, hf⟩ | ⟨hb61, hf⟩
  · rw [hb61]
    refine seg 1 [.op [1, 1, 1, 0] 5, .co [1, 1, 1, 1]] [(3, .bool words), (4, .bool frag), (50, .bool true), (51, .pointer (some (⟨g1, 8, none⟩)))] (by kernel_rfl) ?_
    refine st (ldR (some 52) 3 (⟨g1, 8, none⟩) (.int .i64 n_.Start) (by kernel_rfl) (by kernel_rfl) (H.cellB 0 rfl rfl) ?_)
    refine st (callR (some 53) 54 #[.int .i64 n_.Start, .int .i64 0, .int .i64 8388608] Try.call54 (inode_between_c H.has n_.Start 0 8388608) (by kernel_rfl) ?_)
    rintro _ w62 ⟨rfl, hx62⟩
    replace H := H.ex hx62
    refine seg 2 [.op [1, 1, 1, 0] 9, .co [1, 1, 1, 1]] [(3, .bool words), (4, .bool frag), (55, .bool (inode_between n_.Start 0 8388608))] (by kernel_rfl) ?_
    rcases condT hf with ⟨hb63, hf⟩ | ⟨hb63, hf⟩
    · rw [hb63]
      refine seg 3 [.op [1, 1, 1, 0] 12, .co [1, 1, 1, 1]] [(4, .bool frag), (58, .bool words)] (by kernel_rfl) ?_
      rcases condT hf with ⟨hb64, hf⟩ | ⟨hb64, hf⟩
      · rw [hb64]
        refine seg 4 [.co [1, 1, 1, 1]] [(2, .bool frag)] (by kernel_rfl) ?_
        refine retR [2] [.bool frag] (by kernel_rfl) (by kernel_rfl) (by kernel_rfl) ?_
        have hret := (Option.some.inj hf)
        subst hret
        exact ⟨_, rfl, rfl, H.scalar⟩
      · rw [hb64]
        refine seg 4 [.co [1, 1, 1, 1]] [(2, .bool false)] (by kernel_rfl) ?_
        refine retR [2] [.bool false] (by kernel_rfl) (by kernel_rfl) (by kernel_rfl) ?_
        have hret := (Option.some.inj hf)
        subst hret
        exact ⟨_, rfl, rfl, H.scalar⟩
    · rw [hb63]
      refine seg 7 [.co [1, 1, 1, 1]] [(2, .bool false)] (by kernel_rfl) ?_
      refine retR [2] [.bool false] (by kernel_rfl) (by kernel_rfl) (by kernel_rfl) ?_
      have hret := (Option.some.inj hf)
      subst hret
      exact ⟨_, rfl, rfl, H.scalar⟩
  · rw [hb61]
    refine seg 12 [.co [1, 1, 1, 1]] [(2, .bool false)] (by kernel_rfl) ?_
    refine retR [2] [.bool false] (by kernel_rfl) (by kernel_rfl) (by kernel_rfl) ?_
    have hret := (Option.some.inj hf)
    subst hret
    exact ⟨_, rfl, rfl, H.scalar⟩
theorem inode_dir_c {m : Mem} {w : World} (hm : Has m w) (n_ : TApiInode) (A0_9 : Option Addr) (c0_9 : Nat) (s0_9 : SlI rI64 m A0_9 c0_9 n_.Words) (l0_16 : n_.Target.length ≤ 9223372036854775807) :
    Calls Try.prog 62 #[.agg #[.int .i64 n_.Kind, .int .i64 n_.Mode, .int .i64 n_.Uid, .int .i64 n_.Gid, .int .i64 n_.Time, .int .i64 n_.Links, .int .i64 n_.Attrs, .int .i64 n_.Size, .int .i64 n_.Start, .slice A0_9 n_.Words.length c0_9, .int .i64 n_.Frag, .int .i64 n_.Off, .int .i64 n_.Tail, .int .i64 n_.Dir, .int .i64 n_.Bytes, .int .i64 n_.Parent, .string ⟨n_.Target.toArray⟩, .int .i64 n_.Dev]] w fun e w' => ∃ v, e = .returned v ∧ v = .bool (inode_dir n_) ∧ Ex w w' := by
  generalize hf : inode_dir n_ = r
  unfold inode_dir at hf
  have H := St.start0 hm
  refine callsR Try.func62 (by kernel_rfl) (by kernel_rfl) ?_
  refine seg 2 [.op [0] 0, .co [1]] [(0, .agg #[.int .i64 n_.Kind, .int .i64 n_.Mode, .int .i64 n_.Uid, .int .i64 n_.Gid, .int .i64 n_.Time, .int .i64 n_.Links, .int .i64 n_.Attrs, .int .i64 n_.Size, .int .i64 n_.Start, .slice A0_9 n_.Words.length c0_9, .int .i64 n_.Frag, .int .i64 n_.Off, .int .i64 n_.Tail, .int .i64 n_.Dir, .int .i64 n_.Bytes, .int .i64 n_.Parent, .string ⟨n_.Target.toArray⟩, .int .i64 n_.Dev])] (by kernel_rfl) ?_
  refine st (newS (some 1) (fun g => .pointer (some ⟨g, 0, none⟩)) [.int .i64 n_.Kind, .int .i64 n_.Mode, .int .i64 n_.Uid, .int .i64 n_.Gid, .int .i64 n_.Time, .int .i64 n_.Links, .int .i64 n_.Attrs, .int .i64 n_.Size, .int .i64 n_.Start, .slice A0_9 n_.Words.length c0_9, .int .i64 n_.Frag, .int .i64 n_.Off, .int .i64 n_.Tail, .int .i64 n_.Dir, .int .i64 n_.Bytes, .int .i64 n_.Parent, .string ⟨n_.Target.toArray⟩, .int .i64 n_.Dev] 46 H (by kernel_rfl) ?_)
  intro g1 w1 H
  refine seg 5 [.op [1, 0] 1, .co [1, 1]] [(1, .pointer (some (⟨g1, 0, none⟩))), (3, .pointer (some (⟨g1, 13, none⟩)))] (by kernel_rfl) ?_
  replace H : St w noF m m [blkI g1 [.int .i64 n_.Kind, .int .i64 n_.Mode, .int .i64 n_.Uid, .int .i64 n_.Gid, .int .i64 n_.Time, .int .i64 n_.Links, .int .i64 n_.Attrs, .int .i64 n_.Size, .int .i64 n_.Start, .slice A0_9 n_.Words.length c0_9, .int .i64 n_.Frag, .int .i64 n_.Off, .int .i64 n_.Tail, .int .i64 n_.Dir, .int .i64 n_.Bytes, .int .i64 n_.Parent, .string ⟨n_.Target.toArray⟩, .int .i64 n_.Dev] 46] w1 := H
  refine st (ldR (some 4) 3 (⟨g1, 13, none⟩) (.int .i64 n_.Dir) (by kernel_rfl) (by kernel_rfl) (H.cellB 0 rfl rfl) ?_)
  refine st (callR (some 5) 54 #[.int .i64 n_.Dir, .int .i64 0, .int .i64 16777216] Try.call54 (inode_between_c H.has n_.Dir 0 16777216) (by kernel_rfl) ?_)
  rintro _ w7 ⟨rfl, hx7⟩
  replace H := H.ex hx7
  refine seg 1 [.op [1, 0] 4, .co [1, 1]] [(1, .pointer (some (⟨g1, 0, none⟩))), (6, .bool (inode_between n_.Dir 0 16777216))] (by kernel_rfl) ?_
  rcases condT hf with ⟨hb8, hf⟩ | ⟨hb8, hf⟩
  · rw [hb8]
    refine seg 1 [.op [1, 0] 5, .co [1, 1]] [(1, .pointer (some (⟨g1, 0, none⟩))), (6, .bool true), (7, .pointer (some (⟨g1, 14, none⟩)))] (by kernel_rfl) ?_
    refine st (ldR (some 8) 3 (⟨g1, 14, none⟩) (.int .i64 n_.Bytes) (by kernel_rfl) (by kernel_rfl) (H.cellB 0 rfl rfl) ?_)
    refine st (callR (some 9) 54 #[.int .i64 n_.Bytes, .int .i64 0, .int .i64 16777216] Try.call54 (inode_between_c H.has n_.Bytes 0 16777216) (by kernel_rfl) ?_)
    rintro _ w9 ⟨rfl, hx9⟩
    replace H := H.ex hx9
    refine seg 2 [.op [1, 0] 9, .co [1, 1]] [(1, .pointer (some (⟨g1, 0, none⟩))), (11, .bool (inode_between n_.Bytes 0 16777216))] (by kernel_rfl) ?_
    rcases condT hf with ⟨hb10, hf⟩ | ⟨hb10, hf⟩
    · rw [hb10]
      refine seg 1 [.op [1, 0] 10, .co [1, 1]] [(11, .bool true), (12, .pointer (some (⟨g1, 15, none⟩)))] (by kernel_rfl) ?_
      refine st (ldR (some 13) 3 (⟨g1, 15, none⟩) (.int .i64 n_.Parent) (by kernel_rfl) (by kernel_rfl) (H.cellB 0 rfl rfl) ?_)
      refine st (callR (some 14) 54 #[.int .i64 n_.Parent, .int .i64 0, .int .i64 16384] Try.call54 (inode_between_c H.has n_.Parent 0 16384) (by kernel_rfl) ?_)
      rintro _ w11 ⟨rfl, hx11⟩
      replace H := H.ex hx11
      refine seg 3 [.co [1, 1]] [(2, .bool (inode_between n_.Parent 0 16384))] (by kernel_rfl) ?_
      refine retR [2] [.bool (inode_between n_.Parent 0 16384)] (by kernel_rfl) (by kernel_rfl) (by kernel_rfl) ?_
      obtain rfl : (inode_between n_.Parent 0 16384) = r := hf
      exact ⟨_, rfl, rfl, H.scalar⟩
    · rw [hb10]
      refine seg 6 [.co [1, 1]] [(2, .bool false)] (by kernel_rfl) ?_
      refine retR [2] [.bool false] (by kernel_rfl) (by kernel_rfl) (by kernel_rfl) ?_
      have hret := hf
      subst hret
      exact ⟨_, rfl, rfl, H.scalar⟩
  · rw [hb8]
    refine seg 11 [.co [1, 1]] [(2, .bool false)] (by kernel_rfl) ?_
    refine retR [2] [.bool false] (by kernel_rfl) (by kernel_rfl) (by kernel_rfl) ?_
    have hret := hf
    subst hret
    exact ⟨_, rfl, rfl, H.scalar⟩
theorem internal_stringslite_IndexByte_c {m : Mem} {w : World} (hm : Has m w) (s_ : (List UInt8)) (l0_0 : s_.length ≤ 9223372036854775807) (c : UInt8) :
    Calls Try.prog 97 #[.string ⟨s_.toArray⟩, .int .u8 (c.toNat : Int)] w fun e w' => ∃ v, e = .returned v ∧ v = .int .i64 (internal_stringslite_IndexByte s_ c) ∧ Ex w w' := by
  generalize hf : internal_stringslite_IndexByte s_ c = r
  unfold internal_stringslite_IndexByte at hf
  have H := St.start0 hm
  refine callsR Try.func97 (by kernel_rfl) (by kernel_rfl) ?_
  refine seg 8 [.op [1, 0] 2, .co [1, 1]] [(5, .string ⟨s_.toArray⟩), (6, .int .u8 (c.toNat : Int))] (by kernel_rfl) ?_
  refine st (ixbS (some 7) 105 s_ c Try.func105 (by kernel_rfl) (by kernel_rfl) (by kernel_rfl) (by kernel_rfl) (by kernel_rfl) ?_)
  refine seg 2 [.co [1, 1]] [(4, .int .i64 (Lib.indexByte s_ c))] (by kernel_rfl) ?_
  refine retR [4] [.int .i64 (Lib.indexByte s_ c)] (by kernel_rfl) (by kernel_rfl) (by kernel_rfl) ?_
  obtain rfl : (Lib.indexByte s_ c) = r := hf
  exact ⟨_, rfl, rfl, H.scalar⟩
theorem strings_IndexByte_c {m : Mem} {w : World} (hm : Has m w) (s_ : (List UInt8)) (l0_0 : s_.length ≤ 9223372036854775807) (c : UInt8) :
    Calls Try.prog 82 #[.string ⟨s_.toArray⟩, .int .u8 (c.toNat : Int)] w fun e w' => ∃ v, e = .returned v ∧ v = .int .i64 (strings_IndexByte s_ c) ∧ Ex w w' := by
  generalize hf : strings_IndexByte s_ c = r
  unfold strings_IndexByte at hf
  have H := St.start0 hm
  refine callsR Try.func82 (by kernel_rfl) (by kernel_rfl) ?_
  refine seg 8 [.op [1, 0] 2, .co [1, 1]] [(5, .string ⟨s_.toArray⟩), (6, .int .u8 (c.toNat : Int))] (by kernel_rfl) ?_
  refine st (callR (some 7) 97 #[.string ⟨s_.toArray⟩, .int .u8 (c.toNat : Int)] Try.call97 (internal_stringslite_IndexByte_c H.has s_ l0_0 c) (by kernel_rfl) ?_)
  rintro _ w1 ⟨rfl, hx1⟩
  replace H := H.ex hx1
  refine seg 2 [.co [1, 1]] [(4, .int .i64 (internal_stringslite_IndexByte s_ c))] (by kernel_rfl) ?_
  refine retR [4] [.int .i64 (internal_stringslite_IndexByte s_ c)] (by kernel_rfl) (by kernel_rfl) (by kernel_rfl) ?_
  obtain rfl : (internal_stringslite_IndexByte s_ c) = r := hf
  exact ⟨_, rfl, rfl, H.scalar⟩
theorem inode_link_c {m : Mem} {w : World} (hm : Has m w) (n_ : TApiInode) (A0_9 : Option Addr) (c0_9 : Nat) (s0_9 : SlI rI64 m A0_9 c0_9 n_.Words) (l0_16 : n_.Target.length ≤ 9223372036854775807) :
    Calls Try.prog 63 #[.agg #[.int .i64 n_.Kind, .int .i64 n_.Mode, .int .i64 n_.Uid, .int .i64 n_.Gid, .int .i64 n_.Time, .int .i64 n_.Links, .int .i64 n_.Attrs, .int .i64 n_.Size, .int .i64 n_.Start, .slice A0_9 n_.Words.length c0_9, .int .i64 n_.Frag, .int .i64 n_.Off, .int .i64 n_.Tail, .int .i64 n_.Dir, .int .i64 n_.Bytes, .int .i64 n_.Parent, .string ⟨n_.Target.toArray⟩, .int .i64 n_.Dev]] w fun e w' => ∃ v, e = .returned v ∧ v = .bool (inode_link n_) ∧ Ex w w' := by
  generalize hf : inode_link n_ = r
  unfold inode_link at hf
  have H := St.start0 hm
  refine callsR Try.func63 (by kernel_rfl) (by kernel_rfl) ?_
  refine seg 2 [.op [0] 0, .co [1]] [(0, .agg #[.int .i64 n_.Kind, .int .i64 n_.Mode, .int .i64 n_.Uid, .int .i64 n_.Gid, .int .i64 n_.Time, .int .i64 n_.Links, .int .i64 n_.Attrs, .int .i64 n_.Size, .int .i64 n_.Start, .slice A0_9 n_.Words.length c0_9, .int .i64 n_.Frag, .int .i64 n_.Off, .int .i64 n_.Tail, .int .i64 n_.Dir, .int .i64 n_.Bytes, .int .i64 n_.Parent, .string ⟨n_.Target.toArray⟩, .int .i64 n_.Dev])] (by kernel_rfl) ?_
  refine st (newS (some 1) (fun g => .pointer (some ⟨g, 0, none⟩)) [.int .i64 n_.Kind, .int .i64 n_.Mode, .int .i64 n_.Uid, .int .i64 n_.Gid, .int .i64 n_.Time, .int .i64 n_.Links, .int .i64 n_.Attrs, .int .i64 n_.Size, .int .i64 n_.Start, .slice A0_9 n_.Words.length c0_9, .int .i64 n_.Frag, .int .i64 n_.Off, .int .i64 n_.Tail, .int .i64 n_.Dir, .int .i64 n_.Bytes, .int .i64 n_.Parent, .string ⟨n_.Target.toArray⟩, .int .i64 n_.Dev] 46 H (by kernel_rfl) ?_)
  intro g1 w1 H
  refine seg 5 [.op [1, 0] 1, .co [1, 1]] [(1, .pointer (some (⟨g1, 0, none⟩))), (3, .pointer (some (⟨g1, 16, none⟩)))] (by kernel_rfl) ?_
  refine st (ldR (some 4) 9 (⟨g1, 16, none⟩) (.string ⟨n_.Target.toArray⟩) (by kernel_rfl) (by kernel_rfl) (H.cellB 0 rfl rfl) ?_)
  refine seg 1 [.op [1, 0] 3, .co [1, 1]] [(1, .pointer (some (⟨g1, 0, none⟩))), (5, .int .i64 (n_.Target.length : Int))] (by kernel_rfl) ?_
  refine st (callR (some 6) 54 #[.int .i64 (n_.Target.length : Int), .int .i64 1, .int .i64 4096] Try.call54 (inode_between_c H.has (n_.Target.length : Int) 1 4096) (by kernel_rfl) ?_)
  rintro _ w5 ⟨rfl, hx5⟩
  replace H := H.ex hx5
  refine seg 1 [.op [1, 0] 5, .co [1, 1]] [(1, .pointer (some (⟨g1, 0, none⟩))), (7, .bool (inode_between (n_.Target.length : Int) 1 4096))] (by kernel_rfl) ?_
  rcases condT hf with ⟨hb6, hf⟩ | ⟨hb6, hf⟩
  · rw [hb6]
    refine seg 1 [.op [1, 0] 6, .co [1, 1]] [(7, .bool true), (8, .pointer (some (⟨g1, 16, none⟩)))] (by kernel_rfl) ?_
    replace H : St w noF m m [blkI g1 [.int .i64 n_.Kind, .int .i64 n_.Mode, .int .i64 n_.Uid, .int .i64 n_.Gid, .int .i64 n_.Time, .int .i64 n_.Links, .int .i64 n_.Attrs, .int .i64 n_.Size, .int .i64 n_.Start, .slice A0_9 n_.Words.length c0_9, .int .i64 n_.Frag, .int .i64 n_.Off, .int .i64 n_.Tail, .int .i64 n_.Dir, .int .i64 n_.Bytes, .int .i64 n_.Parent, .string ⟨n_.Target.toArray⟩, .int .i64 n_.Dev] 46] w5 := H
    refine st (ldR (some 9) 9 (⟨g1, 16, none⟩) (.string ⟨n_.Target.toArray⟩) (by kernel_rfl) (by kernel_rfl) (H.cellB 0 rfl rfl) ?_)
    refine st (callR (some 10) 82 #[.string ⟨n_.Target.toArray⟩, .int .u8 0] Try.call82 (strings_IndexByte_c H.has n_.Target l0_16 (0 : UInt8)) (by kernel_rfl) ?_)
    rintro _ w7 ⟨rfl, hx7⟩
    replace H := H.ex hx7
    refine seg 4 [.co [1, 1]] [(2, .bool (decide ((strings_IndexByte n_.Target (0 : UInt8)) < 0)))] (by kernel_rfl) ?_
    refine retR [2] [.bool (decide ((strings_IndexByte n_.Target (0 : UInt8)) < 0))] (by kernel_rfl) (by kernel_rfl) (by kernel_rfl) ?_
    obtain rfl : (decide ((strings_IndexByte n_.Target (0 : UInt8)) < 0)) = r := hf
    exact ⟨_, rfl, rfl, H.scalar⟩
  · rw [hb6]
    refine seg 7 [.co [1, 1]] [(2, .bool false)] (by kernel_rfl) ?_
    refine retR [2] [.bool false] (by kernel_rfl) (by kernel_rfl) (by kernel_rfl) ?_
    have hret := hf
    subst hret
    exact ⟨_, rfl, rfl, H.scalar⟩
theorem inode_device_c {m : Mem} {w : World} (hm : Has m w) (n_ : TApiInode) (A0_9 : Option Addr) (c0_9 : Nat) (s0_9 : SlI rI64 m A0_9 c0_9 n_.Words) (l0_16 : n_.Target.length ≤ 9223372036854775807) :
    Calls Try.prog 64 #[.agg #[.int .i64 n_.Kind, .int .i64 n_.Mode, .int .i64 n_.Uid, .int .i64 n_.Gid, .int .i64 n_.Time, .int .i64 n_.Links, .int .i64 n_.Attrs, .int .i64 n_.Size, .int .i64 n_.Start, .slice A0_9 n_.Words.length c0_9, .int .i64 n_.Frag, .int .i64 n_.Off, .int .i64 n_.Tail, .int .i64 n_.Dir, .int .i64 n_.Bytes, .int .i64 n_.Parent, .string ⟨n_.Target.toArray⟩, .int .i64 n_.Dev]] w fun e w' => ∃ v, e = .returned v ∧ v = .bool (inode_device n_) ∧ Ex w w' := by
  generalize hf : inode_device n_ = r
  unfold inode_device at hf
  have H := St.start0 hm
  refine callsR Try.func64 (by kernel_rfl) (by kernel_rfl) ?_
  refine seg 2 [.op [0] 0, .co [1]] [(0, .agg #[.int .i64 n_.Kind, .int .i64 n_.Mode, .int .i64 n_.Uid, .int .i64 n_.Gid, .int .i64 n_.Time, .int .i64 n_.Links, .int .i64 n_.Attrs, .int .i64 n_.Size, .int .i64 n_.Start, .slice A0_9 n_.Words.length c0_9, .int .i64 n_.Frag, .int .i64 n_.Off, .int .i64 n_.Tail, .int .i64 n_.Dir, .int .i64 n_.Bytes, .int .i64 n_.Parent, .string ⟨n_.Target.toArray⟩, .int .i64 n_.Dev])] (by kernel_rfl) ?_
  refine st (newS (some 1) (fun g => .pointer (some ⟨g, 0, none⟩)) [.int .i64 n_.Kind, .int .i64 n_.Mode, .int .i64 n_.Uid, .int .i64 n_.Gid, .int .i64 n_.Time, .int .i64 n_.Links, .int .i64 n_.Attrs, .int .i64 n_.Size, .int .i64 n_.Start, .slice A0_9 n_.Words.length c0_9, .int .i64 n_.Frag, .int .i64 n_.Off, .int .i64 n_.Tail, .int .i64 n_.Dir, .int .i64 n_.Bytes, .int .i64 n_.Parent, .string ⟨n_.Target.toArray⟩, .int .i64 n_.Dev] 46 H (by kernel_rfl) ?_)
  intro g1 w1 H
  refine seg 5 [.op [1, 0] 1, .co [1, 1]] [(3, .pointer (some (⟨g1, 17, none⟩)))] (by kernel_rfl) ?_
  refine st (ldR (some 4) 3 (⟨g1, 17, none⟩) (.int .i64 n_.Dev) (by kernel_rfl) (by kernel_rfl) (H.cellB 0 rfl rfl) ?_)
  refine st (callR (some 5) 54 #[.int .i64 n_.Dev, .int .i64 0, .int .i64 4294967295] Try.call54 (inode_between_c H.has n_.Dev 0 4294967295) (by kernel_rfl) ?_)
  rintro _ w2 ⟨rfl, hx2⟩
  replace H := H.ex hx2
  refine seg 2 [.co [1, 1]] [(2, .bool (inode_between n_.Dev 0 4294967295))] (by kernel_rfl) ?_
  refine retR [2] [.bool (inode_between n_.Dev 0 4294967295)] (by kernel_rfl) (by kernel_rfl) (by kernel_rfl) ?_
  obtain rfl : (inode_between n_.Dev 0 4294967295) = r := hf
  exact ⟨_, rfl, rfl, H.scalar⟩
theorem inode_rest_c {m : Mem} {w : World} (hm : Has m w) (n_ : TApiInode) (A0_9 : Option Addr) (c0_9 : Nat) (s0_9 : SlI rI64 m A0_9 c0_9 n_.Words) (l0_16 : n_.Target.length ≤ 9223372036854775807) :
    Calls Try.prog 65 #[.agg #[.int .i64 n_.Kind, .int .i64 n_.Mode, .int .i64 n_.Uid, .int .i64 n_.Gid, .int .i64 n_.Time, .int .i64 n_.Links, .int .i64 n_.Attrs, .int .i64 n_.Size, .int .i64 n_.Start, .slice A0_9 n_.Words.length c0_9, .int .i64 n_.Frag, .int .i64 n_.Off, .int .i64 n_.Tail, .int .i64 n_.Dir, .int .i64 n_.Bytes, .int .i64 n_.Parent, .string ⟨n_.Target.toArray⟩, .int .i64 n_.Dev]] w fun e w' => ∃ v, e = .returned v ∧ v = .bool (inode_rest n_) ∧ Ex w w' := by
  generalize hf : inode_rest n_ = r
  unfold inode_rest at hf
  have H := St.start0 hm
  refine callsR Try.func65 (by kernel_rfl) (by kernel_rfl) ?_
  refine seg 2 [.op [0] 0, .co [1]] [(0, .agg #[.int .i64 n_.Kind, .int .i64 n_.Mode, .int .i64 n_.Uid, .int .i64 n_.Gid, .int .i64 n_.Time, .int .i64 n_.Links, .int .i64 n_.Attrs, .int .i64 n_.Size, .int .i64 n_.Start, .slice A0_9 n_.Words.length c0_9, .int .i64 n_.Frag, .int .i64 n_.Off, .int .i64 n_.Tail, .int .i64 n_.Dir, .int .i64 n_.Bytes, .int .i64 n_.Parent, .string ⟨n_.Target.toArray⟩, .int .i64 n_.Dev])] (by kernel_rfl) ?_
  refine st (newS (some 1) (fun g => .pointer (some ⟨g, 0, none⟩)) [.int .i64 n_.Kind, .int .i64 n_.Mode, .int .i64 n_.Uid, .int .i64 n_.Gid, .int .i64 n_.Time, .int .i64 n_.Links, .int .i64 n_.Attrs, .int .i64 n_.Size, .int .i64 n_.Start, .slice A0_9 n_.Words.length c0_9, .int .i64 n_.Frag, .int .i64 n_.Off, .int .i64 n_.Tail, .int .i64 n_.Dir, .int .i64 n_.Bytes, .int .i64 n_.Parent, .string ⟨n_.Target.toArray⟩, .int .i64 n_.Dev] 46 H (by kernel_rfl) ?_)
  intro g1 w1 H
  refine seg 3 [.co [1, 0], .co [1, 1]] [(1, .pointer (some (⟨g1, 0, none⟩)))] (by kernel_rfl) ?_
  have hst : statB (bodyOf Try.f65) [1, 0] = true := by kernel_rfl
  refine drawS (fun w' => Has m w' ∧ w'.heap[g1]? = some (.cells [.int .i64 n_.Kind, .int .i64 n_.Mode, .int .i64 n_.Uid, .int .i64 n_.Gid, .int .i64 n_.Time, .int .i64 n_.Links, .int .i64 n_.Attrs, .int .i64 n_.Size, .int .i64 n_.Start, .slice A0_9 n_.Words.length c0_9, .int .i64 n_.Frag, .int .i64 n_.Off, .int .i64 n_.Tail, .int .i64 n_.Dir, .int .i64 n_.Bytes, .int .i64 n_.Parent, .string ⟨n_.Target.toArray⟩, .int .i64 n_.Dev].toArray 46 (0, 0))) H (by kernel_rfl) (by kernel_rfl) ?_
  intro w2 H
  refine segD2 hst [0, 3, 6, 9] [0, 3, 6, 9] [(1, .pointer (some (⟨g1, 0, none⟩))), (7, .pointer (some (⟨g1, 0, none⟩))), (10, .pointer (some (⟨g1, 0, none⟩))), (13, .pointer (some (⟨g1, 0, none⟩))), (16, .pointer (some (⟨g1, 0, none⟩)))] (by kernel_rfl) ?_
  refine takeD2 (i := 1) (d := (some 8)) (s := vS (Instr.loadAt 3 (.pointer (some (⟨g1, 0, none⟩))))) (v := (.int .i64 n_.Kind)) hst (by kernel_rfl) (by kernel_rfl) (fun w' hw' => ld_run _ _ _ (by kernel_rfl) (blk_cell hw'.2 rfl)) ?_
  refine segD2 hst [2] [0, 3, 6, 9, 1, 2] [(1, .pointer (some (⟨g1, 0, none⟩))), (9, .bool (n_.Kind == 1)), (10, .pointer (some (⟨g1, 0, none⟩))), (13, .pointer (some (⟨g1, 0, none⟩))), (16, .pointer (some (⟨g1, 0, none⟩)))] (by kernel_rfl) ?_
  refine segD2 hst [12] [0, 3, 6, 9, 1, 2, 12] [(1, .pointer (some (⟨g1, 0, none⟩))), (3, .bool (n_.Kind == 1)), (10, .pointer (some (⟨g1, 0, none⟩))), (13, .pointer (some (⟨g1, 0, none⟩))), (16, .pointer (some (⟨g1, 0, none⟩)))] (by kernel_rfl) ?_
  refine takeD2 (i := 4) (d := (some 11)) (s := vS (Instr.loadAt 3 (.pointer (some (⟨g1, 0, none⟩))))) (v := (.int .i64 n_.Kind)) hst (by kernel_rfl) (by kernel_rfl) (fun w' hw' => ld_run _ _ _ (by kernel_rfl) (blk_cell hw'.2 rfl)) ?_
  refine segD2 hst [5] [0, 3, 6, 9, 1, 2, 12, 4, 5] [(1, .pointer (some (⟨g1, 0, none⟩))), (3, .bool (n_.Kind == 1)), (12, .bool (n_.Kind == 2)), (13, .pointer (some (⟨g1, 0, none⟩))), (16, .pointer (some (⟨g1, 0, none⟩)))] (by kernel_rfl) ?_
  refine segD2 hst [13] [0, 3, 6, 9, 1, 2, 12, 4, 5, 13] [(1, .pointer (some (⟨g1, 0, none⟩))), (3, .bool (n_.Kind == 1)), (4, .bool (n_.Kind == 2)), (13, .pointer (some (⟨g1, 0, none⟩))), (16, .pointer (some (⟨g1, 0, none⟩)))] (by kernel_rfl) ?_
  refine takeD2 (i := 7) (d := (some 14)) (s := vS (Instr.loadAt 3 (.pointer (some (⟨g1, 0, none⟩))))) (v := (.int .i64 n_.Kind)) hst (by kernel_rfl) (by kernel_rfl) (fun w' hw' => ld_run _ _ _ (by kernel_rfl) (blk_cell hw'.2 rfl)) ?_
  refine segD2 hst [8] [0, 3, 6, 9, 1, 2, 12, 4, 5, 13, 7, 8] [(1, .pointer (some (⟨g1, 0, none⟩))), (3, .bool (n_.Kind == 1)), (4, .bool (n_.Kind == 2)), (15, .bool (n_.Kind == 3)), (16, .pointer (some (⟨g1, 0, none⟩)))] (by kernel_rfl) ?_
  refine segD2 hst [14] [0, 3, 6, 9, 1, 2, 12, 4, 5, 13, 7, 8, 14] [(1, .pointer (some (⟨g1, 0, none⟩))), (3, .bool (n_.Kind == 1)), (4, .bool (n_.Kind == 2)), (5, .bool (n_.Kind == 3)), (16, .pointer (some (⟨g1, 0, none⟩)))] (by kernel_rfl) ?_
  refine stD2 (i := 10) (by kernel_rfl) ⟨H.has, H.blk 0 rfl⟩ (ldR (some 17) 3 (⟨g1, 0, none⟩) (.int .i64 n_.Kind) (by kernel_rfl) (by kernel_rfl) (H.cellB 0 rfl rfl) ?_)
  refine segD2 hst [11] [0, 3, 6, 9, 1, 2, 12, 4, 5, 13, 7, 8, 14, 10, 11] [(1, .pointer (some (⟨g1, 0, none⟩))), (3, .bool (n_.Kind == 1)), (4, .bool (n_.Kind == 2)), (5, .bool (n_.Kind == 3)), (18, .bool (decide (n_.Kind ≥ 4)))] (by kernel_rfl) ?_
  refine segD2 hst [15] [0, 3, 6, 9, 1, 2, 12, 4, 5, 13, 7, 8, 14, 10, 11, 15] [(1, .pointer (some (⟨g1, 0, none⟩))), (3, .bool (n_.Kind == 1)), (4, .bool (n_.Kind == 2)), (5, .bool (n_.Kind == 3)), (6, .bool (decide (n_.Kind ≥ 4)))] (by kernel_rfl) ?_
  refine endD2 (by kernel_rfl) ⟨H.has, H.blk 0 rfl⟩ ?_
  refine seg 1 [.co [1, 1, 0], .co [1, 1, 1]] [(1, .pointer (some (⟨g1, 0, none⟩))), (3, .bool (n_.Kind == 1)), (4, .bool (n_.Kind == 2)), (5, .bool (n_.Kind == 3)), (6, .bool (decide (n_.Kind ≥ 4)))] (by kernel_rfl) ?_
  obtain ⟨y47, hp47, hf⟩ := ltE hf
  refine joinR 0 (fun (x : Bool) => [(2, .bool x)]) (fun (x : Bool) (wj47 : World) => y47 = x ∧ St w noF m m [] wj47) (by kernel_rfl) ?_ ?_
  · refine seg 3 [.op [1, 1, 0] 2, .le 0, .co [1, 1, 1]] [(1, .pointer (some (⟨g1, 0, none⟩))), (4, .bool (n_.Kind == 2)), (5, .bool (n_.Kind == 3)), (6, .bool (decide (n_.Kind ≥ 4))), (20, .bool (n_.Kind == 1))] (by kernel_rfl) ?_
    rcases condT hp47 with ⟨hb49, hp47⟩ | ⟨hb49, hp47⟩
    · rw [hb49]
      refine seg 33 [.op [1, 1, 0] 35, .le 0, .co [1, 1, 1]] [(1, .pointer (some (⟨g1, 0, none⟩))), (5, .bool (n_.Kind == 3)), (6, .bool (decide (n_.Kind ≥ 4))), (51, .bool true), (53, .bool (n_.Kind == 2))] (by kernel_rfl) ?_
      rw [show (n_.Kind == 2) = false from by rw [show n_.Kind = 1 from eq_of_beq hb49]; rfl]
      refine seg 1 [.op [1, 1, 0] 36, .le 0, .co [1, 1, 1]] [(1, .pointer (some (⟨g1, 0, none⟩))), (5, .bool (n_.Kind == 3)), (6, .bool (decide (n_.Kind ≥ 4))), (51, .bool true), (53, .bool false), (54, .pointer (some (⟨g1, 13, none⟩)))] (by kernel_rfl) ?_
      refine st (ldR (some 55) 3 (⟨g1, 13, none⟩) (.int .i64 n_.Dir) (by kernel_rfl) (by kernel_rfl) (H.cellB 0 rfl rfl) ?_)
      refine seg 2 [.op [1, 1, 0] 39, .le 0, .co [1, 1, 1]] [(1, .pointer (some (⟨g1, 0, none⟩))), (5, .bool (n_.Kind == 3)), (6, .bool (decide (n_.Kind ≥ 4))), (51, .bool true), (53, .bool false), (57, .bool (n_.Dir == 0))] (by kernel_rfl) ?_
      rcases condT hp47 with ⟨hb50, hp47⟩ | ⟨hb50, hp47⟩
      · rw [hb50]
        refine seg 1 [.op [1, 1, 0] 40, .le 0, .co [1, 1, 1]] [(1, .pointer (some (⟨g1, 0, none⟩))), (5, .bool (n_.Kind == 3)), (6, .bool (decide (n_.Kind ≥ 4))), (51, .bool true), (53, .bool false), (57, .bool true), (58, .pointer (some (⟨g1, 14, none⟩)))] (by kernel_rfl) ?_
        refine st (ldR (some 59) 3 (⟨g1, 14, none⟩) (.int .i64 n_.Bytes) (by kernel_rfl) (by kernel_rfl) (H.cellB 0 rfl rfl) ?_)
        refine seg 3 [.op [1, 1, 0] 44, .le 0, .co [1, 1, 1]] [(1, .pointer (some (⟨g1, 0, none⟩))), (5, .bool (n_.Kind == 3)), (6, .bool (decide (n_.Kind ≥ 4))), (51, .bool true), (53, .bool false), (62, .bool (n_.Bytes == 0))] (by kernel_rfl) ?_
        rcases condT hp47 with ⟨hb51, hp47⟩ | ⟨hb51, hp47⟩
        · rw [hb51]
          refine seg 1 [.op [1, 1, 0] 45, .le 0, .co [1, 1, 1]] [(1, .pointer (some (⟨g1, 0, none⟩))), (5, .bool (n_.Kind == 3)), (6, .bool (decide (n_.Kind ≥ 4))), (51, .bool true), (53, .bool false), (62, .bool true), (63, .pointer (some (⟨g1, 15, none⟩)))] (by kernel_rfl) ?_
          refine st (ldR (some 64) 3 (⟨g1, 15, none⟩) (.int .i64 n_.Parent) (by kernel_rfl) (by kernel_rfl) (H.cellB 0 rfl rfl) ?_)
          refine seg 5 [.op [1, 1, 0] 51, .le 0, .co [1, 1, 1]] [(1, .pointer (some (⟨g1, 0, none⟩))), (5, .bool (n_.Kind == 3)), (6, .bool (decide (n_.Kind ≥ 4))), (69, .bool (n_.Parent == 0))] (by kernel_rfl) ?_
          rcases condT hp47 with ⟨hb52, hp47⟩ | ⟨hb52, hp47⟩
          · rw [hb52]
            refine seg 2 [.op [1, 1, 0] 53, .le 0, .co [1, 1, 1]] [(1, .pointer (some (⟨g1, 0, none⟩))), (6, .bool (decide (n_.Kind ≥ 4))), (69, .bool true), (71, .bool (n_.Kind == 3))] (by kernel_rfl) ?_
            rw [show (n_.Kind == 3) = false from by rw [show n_.Kind = 1 from eq_of_beq hb49]; rfl]
            refine seg 1 [.op [1, 1, 0] 54, .le 0, .co [1, 1, 1]] [(1, .pointer (some (⟨g1, 0, none⟩))), (6, .bool (decide (n_.Kind ≥ 4))), (69, .bool true), (71, .bool false), (72, .pointer (some (⟨g1, 16, none⟩)))] (by kernel_rfl) ?_
            refine st (ldR (some 73) 9 (⟨g1, 16, none⟩) (.string ⟨n_.Target.toArray⟩) (by kernel_rfl) (by kernel_rfl) (H.cellB 0 rfl rfl) ?_)
            refine seg 4 [.op [1, 1, 0] 59, .le 0, .co [1, 1, 1]] [(1, .pointer (some (⟨g1, 0, none⟩))), (6, .bool (decide (n_.Kind ≥ 4))), (77, .bool ((ByteArray.toList ⟨n_.Target.toArray⟩) == (ByteArray.toList ⟨([] : List UInt8).toArray⟩)))] (by kernel_rfl) ?_
            rw [seq_raw n_.Target ([] : List UInt8)]
            rcases condT hp47 with ⟨hb53, hp47⟩ | ⟨hb53, hp47⟩
            · rw [hb53]
              refine seg 2 [.op [1, 1, 0] 61, .le 0, .co [1, 1, 1]] [(1, .pointer (some (⟨g1, 0, none⟩))), (77, .bool true), (79, .bool (decide (n_.Kind ≥ 4)))] (by kernel_rfl) ?_
              rcases condT hp47 with ⟨hb54, hp47⟩ | ⟨hb54, hp47⟩
              · rw [hb54]
                have p54 := of_decide_eq_true hb54
                refine seg 7 [.le 0, .co [1, 1, 1]] [(2, .bool true)] (by kernel_rfl) ?_
                refine leJ (true) ⟨hp47.symm, (St.takeN 0 H)⟩ (by kernel_rfl)
              · rw [hb54]
                have p54 := of_decide_eq_false hb54
                refine seg 1 [.op [1, 1, 0] 62, .le 0, .co [1, 1, 1]] [(77, .bool true), (79, .bool false), (80, .pointer (some (⟨g1, 17, none⟩)))] (by kernel_rfl) ?_
                refine st (ldR (some 81) 3 (⟨g1, 17, none⟩) (.int .i64 n_.Dev) (by kernel_rfl) (by kernel_rfl) (H.cellB 0 rfl rfl) ?_)
                refine seg 5 [.le 0, .co [1, 1, 1]] [(2, .bool (n_.Dev == 0))] (by kernel_rfl) ?_
                refine leJ ((n_.Dev == 0)) ⟨hp47.symm, (St.takeN 0 H)⟩ (by kernel_rfl)
            · rw [hb53]
              refine seg 9 [.le 0, .co [1, 1, 1]] [(2, .bool false)] (by kernel_rfl) ?_
              refine leJ (false) ⟨hp47.symm, (St.takeN 0 H)⟩ (by kernel_rfl)
          · rw [hb52]
            refine seg 17 [.le 0, .co [1, 1, 1]] [(2, .bool false)] (by kernel_rfl) ?_
            refine leJ (false) ⟨hp47.symm, (St.takeN 0 H)⟩ (by kernel_rfl)
        · rw [hb51]
          refine seg 24 [.le 0, .co [1, 1, 1]] [(2, .bool false)] (by kernel_rfl) ?_
          refine leJ (false) ⟨hp47.symm, (St.takeN 0 H)⟩ (by kernel_rfl)
      · rw [hb50]
        refine seg 29 [.le 0, .co [1, 1, 1]] [(2, .bool false)] (by kernel_rfl) ?_
        refine leJ (false) ⟨hp47.symm, (St.takeN 0 H)⟩ (by kernel_rfl)
    · rw [hb49]
      refine seg 1 [.op [1, 1, 0] 3, .le 0, .co [1, 1, 1]] [(1, .pointer (some (⟨g1, 0, none⟩))), (4, .bool (n_.Kind == 2)), (5, .bool (n_.Kind == 3)), (6, .bool (decide (n_.Kind ≥ 4))), (20, .bool false), (21, .pointer (some (⟨g1, 7, none⟩)))] (by kernel_rfl) ?_
      refine st (ldR (some 22) 3 (⟨g1, 7, none⟩) (.int .i64 n_.Size) (by kernel_rfl) (by kernel_rfl) (H.cellB 0 rfl rfl) ?_)
      refine seg 2 [.op [1, 1, 0] 6, .le 0, .co [1, 1, 1]] [(1, .pointer (some (⟨g1, 0, none⟩))), (4, .bool (n_.Kind == 2)), (5, .bool (n_.Kind == 3)), (6, .bool (decide (n_.Kind ≥ 4))), (20, .bool false), (24, .bool (n_.Size == 0))] (by kernel_rfl) ?_
      rcases condT hp47 with ⟨hb55, hp47⟩ | ⟨hb55, hp47⟩
      · rw [hb55]
        refine seg 1 [.op [1, 1, 0] 7, .le 0, .co [1, 1, 1]] [(1, .pointer (some (⟨g1, 0, none⟩))), (4, .bool (n_.Kind == 2)), (5, .bool (n_.Kind == 3)), (6, .bool (decide (n_.Kind ≥ 4))), (20, .bool false), (24, .bool true), (25, .pointer (some (⟨g1, 8, none⟩)))] (by kernel_rfl) ?_
        refine st (ldR (some 26) 3 (⟨g1, 8, none⟩) (.int .i64 n_.Start) (by kernel_rfl) (by kernel_rfl) (H.cellB 0 rfl rfl) ?_)
        refine seg 3 [.op [1, 1, 0] 11, .le 0, .co [1, 1, 1]] [(1, .pointer (some (⟨g1, 0, none⟩))), (4, .bool (n_.Kind == 2)), (5, .bool (n_.Kind == 3)), (6, .bool (decide (n_.Kind ≥ 4))), (20, .bool false), (29, .bool (n_.Start == 0))] (by kernel_rfl) ?_
        rcases condT hp47 with ⟨hb56, hp47⟩ | ⟨hb56, hp47⟩
        · rw [hb56]
          refine seg 1 [.op [1, 1, 0] 12, .le 0, .co [1, 1, 1]] [(1, .pointer (some (⟨g1, 0, none⟩))), (4, .bool (n_.Kind == 2)), (5, .bool (n_.Kind == 3)), (6, .bool (decide (n_.Kind ≥ 4))), (20, .bool false), (29, .bool true), (30, .pointer (some (⟨g1, 9, none⟩)))] (by kernel_rfl) ?_
          refine st (ldR (some 31) 44 (⟨g1, 9, none⟩) (.slice A0_9 n_.Words.length c0_9) (by kernel_rfl) (by kernel_rfl) (H.cellB 0 rfl rfl) ?_)
          refine seg 4 [.op [1, 1, 0] 17, .le 0, .co [1, 1, 1]] [(1, .pointer (some (⟨g1, 0, none⟩))), (4, .bool (n_.Kind == 2)), (5, .bool (n_.Kind == 3)), (6, .bool (decide (n_.Kind ≥ 4))), (20, .bool false), (35, .bool ((n_.Words.length : Int) == 0))] (by kernel_rfl) ?_
          rcases condT hp47 with ⟨hb57, hp47⟩ | ⟨hb57, hp47⟩
          · rw [hb57]
            refine seg 1 [.op [1, 1, 0] 18, .le 0, .co [1, 1, 1]] [(1, .pointer (some (⟨g1, 0, none⟩))), (4, .bool (n_.Kind == 2)), (5, .bool (n_.Kind == 3)), (6, .bool (decide (n_.Kind ≥ 4))), (20, .bool false), (35, .bool true), (36, .pointer (some (⟨g1, 10, none⟩)))] (by kernel_rfl) ?_
            refine st (ldR (some 37) 3 (⟨g1, 10, none⟩) (.int .i64 n_.Frag) (by kernel_rfl) (by kernel_rfl) (H.cellB 0 rfl rfl) ?_)
            refine seg 3 [.op [1, 1, 0] 22, .le 0, .co [1, 1, 1]] [(1, .pointer (some (⟨g1, 0, none⟩))), (4, .bool (n_.Kind == 2)), (5, .bool (n_.Kind == 3)), (6, .bool (decide (n_.Kind ≥ 4))), (20, .bool false), (40, .bool (n_.Frag == 0))] (by kernel_rfl) ?_
            rcases condT hp47 with ⟨hb58, hp47⟩ | ⟨hb58, hp47⟩
            · rw [hb58]
              refine seg 1 [.op [1, 1, 0] 23, .le 0, .co [1, 1, 1]] [(1, .pointer (some (⟨g1, 0, none⟩))), (4, .bool (n_.Kind == 2)), (5, .bool (n_.Kind == 3)), (6, .bool (decide (n_.Kind ≥ 4))), (20, .bool false), (40, .bool true), (41, .pointer (some (⟨g1, 11, none⟩)))] (by kernel_rfl) ?_
              refine st (ldR (some 42) 3 (⟨g1, 11, none⟩) (.int .i64 n_.Off) (by kernel_rfl) (by kernel_rfl) (H.cellB 0 rfl rfl) ?_)
              refine seg 3 [.op [1, 1, 0] 27, .le 0, .co [1, 1, 1]] [(1, .pointer (some (⟨g1, 0, none⟩))), (4, .bool (n_.Kind == 2)), (5, .bool (n_.Kind == 3)), (6, .bool (decide (n_.Kind ≥ 4))), (20, .bool false), (45, .bool (n_.Off == 0))] (by kernel_rfl) ?_
              rcases condT hp47 with ⟨hb59, hp47⟩ | ⟨hb59, hp47⟩
              · rw [hb59]
                refine seg 1 [.op [1, 1, 0] 28, .le 0, .co [1, 1, 1]] [(1, .pointer (some (⟨g1, 0, none⟩))), (4, .bool (n_.Kind == 2)), (5, .bool (n_.Kind == 3)), (6, .bool (decide (n_.Kind ≥ 4))), (20, .bool false), (45, .bool true), (46, .pointer (some (⟨g1, 12, none⟩)))] (by kernel_rfl) ?_
                refine st (ldR (some 47) 3 (⟨g1, 12, none⟩) (.int .i64 n_.Tail) (by kernel_rfl) (by kernel_rfl) (H.cellB 0 rfl rfl) ?_)
                refine seg 4 [.op [1, 1, 0] 33, .le 0, .co [1, 1, 1]] [(1, .pointer (some (⟨g1, 0, none⟩))), (4, .bool (n_.Kind == 2)), (5, .bool (n_.Kind == 3)), (6, .bool (decide (n_.Kind ≥ 4))), (51, .bool (n_.Tail == 0))] (by kernel_rfl) ?_
                rcases condT hp47 with ⟨hb60, hp47⟩ | ⟨hb60, hp47⟩
                · rw [hb60]
                  refine seg 2 [.op [1, 1, 0] 35, .le 0, .co [1, 1, 1]] [(1, .pointer (some (⟨g1, 0, none⟩))), (5, .bool (n_.Kind == 3)), (6, .bool (decide (n_.Kind ≥ 4))), (51, .bool true), (53, .bool (n_.Kind == 2))] (by kernel_rfl) ?_
                  rcases condT hp47 with ⟨hb61, hp47⟩ | ⟨hb61, hp47⟩
                  · rw [hb61]
                    refine seg 18 [.op [1, 1, 0] 53, .le 0, .co [1, 1, 1]] [(1, .pointer (some (⟨g1, 0, none⟩))), (6, .bool (decide (n_.Kind ≥ 4))), (69, .bool true), (71, .bool (n_.Kind == 3))] (by kernel_rfl) ?_
                    rw [show (n_.Kind == 3) = false from by rw [show n_.Kind = 2 from eq_of_beq hb61]; rfl]
                    refine seg 1 [.op [1, 1, 0] 54, .le 0, .co [1, 1, 1]] [(1, .pointer (some (⟨g1, 0, none⟩))), (6, .bool (decide (n_.Kind ≥ 4))), (69, .bool true), (71, .bool false), (72, .pointer (some (⟨g1, 16, none⟩)))] (by kernel_rfl) ?_
                    refine st (ldR (some 73) 9 (⟨g1, 16, none⟩) (.string ⟨n_.Target.toArray⟩) (by kernel_rfl) (by kernel_rfl) (H.cellB 0 rfl rfl) ?_)
                    refine seg 4 [.op [1, 1, 0] 59, .le 0, .co [1, 1, 1]] [(1, .pointer (some (⟨g1, 0, none⟩))), (6, .bool (decide (n_.Kind ≥ 4))), (77, .bool ((ByteArray.toList ⟨n_.Target.toArray⟩) == (ByteArray.toList ⟨([] : List UInt8).toArray⟩)))] (by kernel_rfl) ?_
                    rw [seq_raw n_.Target ([] : List UInt8)]
                    rcases condT hp47 with ⟨hb62, hp47⟩ | ⟨hb62, hp47⟩
                    · rw [hb62]
                      refine seg 2 [.op [1, 1, 0] 61, .le 0, .co [1, 1, 1]] [(1, .pointer (some (⟨g1, 0, none⟩))), (77, .bool true), (79, .bool (decide (n_.Kind ≥ 4)))] (by kernel_rfl) ?_
                      rcases condT hp47 with ⟨hb63, hp47⟩ | ⟨hb63, hp47⟩
                      · rw [hb63]
                        have p63 := of_decide_eq_true hb63
                        refine seg 7 [.le 0, .co [1, 1, 1]] [(2, .bool true)] (by kernel_rfl) ?_
                        refine leJ (true) ⟨hp47.symm, (St.takeN 0 H)⟩ (by kernel_rfl)
                      · rw [hb63]
                        have p63 := of_decide_eq_false hb63
                        refine seg 1 [.op [1, 1, 0] 62, .le 0, .co [1, 1, 1]] [(77, .bool true), (79, .bool false), (80, .pointer (some (⟨g1, 17, none⟩)))] (by kernel_rfl) ?_
                        refine st (ldR (some 81) 3 (⟨g1, 17, none⟩) (.int .i64 n_.Dev) (by kernel_rfl) (by kernel_rfl) (H.cellB 0 rfl rfl) ?_)
                        refine seg 5 [.le 0, .co [1, 1, 1]] [(2, .bool (n_.Dev == 0))] (by kernel_rfl) ?_
                        refine leJ ((n_.Dev == 0)) ⟨hp47.symm, (St.takeN 0 H)⟩ (by kernel_rfl)
                    · rw [hb62]
                      refine seg 9 [.le 0, .co [1, 1, 1]] [(2, .bool false)] (by kernel_rfl) ?_
                      refine leJ (false) ⟨hp47.symm, (St.takeN 0 H)⟩ (by kernel_rfl)
                  · rw [hb61]
                    refine seg 1 [.op [1, 1, 0] 36, .le 0, .co [1, 1, 1]] [(1, .pointer (some (⟨g1, 0, none⟩))), (5, .bool (n_.Kind == 3)), (6, .bool (decide (n_.Kind ≥ 4))), (51, .bool true), (53, .bool false), (54, .pointer (some (⟨g1, 13, none⟩)))] (by kernel_rfl) ?_
                    refine st (ldR (some 55) 3 (⟨g1, 13, none⟩) (.int .i64 n_.Dir) (by kernel_rfl) (by kernel_rfl) (H.cellB 0 rfl rfl) ?_)
                    refine seg 2 [.op [1, 1, 0] 39, .le 0, .co [1, 1, 1]] [(1, .pointer (some (⟨g1, 0, none⟩))), (5, .bool (n_.Kind == 3)), (6, .bool (decide (n_.Kind ≥ 4))), (51, .bool true), (53, .bool false), (57, .bool (n_.Dir == 0))] (by kernel_rfl) ?_
                    rcases condT hp47 with ⟨hb64, hp47⟩ | ⟨hb64, hp47⟩
                    · rw [hb64]
                      refine seg 1 [.op [1, 1, 0] 40, .le 0, .co [1, 1, 1]] [(1, .pointer (some (⟨g1, 0, none⟩))), (5, .bool (n_.Kind == 3)), (6, .bool (decide (n_.Kind ≥ 4))), (51, .bool true), (53, .bool false), (57, .bool true), (58, .pointer (some (⟨g1, 14, none⟩)))] (by kernel_rfl) ?_
                      refine st (ldR (some 59) 3 (⟨g1, 14, none⟩) (.int .i64 n_.Bytes) (by kernel_rfl) (by kernel_rfl) (H.cellB 0 rfl rfl) ?_)
                      refine seg 3 [.op [1, 1, 0] 44, .le 0, .co [1, 1, 1]] [(1, .pointer (some (⟨g1, 0, none⟩))), (5, .bool (n_.Kind == 3)), (6, .bool (decide (n_.Kind ≥ 4))), (51, .bool true), (53, .bool false), (62, .bool (n_.Bytes == 0))] (by kernel_rfl) ?_
                      rcases condT hp47 with ⟨hb65, hp47⟩ | ⟨hb65, hp47⟩
                      · rw [hb65]
                        refine seg 1 [.op [1, 1, 0] 45, .le 0, .co [1, 1, 1]] [(1, .pointer (some (⟨g1, 0, none⟩))), (5, .bool (n_.Kind == 3)), (6, .bool (decide (n_.Kind ≥ 4))), (51, .bool true), (53, .bool false), (62, .bool true), (63, .pointer (some (⟨g1, 15, none⟩)))] (by kernel_rfl) ?_
                        refine st (ldR (some 64) 3 (⟨g1, 15, none⟩) (.int .i64 n_.Parent) (by kernel_rfl) (by kernel_rfl) (H.cellB 0 rfl rfl) ?_)
                        refine seg 5 [.op [1, 1, 0] 51, .le 0, .co [1, 1, 1]] [(1, .pointer (some (⟨g1, 0, none⟩))), (5, .bool (n_.Kind == 3)), (6, .bool (decide (n_.Kind ≥ 4))), (69, .bool (n_.Parent == 0))] (by kernel_rfl) ?_
                        rcases condT hp47 with ⟨hb66, hp47⟩ | ⟨hb66, hp47⟩
                        · rw [hb66]
                          refine seg 2 [.op [1, 1, 0] 53, .le 0, .co [1, 1, 1]] [(1, .pointer (some (⟨g1, 0, none⟩))), (6, .bool (decide (n_.Kind ≥ 4))), (69, .bool true), (71, .bool (n_.Kind == 3))] (by kernel_rfl) ?_
                          rcases condT hp47 with ⟨hb67, hp47⟩ | ⟨hb67, hp47⟩
                          · rw [hb67]
                            refine seg 8 [.op [1, 1, 0] 61, .le 0, .co [1, 1, 1]] [(1, .pointer (some (⟨g1, 0, none⟩))), (77, .bool true), (79, .bool (decide (n_.Kind ≥ 4)))] (by kernel_rfl) ?_
                            rcases condT hp47 with ⟨hb68, hp47⟩ | ⟨hb68, hp47⟩
                            · rw [hb68]
                              have p68 := of_decide_eq_true hb68
                              refine seg 7 [.le 0, .co [1, 1, 1]] [(2, .bool true)] (by kernel_rfl) ?_
                              refine leJ (true) ⟨hp47.symm, (St.takeN 0 H)⟩ (by kernel_rfl)
                            · rw [hb68]
                              have p68 := of_decide_eq_false hb68
                              refine seg 1 [.op [1, 1, 0] 62, .le 0, .co [1, 1, 1]] [(77, .bool true), (79, .bool false), (80, .pointer (some (⟨g1, 17, none⟩)))] (by kernel_rfl) ?_
                              refine st (ldR (some 81) 3 (⟨g1, 17, none⟩) (.int .i64 n_.Dev) (by kernel_rfl) (by kernel_rfl) (H.cellB 0 rfl rfl) ?_)
                              refine seg 5 [.le 0, .co [1, 1, 1]] [(2, .bool (n_.Dev == 0))] (by kernel_rfl) ?_
                              refine leJ ((n_.Dev == 0)) ⟨hp47.symm, (St.takeN 0 H)⟩ (by kernel_rfl)
                          · rw [hb67]
                            refine seg 1 [.op [1, 1, 0] 54, .le 0, .co [1, 1, 1]] [(1, .pointer (some (⟨g1, 0, none⟩))), (6, .bool (decide (n_.Kind ≥ 4))), (69, .bool true), (71, .bool false), (72, .pointer (some (⟨g1, 16, none⟩)))] (by kernel_rfl) ?_
                            refine st (ldR (some 73) 9 (⟨g1, 16, none⟩) (.string ⟨n_.Target.toArray⟩) (by kernel_rfl) (by kernel_rfl) (H.cellB 0 rfl rfl) ?_)
                            refine seg 4 [.op [1, 1, 0] 59, .le 0, .co [1, 1, 1]] [(1, .pointer (some (⟨g1, 0, none⟩))), (6, .bool (decide (n_.Kind ≥ 4))), (77, .bool ((ByteArray.toList ⟨n_.Target.toArray⟩) == (ByteArray.toList ⟨([] : List UInt8).toArray⟩)))] (by kernel_rfl) ?_
                            rw [seq_raw n_.Target ([] : List UInt8)]
                            rcases condT hp47 with ⟨hb69, hp47⟩ | ⟨hb69, hp47⟩
                            · rw [hb69]
                              refine seg 2 [.op [1, 1, 0] 61, .le 0, .co [1, 1, 1]] [(1, .pointer (some (⟨g1, 0, none⟩))), (77, .bool true), (79, .bool (decide (n_.Kind ≥ 4)))] (by kernel_rfl) ?_
                              rcases condT hp47 with ⟨hb70, hp47⟩ | ⟨hb70, hp47⟩
                              · rw [hb70]
                                have p70 := of_decide_eq_true hb70
                                refine seg 7 [.le 0, .co [1, 1, 1]] [(2, .bool true)] (by kernel_rfl) ?_
                                refine leJ (true) ⟨hp47.symm, (St.takeN 0 H)⟩ (by kernel_rfl)
                              · rw [hb70]
                                have p70 := of_decide_eq_false hb70
                                refine seg 1 [.op [1, 1, 0] 62, .le 0, .co [1, 1, 1]] [(77, .bool true), (79, .bool false), (80, .pointer (some (⟨g1, 17, none⟩)))] (by kernel_rfl) ?_
                                refine st (ldR (some 81) 3 (⟨g1, 17, none⟩) (.int .i64 n_.Dev) (by kernel_rfl) (by kernel_rfl) (H.cellB 0 rfl rfl) ?_)
                                refine seg 5 [.le 0, .co [1, 1, 1]] [(2, .bool (n_.Dev == 0))] (by kernel_rfl) ?_
                                refine leJ ((n_.Dev == 0)) ⟨hp47.symm, (St.takeN 0 H)⟩ (by kernel_rfl)
                            · rw [hb69]
                              refine seg 9 [.le 0, .co [1, 1, 1]] [(2, .bool false)] (by kernel_rfl) ?_
                              refine leJ (false) ⟨hp47.symm, (St.takeN 0 H)⟩ (by kernel_rfl)
                        · rw [hb66]
                          refine seg 17 [.le 0, .co [1, 1, 1]] [(2, .bool false)] (by kernel_rfl) ?_
                          refine leJ (false) ⟨hp47.symm, (St.takeN 0 H)⟩ (by kernel_rfl)
                      · rw [hb65]
                        refine seg 24 [.le 0, .co [1, 1, 1]] [(2, .bool false)] (by kernel_rfl) ?_
                        refine leJ (false) ⟨hp47.symm, (St.takeN 0 H)⟩ (by kernel_rfl)
                    · rw [hb64]
                      refine seg 29 [.le 0, .co [1, 1, 1]] [(2, .bool false)] (by kernel_rfl) ?_
                      refine leJ (false) ⟨hp47.symm, (St.takeN 0 H)⟩ (by kernel_rfl)
                · rw [hb60]
                  refine seg 35 [.le 0, .co [1, 1, 1]] [(2, .bool false)] (by kernel_rfl) ?_
                  refine leJ (false) ⟨hp47.symm, (St.takeN 0 H)⟩ (by kernel_rfl)
              · rw [hb59]
                refine seg 41 [.le 0, .co [1, 1, 1]] [(2, .bool false)] (by kernel_rfl) ?_
                refine leJ (false) ⟨hp47.symm, (St.takeN 0 H)⟩ (by kernel_rfl)
            · rw [hb58]
              refine seg 46 [.le 0, .co [1, 1, 1]] [(2, .bool false)] (by kernel_rfl) ?_
              refine leJ (false) ⟨hp47.symm, (St.takeN 0 H)⟩ (by kernel_rfl)
          · rw [hb57]
            refine seg 51 [.le 0, .co [1, 1, 1]] [(2, .bool false)] (by kernel_rfl) ?_
            refine leJ (false) ⟨hp47.symm, (St.takeN 0 H)⟩ (by kernel_rfl)
        · rw [hb56]
          refine seg 57 [.le 0, .co [1, 1, 1]] [(2, .bool false)] (by kernel_rfl) ?_
          refine leJ (false) ⟨hp47.symm, (St.takeN 0 H)⟩ (by kernel_rfl)
      · rw [hb55]
        refine seg 62 [.le 0, .co [1, 1, 1]] [(2, .bool false)] (by kernel_rfl) ?_
        refine leJ (false) ⟨hp47.symm, (St.takeN 0 H)⟩ (by kernel_rfl)
  rintro t wj47 ⟨hy47, H⟩
  rw [hy47] at hf
  refine retR [2] [.bool t] (by kernel_rfl) (by kernel_rfl) (by kernel_rfl) ?_
  have hret := hf
  subst hret
  exact ⟨_, rfl, rfl, H.scalar⟩
theorem inode_Check_c {m : Mem} {w : World} (hm : Has m w) (n_ : TApiInode) (A0_9 : Option Addr) (c0_9 : Nat) (s0_9 : SlI rI64 m A0_9 c0_9 n_.Words) (l0_16 : n_.Target.length ≤ 9223372036854775807) {r : Int} (hf : inode_Check n_ = some r) :
    Calls Try.prog 28 #[.agg #[.int .i64 n_.Kind, .int .i64 n_.Mode, .int .i64 n_.Uid, .int .i64 n_.Gid, .int .i64 n_.Time, .int .i64 n_.Links, .int .i64 n_.Attrs, .int .i64 n_.Size, .int .i64 n_.Start, .slice A0_9 n_.Words.length c0_9, .int .i64 n_.Frag, .int .i64 n_.Off, .int .i64 n_.Tail, .int .i64 n_.Dir, .int .i64 n_.Bytes, .int .i64 n_.Parent, .string ⟨n_.Target.toArray⟩, .int .i64 n_.Dev]] w fun e w' => ∃ v, e = .returned v ∧ v = .int .i64 r ∧ Ex w w' := by
  unfold inode_Check at hf
  have H := St.start0 hm
  refine callsR Try.func28 (by kernel_rfl) (by kernel_rfl) ?_
  refine seg 2 [.op [0] 0, .co [1]] [(0, .agg #[.int .i64 n_.Kind, .int .i64 n_.Mode, .int .i64 n_.Uid, .int .i64 n_.Gid, .int .i64 n_.Time, .int .i64 n_.Links, .int .i64 n_.Attrs, .int .i64 n_.Size, .int .i64 n_.Start, .slice A0_9 n_.Words.length c0_9, .int .i64 n_.Frag, .int .i64 n_.Off, .int .i64 n_.Tail, .int .i64 n_.Dir, .int .i64 n_.Bytes, .int .i64 n_.Parent, .string ⟨n_.Target.toArray⟩, .int .i64 n_.Dev])] (by kernel_rfl) ?_
  refine st (newS (some 1) (fun g => .pointer (some ⟨g, 0, none⟩)) [.int .i64 n_.Kind, .int .i64 n_.Mode, .int .i64 n_.Uid, .int .i64 n_.Gid, .int .i64 n_.Time, .int .i64 n_.Links, .int .i64 n_.Attrs, .int .i64 n_.Size, .int .i64 n_.Start, .slice A0_9 n_.Words.length c0_9, .int .i64 n_.Frag, .int .i64 n_.Off, .int .i64 n_.Tail, .int .i64 n_.Dir, .int .i64 n_.Bytes, .int .i64 n_.Parent, .string ⟨n_.Target.toArray⟩, .int .i64 n_.Dev] 46 H (by kernel_rfl) ?_)
  intro g1 w1 H
  refine seg 6 [.op [1, 0, 0] 1, .co [1, 0, 1], .co [1, 1]] [(1, .pointer (some (⟨g1, 0, none⟩))), (4, .pointer (some (⟨g1, 0, none⟩)))] (by kernel_rfl) ?_
  refine st (ldR (some 5) 3 (⟨g1, 0, none⟩) (.int .i64 n_.Kind) (by kernel_rfl) (by kernel_rfl) (H.cellB 0 rfl rfl) ?_)
  refine st (callR (some 6) 54 #[.int .i64 n_.Kind, .int .i64 1, .int .i64 5] Try.call54 (inode_between_c H.has n_.Kind 1 5) (by kernel_rfl) ?_)
  rintro _ w2 ⟨rfl, hx2⟩
  replace H := H.ex hx2
  refine seg 2 [.co [1, 0, 1], .co [1, 1]] [(1, .pointer (some (⟨g1, 0, none⟩))), (7, .bool (!(inode_between n_.Kind 1 5)))] (by kernel_rfl) ?_
  rcases condT hf with ⟨hb4, hf⟩ | ⟨hb4, hf⟩
  · rw [hb4]
    refine seg 3 [.co [1, 1, 0], .co [1, 1, 1]] [(1, .pointer (some (⟨g1, 0, none⟩)))] (by kernel_rfl) ?_
    obtain ⟨y118, hp118, hf⟩ := ltE hf
    refine joinR 0 (fun (x : Bool) => [(1, .pointer (some (⟨g1, 0, none⟩))), (3, .bool x)]) (fun (x : Bool) (wj118 : World) => y118 = x ∧ St w noF m m [blkI g1 [.int .i64 n_.Kind, .int .i64 n_.Mode, .int .i64 n_.Uid, .int .i64 n_.Gid, .int .i64 n_.Time, .int .i64 n_.Links, .int .i64 n_.Attrs, .int .i64 n_.Size, .int .i64 n_.Start, .slice A0_9 n_.Words.length c0_9, .int .i64 n_.Frag, .int .i64 n_.Off, .int .i64 n_.Tail, .int .i64 n_.Dir, .int .i64 n_.Bytes, .int .i64 n_.Parent, .string ⟨n_.Target.toArray⟩, .int .i64 n_.Dev] 46] wj118) (by kernel_rfl) ?_ ?_
    · refine seg 2 [.op [1, 1, 0] 1, .le 0, .co [1, 1, 1]] [(1, .pointer (some (⟨g1, 0, none⟩))), (8, .pointer (some (⟨g1, 1, none⟩)))] (by kernel_rfl) ?_
      refine st (ldR (some 9) 3 (⟨g1, 1, none⟩) (.int .i64 n_.Mode) (by kernel_rfl) (by kernel_rfl) (H.cellB 0 rfl rfl) ?_)
      refine st (callR (some 10) 54 #[.int .i64 n_.Mode, .int .i64 0, .int .i64 4095] Try.call54 (inode_between_c H.has n_.Mode 0 4095) (by kernel_rfl) ?_)
      rintro _ w120 ⟨rfl, hx120⟩
      replace H := H.ex hx120
      refine seg 1 [.op [1, 1, 0] 4, .le 0, .co [1, 1, 1]] [(1, .pointer (some (⟨g1, 0, none⟩))), (11, .bool (inode_between n_.Mode 0 4095))] (by kernel_rfl) ?_
      rcases condT hp118 with ⟨hb121, hp118⟩ | ⟨hb121, hp118⟩
      · rw [hb121]
        refine seg 1 [.op [1, 1, 0] 5, .le 0, .co [1, 1, 1]] [(1, .pointer (some (⟨g1, 0, none⟩))), (11, .bool true), (12, .pointer (some (⟨g1, 4, none⟩)))] (by kernel_rfl) ?_
        refine st (ldR (some 13) 3 (⟨g1, 4, none⟩) (.int .i64 n_.Time) (by kernel_rfl) (by kernel_rfl) (H.cellB 0 rfl rfl) ?_)
        refine st (callR (some 14) 54 #[.int .i64 n_.Time, .int .i64 0, .int .i64 4294967295] Try.call54 (inode_between_c H.has n_.Time 0 4294967295) (by kernel_rfl) ?_)
        rintro _ w122 ⟨rfl, hx122⟩
        replace H := H.ex hx122
        refine seg 2 [.op [1, 1, 0] 9, .le 0, .co [1, 1, 1]] [(1, .pointer (some (⟨g1, 0, none⟩))), (16, .bool (inode_between n_.Time 0 4294967295))] (by kernel_rfl) ?_
        rcases condT hp118 with ⟨hb123, hp118⟩ | ⟨hb123, hp118⟩
        · rw [hb123]
          refine seg 1 [.op [1, 1, 0] 10, .le 0, .co [1, 1, 1]] [(1, .pointer (some (⟨g1, 0, none⟩))), (16, .bool true), (17, .pointer (some (⟨g1, 2, none⟩)))] (by kernel_rfl) ?_
          refine st (ldR (some 18) 3 (⟨g1, 2, none⟩) (.int .i64 n_.Uid) (by kernel_rfl) (by kernel_rfl) (H.cellB 0 rfl rfl) ?_)
          refine st (callR (some 19) 54 #[.int .i64 n_.Uid, .int .i64 0, .int .i64 65535] Try.call54 (inode_between_c H.has n_.Uid 0 65535) (by kernel_rfl) ?_)
          rintro _ w124 ⟨rfl, hx124⟩
          replace H := H.ex hx124
          refine seg 2 [.op [1, 1, 0] 14, .le 0, .co [1, 1, 1]] [(1, .pointer (some (⟨g1, 0, none⟩))), (21, .bool (inode_between n_.Uid 0 65535))] (by kernel_rfl) ?_
          rcases condT hp118 with ⟨hb125, hp118⟩ | ⟨hb125, hp118⟩
          · rw [hb125]
            refine seg 1 [.op [1, 1, 0] 15, .le 0, .co [1, 1, 1]] [(1, .pointer (some (⟨g1, 0, none⟩))), (21, .bool true), (22, .pointer (some (⟨g1, 3, none⟩)))] (by kernel_rfl) ?_
            replace H : St w noF m m [blkI g1 [.int .i64 n_.Kind, .int .i64 n_.Mode, .int .i64 n_.Uid, .int .i64 n_.Gid, .int .i64 n_.Time, .int .i64 n_.Links, .int .i64 n_.Attrs, .int .i64 n_.Size, .int .i64 n_.Start, .slice A0_9 n_.Words.length c0_9, .int .i64 n_.Frag, .int .i64 n_.Off, .int .i64 n_.Tail, .int .i64 n_.Dir, .int .i64 n_.Bytes, .int .i64 n_.Parent, .string ⟨n_.Target.toArray⟩, .int .i64 n_.Dev] 46] w124 := H
            refine st (ldR (some 23) 3 (⟨g1, 3, none⟩) (.int .i64 n_.Gid) (by kernel_rfl) (by kernel_rfl) (H.cellB 0 rfl rfl) ?_)
            refine st (callR (some 24) 54 #[.int .i64 n_.Gid, .int .i64 0, .int .i64 65535] Try.call54 (inode_between_c H.has n_.Gid 0 65535) (by kernel_rfl) ?_)
            rintro _ w126 ⟨rfl, hx126⟩
            replace H := H.ex hx126
            refine seg 2 [.op [1, 1, 0] 19, .le 0, .co [1, 1, 1]] [(1, .pointer (some (⟨g1, 0, none⟩))), (26, .bool (inode_between n_.Gid 0 65535))] (by kernel_rfl) ?_
            rcases condT hp118 with ⟨hb127, hp118⟩ | ⟨hb127, hp118⟩
            · rw [hb127]
              refine seg 1 [.op [1, 1, 0] 20, .le 0, .co [1, 1, 1]] [(1, .pointer (some (⟨g1, 0, none⟩))), (26, .bool true), (27, .pointer (some (⟨g1, 5, none⟩)))] (by kernel_rfl) ?_
              refine st (ldR (some 28) 3 (⟨g1, 5, none⟩) (.int .i64 n_.Links) (by kernel_rfl) (by kernel_rfl) (H.cellB 0 rfl rfl) ?_)
              refine st (callR (some 29) 54 #[.int .i64 n_.Links, .int .i64 1, .int .i64 4294967295] Try.call54 (inode_between_c H.has n_.Links 1 4294967295) (by kernel_rfl) ?_)
              rintro _ w128 ⟨rfl, hx128⟩
              replace H := H.ex hx128
              refine seg 2 [.op [1, 1, 0] 24, .le 0, .co [1, 1, 1]] [(1, .pointer (some (⟨g1, 0, none⟩))), (31, .bool (inode_between n_.Links 1 4294967295))] (by kernel_rfl) ?_
              rcases condT hp118 with ⟨hb129, hp118⟩ | ⟨hb129, hp118⟩
              · rw [hb129]
                refine seg 1 [.op [1, 1, 0] 25, .le 0, .co [1, 1, 1]] [(1, .pointer (some (⟨g1, 0, none⟩))), (31, .bool true), (32, .pointer (some (⟨g1, 6, none⟩)))] (by kernel_rfl) ?_
                refine st (ldR (some 33) 3 (⟨g1, 6, none⟩) (.int .i64 n_.Attrs) (by kernel_rfl) (by kernel_rfl) (H.cellB 0 rfl rfl) ?_)
                refine st (callR (some 34) 54 #[.int .i64 n_.Attrs, .int .i64 (-1), .int .i64 16777216] Try.call54 (inode_between_c H.has n_.Attrs (-1) 16777216) (by kernel_rfl) ?_)
                rintro _ w130 ⟨rfl, hx130⟩
                replace H := H.ex hx130
                refine seg 3 [.le 0, .co [1, 1, 1]] [(1, .pointer (some (⟨g1, 0, none⟩))), (3, .bool (inode_between n_.Attrs (-1) 16777216))] (by kernel_rfl) ?_
                refine leJ ((inode_between n_.Attrs (-1) 16777216)) ⟨hp118.symm, H⟩ (by kernel_rfl)
              · rw [hb129]
                refine seg 6 [.le 0, .co [1, 1, 1]] [(1, .pointer (some (⟨g1, 0, none⟩))), (3, .bool false)] (by kernel_rfl) ?_
                refine leJ (false) ⟨hp118.symm, H⟩ (by kernel_rfl)
            · rw [hb127]
              refine seg 11 [.le 0, .co [1, 1, 1]] [(1, .pointer (some (⟨g1, 0, none⟩))), (3, .bool false)] (by kernel_rfl) ?_
              refine leJ (false) ⟨hp118.symm, H⟩ (by kernel_rfl)
          · rw [hb125]
            refine seg 16 [.le 0, .co [1, 1, 1]] [(1, .pointer (some (⟨g1, 0, none⟩))), (3, .bool false)] (by kernel_rfl) ?_
            refine leJ (false) ⟨hp118.symm, H⟩ (by kernel_rfl)
        · rw [hb123]
          refine seg 21 [.le 0, .co [1, 1, 1]] [(1, .pointer (some (⟨g1, 0, none⟩))), (3, .bool false)] (by kernel_rfl) ?_
          refine leJ (false) ⟨hp118.symm, H⟩ (by kernel_rfl)
      · rw [hb121]
        refine seg 26 [.le 0, .co [1, 1, 1]] [(1, .pointer (some (⟨g1, 0, none⟩))), (3, .bool false)] (by kernel_rfl) ?_
        refine leJ (false) ⟨hp118.symm, H⟩ (by kernel_rfl)
    rintro ok wj118 ⟨hy118, H⟩
    rw [hy118] at hf
    refine seg 4 [.op [1, 1, 1, 0, 0] 1, .co [1, 1, 1, 0, 1], .co [1, 1, 1, 1]] [(1, .pointer (some (⟨g1, 0, none⟩))), (3, .bool ok), (36, .pointer (some (⟨g1, 0, none⟩)))] (by kernel_rfl) ?_
    refine st (ldR (some 37) 3 (⟨g1, 0, none⟩) (.int .i64 n_.Kind) (by kernel_rfl) (by kernel_rfl) (H.cellB 0 rfl rfl) ?_)
    refine seg 1 [.co [1, 1, 1, 0, 1], .co [1, 1, 1, 1]] [(1, .pointer (some (⟨g1, 0, none⟩))), (3, .bool ok), (37, .int .i64 n_.Kind)] (by kernel_rfl) ?_
    obtain ⟨y145, hp145, hf⟩ := bindE hf
    refine joinR 0 (fun (x : Bool) => [(1, .pointer (some (⟨g1, 0, none⟩))), (3, .bool x)]) (fun (x : Bool) (wj145 : World) => y145 = x ∧ St w noF m m [blkI g1 [.int .i64 n_.Kind, .int .i64 n_.Mode, .int .i64 n_.Uid, .int .i64 n_.Gid, .int .i64 n_.Time, .int .i64 n_.Links, .int .i64 n_.Attrs, .int .i64 n_.Size, .int .i64 n_.Start, .slice A0_9 n_.Words.length c0_9, .int .i64 n_.Frag, .int .i64 n_.Off, .int .i64 n_.Tail, .int .i64 n_.Dir, .int .i64 n_.Bytes, .int .i64 n_.Parent, .string ⟨n_.Target.toArray⟩, .int .i64 n_.Dev] 46] wj145) (by kernel_rfl) ?_ ?_
    · refine seg 17 [.co [1, 1, 1, 0, 1, 0, 0, 0, 0, 0, 0, 0, 0, 0, 0, 0, 0, 1], .co [1, 1, 1, 0, 1, 0, 0, 0, 0, 0, 0, 0, 0, 0, 0, 0, 1], .co [1, 1, 1, 0, 1, 0, 0, 0, 0, 0, 0, 0, 0, 0, 0, 1], .bl 1, .co [1, 1, 1, 0, 1, 0, 0, 0, 0, 0, 0, 0, 0, 1], .bl 2, .co [1, 1, 1, 0, 1, 0, 0, 0, 0, 0, 0, 1], .bl 3, .co [1, 1, 1, 0, 1, 0, 0, 0, 0, 1], .bl 4, .bl 5, .co [1, 1, 1, 0, 1, 0, 1], .bl 0, .le 0, .co [1, 1, 1, 1]] [(1, .pointer (some (⟨g1, 0, none⟩))), (3, .bool ok), (37, .int .i64 n_.Kind), (38, .bool (n_.Kind == 1))] (by kernel_rfl) ?_
      rcases condT hp145 with ⟨hb147, hp145⟩ | ⟨hb147, hp145⟩
      · rw [hb147]
        refine seg 6 [.op [1, 1, 1, 0, 1, 0, 0, 0, 0, 0, 0, 0, 0, 1, 0] 2, .co [1, 1, 1, 0, 1, 0, 0, 0, 0, 0, 0, 0, 0, 1, 1], .bl 2, .co [1, 1, 1, 0, 1, 0, 0, 0, 0, 0, 0, 1], .bl 3, .co [1, 1, 1, 0, 1, 0, 0, 0, 0, 1], .bl 4, .bl 5, .co [1, 1, 1, 0, 1, 0, 1], .bl 0, .le 0, .co [1, 1, 1, 1]] [(1, .pointer (some (⟨g1, 0, none⟩))), (47, .bool ok)] (by kernel_rfl) ?_
        rcases condT hp145 with ⟨hb148, hp145⟩ | ⟨hb148, hp145⟩
        · rw [hb148]
          replace H : St w noF m m [blkI g1 [.int .i64 n_.Kind, .int .i64 n_.Mode, .int .i64 n_.Uid, .int .i64 n_.Gid, .int .i64 n_.Time, .int .i64 n_.Links, .int .i64 n_.Attrs, .int .i64 n_.Size, .int .i64 n_.Start, .slice A0_9 n_.Words.length c0_9, .int .i64 n_.Frag, .int .i64 n_.Off, .int .i64 n_.Tail, .int .i64 n_.Dir, .int .i64 n_.Bytes, .int .i64 n_.Parent, .string ⟨n_.Target.toArray⟩, .int .i64 n_.Dev] 46] wj118 := H
          refine st (ldAggR (some 48) 46 (⟨g1, 0, none⟩) [.int .i64 n_.Kind, .int .i64 n_.Mode, .int .i64 n_.Uid, .int .i64 n_.Gid, .int .i64 n_.Time, .int .i64 n_.Links, .int .i64 n_.Attrs, .int .i64 n_.Size, .int .i64 n_.Start, .slice A0_9 n_.Words.length c0_9, .int .i64 n_.Frag, .int .i64 n_.Off, .int .i64 n_.Tail, .int .i64 n_.Dir, .int .i64 n_.Bytes, .int .i64 n_.Parent, .string ⟨n_.Target.toArray⟩, .int .i64 n_.Dev] (by kernel_rfl) (by kernel_rfl) (H.cellsB 0 rfl (by rfl)) ?_)
          obtain ⟨file, h_file, hp145⟩ := bindE hp145
          refine st (callR (some 49) 61 #[.agg #[.int .i64 n_.Kind, .int .i64 n_.Mode, .int .i64 n_.Uid, .int .i64 n_.Gid, .int .i64 n_.Time, .int .i64 n_.Links, .int .i64 n_.Attrs, .int .i64 n_.Size, .int .i64 n_.Start, .slice A0_9 n_.Words.length c0_9, .int .i64 n_.Frag, .int .i64 n_.Off, .int .i64 n_.Tail, .int .i64 n_.Dir, .int .i64 n_.Bytes, .int .i64 n_.Parent, .string ⟨n_.Target.toArray⟩, .int .i64 n_.Dev]] Try.call61 (inode_file_c H.has n_ A0_9 c0_9 s0_9 l0_16 h_file) (by kernel_rfl) ?_)
          rintro _ w149 ⟨rfl, hx149⟩
          replace H := H.ex hx149
          refine seg 4 [.le 0, .co [1, 1, 1, 1]] [(1, .pointer (some (⟨g1, 0, none⟩))), (3, .bool file)] (by kernel_rfl) ?_
          refine leJ (file) ⟨(Option.some.inj hp145).symm, H⟩ (by kernel_rfl)
        · rw [hb148]
          refine seg 6 [.le 0, .co [1, 1, 1, 1]] [(1, .pointer (some (⟨g1, 0, none⟩))), (3, .bool false)] (by kernel_rfl) ?_
          refine leJ (false) ⟨(Option.some.inj hp145).symm, H⟩ (by kernel_rfl)
      · rw [hb147]
        refine seg 8 [.co [1, 1, 1, 0, 1, 0, 0, 0, 0, 0, 0, 0, 0, 0, 0, 0, 1, 0, 1], .co [1, 1, 1, 0, 1, 0, 0, 0, 0, 0, 0, 0, 0, 0, 0, 0, 1, 1], .co [1, 1, 1, 0, 1, 0, 0, 0, 0, 0, 0, 0, 0, 0, 0, 1], .bl 1, .co [1, 1, 1, 0, 1, 0, 0, 0, 0, 0, 0, 0, 0, 1], .bl 2, .co [1, 1, 1, 0, 1, 0, 0, 0, 0, 0, 0, 1], .bl 3, .co [1, 1, 1, 0, 1, 0, 0, 0, 0, 1], .bl 4, .bl 5, .co [1, 1, 1, 0, 1, 0, 1], .bl 0, .le 0, .co [1, 1, 1, 1]] [(1, .pointer (some (⟨g1, 0, none⟩))), (3, .bool ok), (37, .int .i64 n_.Kind), (40, .bool (n_.Kind == 2))] (by kernel_rfl) ?_
        rcases condT hp145 with ⟨hb150, hp145⟩ | ⟨hb150, hp145⟩
        · rw [hb150]
          refine seg 6 [.op [1, 1, 1, 0, 1, 0, 0, 0, 0, 0, 0, 1, 0] 2, .co [1, 1, 1, 0, 1, 0, 0, 0, 0, 0, 0, 1, 1], .bl 3, .co [1, 1, 1, 0, 1, 0, 0, 0, 0, 1], .bl 4, .bl 5, .co [1, 1, 1, 0, 1, 0, 1], .bl 0, .le 0, .co [1, 1, 1, 1]] [(1, .pointer (some (⟨g1, 0, none⟩))), (52, .bool ok)] (by kernel_rfl) ?_
          rcases condT hp145 with ⟨hb151, hp145⟩ | ⟨hb151, hp145⟩
          · rw [hb151]
            refine st (ldAggR (some 53) 46 (⟨g1, 0, none⟩) [.int .i64 n_.Kind, .int .i64 n_.Mode, .int .i64 n_.Uid, .int .i64 n_.Gid, .int .i64 n_.Time, .int .i64 n_.Links, .int .i64 n_.Attrs, .int .i64 n_.Size, .int .i64 n_.Start, .slice A0_9 n_.Words.length c0_9, .int .i64 n_.Frag, .int .i64 n_.Off, .int .i64 n_.Tail, .int .i64 n_.Dir, .int .i64 n_.Bytes, .int .i64 n_.Parent, .string ⟨n_.Target.toArray⟩, .int .i64 n_.Dev] (by kernel_rfl) (by kernel_rfl) (H.cellsB 0 rfl (by rfl)) ?_)
            refine st (callR (some 54) 62 #[.agg #[.int .i64 n_.Kind, .int .i64 n_.Mode, .int .i64 n_.Uid, .int .i64 n_.Gid, .int .i64 n_.Time, .int .i64 n_.Links, .int .i64 n_.Attrs, .int .i64 n_.Size, .int .i64 n_.Start, .slice A0_9 n_.Words.length c0_9, .int .i64 n_.Frag, .int .i64 n_.Off, .int .i64 n_.Tail, .int .i64 n_.Dir, .int .i64 n_.Bytes, .int .i64 n_.Parent, .string ⟨n_.Target.toArray⟩, .int .i64 n_.Dev]] Try.call62 (inode_dir_c H.has n_ A0_9 c0_9 s0_9 l0_16) (by kernel_rfl) ?_)
            rintro _ w152 ⟨rfl, hx152⟩
            replace H := H.ex hx152
            refine seg 4 [.le 0, .co [1, 1, 1, 1]] [(1, .pointer (some (⟨g1, 0, none⟩))), (3, .bool (inode_dir n_))] (by kernel_rfl) ?_
            refine leJ ((inode_dir n_)) ⟨(Option.some.inj hp145).symm, H⟩ (by kernel_rfl)
          · rw [hb151]
            refine seg 6 [.le 0, .co [1, 1, 1, 1]] [(1, .pointer (some (⟨g1, 0, none⟩))), (3, .bool false)] (by kernel_rfl) ?_
            refine leJ (false) ⟨(Option.some.inj hp145).symm, H⟩ (by kernel_rfl)
        · rw [hb150]
          refine seg 8 [.co [1, 1, 1, 0, 1, 0, 0, 0, 0, 0, 0, 0, 0, 0, 0, 0, 1, 1, 0, 1], .co [1, 1, 1, 0, 1, 0, 0, 0, 0, 0, 0, 0, 0, 0, 0, 0, 1, 1, 1], .co [1, 1, 1, 0, 1, 0, 0, 0, 0, 0, 0, 0, 0, 0, 0, 1], .bl 1, .co [1, 1, 1, 0, 1, 0, 0, 0, 0, 0, 0, 0, 0, 1], .bl 2, .co [1, 1, 1, 0, 1, 0, 0, 0, 0, 0, 0, 1], .bl 3, .co [1, 1, 1, 0, 1, 0, 0, 0, 0, 1], .bl 4, .bl 5, .co [1, 1, 1, 0, 1, 0, 1], .bl 0, .le 0, .co [1, 1, 1, 1]] [(1, .pointer (some (⟨g1, 0, none⟩))), (3, .bool ok), (37, .int .i64 n_.Kind), (42, .bool (n_.Kind == 3))] (by kernel_rfl) ?_
          rcases condT hp145 with ⟨hb153, hp145⟩ | ⟨hb153, hp145⟩
          · rw [hb153]
            refine seg 6 [.op [1, 1, 1, 0, 1, 0, 0, 0, 0, 1, 0] 2, .co [1, 1, 1, 0, 1, 0, 0, 0, 0, 1, 1], .bl 4, .bl 5, .co [1, 1, 1, 0, 1, 0, 1], .bl 0, .le 0, .co [1, 1, 1, 1]] [(1, .pointer (some (⟨g1, 0, none⟩))), (57, .bool ok)] (by kernel_rfl) ?_
            rcases condT hp145 with ⟨hb154, hp145⟩ | ⟨hb154, hp145⟩
            · rw [hb154]
              refine st (ldAggR (some 58) 46 (⟨g1, 0, none⟩) [.int .i64 n_.Kind, .int .i64 n_.Mode, .int .i64 n_.Uid, .int .i64 n_.Gid, .int .i64 n_.Time, .int .i64 n_.Links, .int .i64 n_.Attrs, .int .i64 n_.Size, .int .i64 n_.Start, .slice A0_9 n_.Words.length c0_9, .int .i64 n_.Frag, .int .i64 n_.Off, .int .i64 n_.Tail, .int .i64 n_.Dir, .int .i64 n_.Bytes, .int .i64 n_.Parent, .string ⟨n_.Target.toArray⟩, .int .i64 n_.Dev] (by kernel_rfl) (by kernel_rfl) (H.cellsB 0 rfl (by rfl)) ?_)
              refine st (callR (some 59) 63 #[.agg #[.int .i64 n_.Kind, .int .i64 n_.Mode, .int .i64 n_.Uid, .int .i64 n_.Gid, .int .i64 n_.Time, .int .i64 n_.Links, .int .i64 n_.Attrs, .int .i64 n_.Size, .int .i64 n_.Start, .slice A0_9 n_.Words.length c0_9, .int .i64 n_.Frag, .int .i64 n_.Off, .int .i64 n_.Tail, .int .i64 n_.Dir, .int .i64 n_.Bytes, .int .i64 n_.Parent, .string ⟨n_.Target.toArray⟩, .int .i64 n_.Dev]] Try.call63 (inode_link_c H.has n_ A0_9 c0_9 s0_9 l0_16) (by kernel_rfl) ?_)
              rintro _ w155 ⟨rfl, hx155⟩
              replace H := H.ex hx155
              refine seg 4 [.le 0, .co [1, 1, 1, 1]] [(1, .pointer (some (⟨g1, 0, none⟩))), (3, .bool (inode_link n_))] (by kernel_rfl) ?_
              refine leJ ((inode_link n_)) ⟨(Option.some.inj hp145).symm, H⟩ (by kernel_rfl)
            · rw [hb154]
              refine seg 6 [.le 0, .co [1, 1, 1, 1]] [(1, .pointer (some (⟨g1, 0, none⟩))), (3, .bool false)] (by kernel_rfl) ?_
              refine leJ (false) ⟨(Option.some.inj hp145).symm, H⟩ (by kernel_rfl)
          · rw [hb153]
            refine seg 7 [.co [1, 1, 1, 0, 1, 0, 0, 0, 0, 0, 0, 0, 0, 0, 0, 0, 1, 1, 1, 1], .co [1, 1, 1, 0, 1, 0, 0, 0, 0, 0, 0, 0, 0, 0, 0, 1], .bl 1, .co [1, 1, 1, 0, 1, 0, 0, 0, 0, 0, 0, 0, 0, 1], .bl 2, .co [1, 1, 1, 0, 1, 0, 0, 0, 0, 0, 0, 1], .bl 3, .co [1, 1, 1, 0, 1, 0, 0, 0, 0, 1], .bl 4, .bl 5, .co [1, 1, 1, 0, 1, 0, 1], .bl 0, .le 0, .co [1, 1, 1, 1]] [(1, .pointer (some (⟨g1, 0, none⟩))), (3, .bool ok), (44, .bool (n_.Kind == 4))] (by kernel_rfl) ?_
            rcases condT hp145 with ⟨hb156, hp145⟩ | ⟨hb156, hp145⟩
            · rw [hb156]
              refine seg 7 [.op [1, 1, 1, 0, 1, 0, 1, 0] 2, .co [1, 1, 1, 0, 1, 0, 1, 1], .bl 0, .le 0, .co [1, 1, 1, 1]] [(1, .pointer (some (⟨g1, 0, none⟩))), (62, .bool ok)] (by kernel_rfl) ?_
              rcases condT hp145 with ⟨hb157, hp145⟩ | ⟨hb157, hp145⟩
              · rw [hb157]
                refine st (ldAggR (some 63) 46 (⟨g1, 0, none⟩) [.int .i64 n_.Kind, .int .i64 n_.Mode, .int .i64 n_.Uid, .int .i64 n_.Gid, .int .i64 n_.Time, .int .i64 n_.Links, .int .i64 n_.Attrs, .int .i64 n_.Size, .int .i64 n_.Start, .slice A0_9 n_.Words.length c0_9, .int .i64 n_.Frag, .int .i64 n_.Off, .int .i64 n_.Tail, .int .i64 n_.Dir, .int .i64 n_.Bytes, .int .i64 n_.Parent, .string ⟨n_.Target.toArray⟩, .int .i64 n_.Dev] (by kernel_rfl) (by kernel_rfl) (H.cellsB 0 rfl (by rfl)) ?_)
                refine st (callR (some 64) 64 #[.agg #[.int .i64 n_.Kind, .int .i64 n_.Mode, .int .i64 n_.Uid, .int .i64 n_.Gid, .int .i64 n_.Time, .int .i64 n_.Links, .int .i64 n_.Attrs, .int .i64 n_.Size, .int .i64 n_.Start, .slice A0_9 n_.Words.length c0_9, .int .i64 n_.Frag, .int .i64 n_.Off, .int .i64 n_.Tail, .int .i64 n_.Dir, .int .i64 n_.Bytes, .int .i64 n_.Parent, .string ⟨n_.Target.toArray⟩, .int .i64 n_.Dev]] Try.call64 (inode_device_c H.has n_ A0_9 c0_9 s0_9 l0_16) (by kernel_rfl) ?_)
                rintro _ w158 ⟨rfl, hx158⟩
                replace H := H.ex hx158
                refine seg 4 [.le 0, .co [1, 1, 1, 1]] [(1, .pointer (some (⟨g1, 0, none⟩))), (3, .bool (inode_device n_))] (by kernel_rfl) ?_
                refine leJ ((inode_device n_)) ⟨(Option.some.inj hp145).symm, H⟩ (by kernel_rfl)
              · rw [hb157]
                refine seg 6 [.le 0, .co [1, 1, 1, 1]] [(1, .pointer (some (⟨g1, 0, none⟩))), (3, .bool false)] (by kernel_rfl) ?_
                refine leJ (false) ⟨(Option.some.inj hp145).symm, H⟩ (by kernel_rfl)
            · rw [hb156]
              refine seg 7 [.op [1, 1, 1, 0, 1, 0, 1, 0] 2, .co [1, 1, 1, 0, 1, 0, 1, 1], .bl 0, .le 0, .co [1, 1, 1, 1]] [(1, .pointer (some (⟨g1, 0, none⟩))), (62, .bool ok)] (by kernel_rfl) ?_
              rcases condT hp145 with ⟨hb159, hp145⟩ | ⟨hb159, hp145⟩
              · rw [hb159]
                replace H : St w noF m m [blkI g1 [.int .i64 n_.Kind, .int .i64 n_.Mode, .int .i64 n_.Uid, .int .i64 n_.Gid, .int .i64 n_.Time, .int .i64 n_.Links, .int .i64 n_.Attrs, .int .i64 n_.Size, .int .i64 n_.Start, .slice A0_9 n_.Words.length c0_9, .int .i64 n_.Frag, .int .i64 n_.Off, .int .i64 n_.Tail, .int .i64 n_.Dir, .int .i64 n_.Bytes, .int .i64 n_.Parent, .string ⟨n_.Target.toArray⟩, .int .i64 n_.Dev] 46] wj118 := H
                refine st (ldAggR (some 63) 46 (⟨g1, 0, none⟩) [.int .i64 n_.Kind, .int .i64 n_.Mode, .int .i64 n_.Uid, .int .i64 n_.Gid, .int .i64 n_.Time, .int .i64 n_.Links, .int .i64 n_.Attrs, .int .i64 n_.Size, .int .i64 n_.Start, .slice A0_9 n_.Words.length c0_9, .int .i64 n_.Frag, .int .i64 n_.Off, .int .i64 n_.Tail, .int .i64 n_.Dir, .int .i64 n_.Bytes, .int .i64 n_.Parent, .string ⟨n_.Target.toArray⟩, .int .i64 n_.Dev] (by kernel_rfl) (by kernel_rfl) (H.cellsB 0 rfl (by rfl)) ?_)
                refine st (callR (some 64) 64 #[.agg #[.int .i64 n_.Kind, .int .i64 n_.Mode, .int .i64 n_.Uid, .int .i64 n_.Gid, .int .i64 n_.Time, .int .i64 n_.Links, .int .i64 n_.Attrs, .int .i64 n_.Size, .int .i64 n_.Start, .slice A0_9 n_.Words.length c0_9, .int .i64 n_.Frag, .int .i64 n_.Off, .int .i64 n_.Tail, .int .i64 n_.Dir, .int .i64 n_.Bytes, .int .i64 n_.Parent, .string ⟨n_.Target.toArray⟩, .int .i64 n_.Dev]] Try.call64 (inode_device_c H.has n_ A0_9 c0_9 s0_9 l0_16) (by kernel_rfl) ?_)
                rintro _ w160 ⟨rfl, hx160⟩
                replace H := H.ex hx160
                refine seg 4 [.le 0, .co [1, 1, 1, 1]] [(1, .pointer (some (⟨g1, 0, none⟩))), (3, .bool (inode_device n_))] (by kernel_rfl) ?_
                refine leJ ((inode_device n_)) ⟨(Option.some.inj hp145).symm, H⟩ (by kernel_rfl)
              · rw [hb159]
                refine seg 6 [.le 0, .co [1, 1, 1, 1]] [(1, .pointer (some (⟨g1, 0, none⟩))), (3, .bool false)] (by kernel_rfl) ?_
                refine leJ (false) ⟨(Option.some.inj hp145).symm, H⟩ (by kernel_rfl)
    rintro ok1 wj145 ⟨hy145, H⟩
    rw [hy145] at hf
    refine seg 6 [.op [1, 1, 1, 1, 0, 0] 3, .co [1, 1, 1, 1, 0, 1], .co [1, 1, 1, 1, 1]] [(1, .pointer (some (⟨g1, 0, none⟩))), (68, .bool (!ok1))] (by kernel_rfl) ?_
    rcases condT hf with ⟨hb161, hf⟩ | ⟨hb161, hf⟩
    · rw [hb161]
      refine st (ldAggR (some 69) 46 (⟨g1, 0, none⟩) [.int .i64 n_.Kind, .int .i64 n_.Mode, .int .i64 n_.Uid, .int .i64 n_.Gid, .int .i64 n_.Time, .int .i64 n_.Links, .int .i64 n_.Attrs, .int .i64 n_.Size, .int .i64 n_.Start, .slice A0_9 n_.Words.length c0_9, .int .i64 n_.Frag, .int .i64 n_.Off, .int .i64 n_.Tail, .int .i64 n_.Dir, .int .i64 n_.Bytes, .int .i64 n_.Parent, .string ⟨n_.Target.toArray⟩, .int .i64 n_.Dev] (by kernel_rfl) (by kernel_rfl) (H.cellsB 0 rfl (by rfl)) ?_)
      refine st (callR (some 70) 65 #[.agg #[.int .i64 n_.Kind, .int .i64 n_.Mode, .int .i64 n_.Uid, .int .i64 n_.Gid, .int .i64 n_.Time, .int .i64 n_.Links, .int .i64 n_.Attrs, .int .i64 n_.Size, .int .i64 n_.Start, .slice A0_9 n_.Words.length c0_9, .int .i64 n_.Frag, .int .i64 n_.Off, .int .i64 n_.Tail, .int .i64 n_.Dir, .int .i64 n_.Bytes, .int .i64 n_.Parent, .string ⟨n_.Target.toArray⟩, .int .i64 n_.Dev]] Try.call65 (inode_rest_c H.has n_ A0_9 c0_9 s0_9 l0_16) (by kernel_rfl) ?_)
      rintro _ w162 ⟨rfl, hx162⟩
      replace H := H.ex hx162
      refine seg 3 [.co [1, 1, 1, 1, 0, 1], .co [1, 1, 1, 1, 1]] [(72, .bool (!(inode_rest n_)))] (by kernel_rfl) ?_
      rcases condT hf with ⟨hb163, hf⟩ | ⟨hb163, hf⟩
      · rw [hb163]
        refine seg 6 [.co [1, 1, 1, 1, 1, 1]] [(2, .int .i64 0)] (by kernel_rfl) ?_
        refine retR [2] [.int .i64 0] (by kernel_rfl) (by kernel_rfl) (by kernel_rfl) ?_
        obtain rfl : 0 = r := (Option.some.inj hf)
        exact ⟨_, rfl, rfl, H.scalar⟩
      · rw [hb163]
        refine seg 5 [.co [1, 1, 1, 1, 0, 1, 0, 1], .co [1, 1, 1, 1, 1]] [(2, .int .i64 1)] (by kernel_rfl) ?_
        refine retR [2] [.int .i64 1] (by kernel_rfl) (by kernel_rfl) (by kernel_rfl) ?_
        obtain rfl : 1 = r := (Option.some.inj hf)
        exact ⟨_, rfl, rfl, H.scalar⟩
    · rw [hb161]
      refine seg 10 [.co [1, 1, 1, 1, 0, 1, 0, 1], .co [1, 1, 1, 1, 1]] [(2, .int .i64 1)] (by kernel_rfl) ?_
      refine retR [2] [.int .i64 1] (by kernel_rfl) (by kernel_rfl) (by kernel_rfl) ?_
      obtain rfl : 1 = r := (Option.some.inj hf)
      exact ⟨_, rfl, rfl, H.scalar⟩
  · rw [hb4]
    refine seg 5 [.co [1, 0, 1, 0, 1], .co [1, 1]] [(2, .int .i64 8)] (by kernel_rfl) ?_
    refine retR [2] [.int .i64 8] (by kernel_rfl) (by kernel_rfl) (by kernel_rfl) ?_
    obtain rfl : 8 = r := (Option.some.inj hf)
    exact ⟨_, rfl, rfl, H.scalar⟩
theorem field_NewWriter_c {m : Mem} {w : World} (hm : Has m w) (most : Int) :
    Calls Try.prog 56 #[.int .i64 most] w fun e w' => ∃ v, e = .returned v ∧ ∃ gz_0 : Nat, ∃ Az_0_0 : Option Addr, ∃ cz_0_0 : Nat, ∃ m' : Mem, v = .pointer (some (⟨gz_0, 0, none⟩)) ∧ St w noF m m' [blkI gz_0 [.slice Az_0_0 (((field_NewWriter most).f_b).length) cz_0_0, .int .i64 ((field_NewWriter most).f_most), .int .i64 ((field_NewWriter most).f_e)] 120, rowI rU8 5 Az_0_0 cz_0_0 ((field_NewWriter most).f_b)] w' := by
  generalize hf : field_NewWriter most = r
  unfold field_NewWriter at hf
  have H := St.start0 hm
  refine callsR Try.func56 (by kernel_rfl) (by kernel_rfl) ?_
  refine seg 9 [.op [1, 0] 3, .co [1, 1]] [(5, .agg #[.slice none 0 0, .int .i64 (if 0 > most then 0 else most), .int .i64 0])] (by kernel_rfl) ?_
  refine st (newS (some 6) (fun g => .pointer (some ⟨g, 0, none⟩)) [.slice none 0 0, .int .i64 (if 0 > most then 0 else most), .int .i64 0] 120 H (by kernel_rfl) ?_)
  intro g1 w1 H
  refine seg 2 [.co [1, 1]] [(2, .pointer (some (⟨g1, 0, none⟩)))] (by kernel_rfl) ?_
  have H := H.nilR rU8 5
  refine retR [2] [.pointer (some (⟨g1, 0, none⟩))] (by kernel_rfl) (by kernel_rfl) (by kernel_rfl) ?_
  obtain rfl : ({ f_b := [], f_most := (if 0 > most then 0 else most), f_e := 0 } : TFieldWriter) = r := hf
  exact ⟨_, rfl, g1, none, 0, m, rfl, (H.pull 1 rfl)⟩
theorem field_wide_c {m : Mem} {w : World} (hm : Has m w) (width : Int) :
    Calls Try.prog 77 #[.int .i64 width] w fun e w' => ∃ v, e = .returned v ∧ v = .bool (field_wide width) ∧ Ex w w' := by
  generalize hf : field_wide width = r
  unfold field_wide at hf
  have H := St.start0 hm
  refine callsR Try.func77 (by kernel_rfl) (by kernel_rfl) ?_
  refine seg 21 [.co [1, 0, 1, 0, 0, 0, 0, 0, 0, 0, 1], .co [1, 0, 1, 0, 0, 0, 0, 0, 0, 1], .co [1, 0, 1, 0, 0, 0, 0, 0, 1], .co [1, 0, 1, 0, 0, 0, 0, 1], .bl 1, .bl 2, .co [1, 0, 1, 0, 1], .bl 0, .co [1, 1]] [(3, .int .i64 width), (4, .bool (width == 1))] (by kernel_rfl) ?_
  rcases condT hf with ⟨hb17, hf⟩ | ⟨hb17, hf⟩
  · rw [hb17]
    refine seg 10 [.co [1, 0, 1, 0, 1, 0, 1], .co [1, 0, 1, 0, 1, 1], .bl 0, .co [1, 1]] [(2, .bool true)] (by kernel_rfl) ?_
    refine retR [2] [.bool true] (by kernel_rfl) (by kernel_rfl) (by kernel_rfl) ?_
    have hret := hf
    subst hret
    exact ⟨_, rfl, rfl, H.scalar⟩
  · rw [hb17]
    refine seg 5 [.co [1, 0, 1, 0, 0, 0, 0, 0, 0, 1], .co [1, 0, 1, 0, 0, 0, 0, 0, 1], .co [1, 0, 1, 0, 0, 0, 0, 1], .bl 1, .bl 2, .co [1, 0, 1, 0, 1], .bl 0, .co [1, 1]] [(3, .int .i64 width), (4, .bool (width == 2))] (by kernel_rfl) ?_
    rcases condT hf with ⟨hb18, hf⟩ | ⟨hb18, hf⟩
    · rw [hb18]
      refine seg 8 [.co [1, 0, 1, 0, 1, 0, 1], .co [1, 0, 1, 0, 1, 1], .bl 0, .co [1, 1]] [(2, .bool true)] (by kernel_rfl) ?_
      refine retR [2] [.bool true] (by kernel_rfl) (by kernel_rfl) (by kernel_rfl) ?_
      have hret := hf
      subst hret
      exact ⟨_, rfl, rfl, H.scalar⟩
    · rw [hb18]
      refine seg 8 [.co [1, 0, 1, 0, 0, 0, 0, 0, 1, 0, 1], .co [1, 0, 1, 0, 0, 0, 0, 0, 1, 1], .co [1, 0, 1, 0, 0, 0, 0, 1], .bl 1, .bl 2, .co [1, 0, 1, 0, 1], .bl 0, .co [1, 1]] [(3, .int .i64 width), (7, .bool (width == 4))] (by kernel_rfl) ?_
      rcases condT hf with ⟨hb19, hf⟩ | ⟨hb19, hf⟩
      · rw [hb19]
        refine seg 9 [.co [1, 0, 1, 0, 1, 0, 1], .co [1, 0, 1, 0, 1, 1], .bl 0, .co [1, 1]] [(2, .bool true)] (by kernel_rfl) ?_
        refine retR [2] [.bool true] (by kernel_rfl) (by kernel_rfl) (by kernel_rfl) ?_
        have hret := hf
        subst hret
        exact ⟨_, rfl, rfl, H.scalar⟩
      · rw [hb19]
        refine seg 5 [.co [1, 0, 1, 0, 0, 0, 0, 0, 1, 1], .co [1, 0, 1, 0, 0, 0, 0, 1], .bl 1, .bl 2, .co [1, 0, 1, 0, 1], .bl 0, .co [1, 1]] [(7, .bool (width == 8))] (by kernel_rfl) ?_
        rcases condT hf with ⟨hb20, hf⟩ | ⟨hb20, hf⟩
        · rw [hb20]
          refine seg 7 [.co [1, 0, 1, 0, 1, 0, 1], .co [1, 0, 1, 0, 1, 1], .bl 0, .co [1, 1]] [(2, .bool true)] (by kernel_rfl) ?_
          refine retR [2] [.bool true] (by kernel_rfl) (by kernel_rfl) (by kernel_rfl) ?_
          have hret := hf
          subst hret
          exact ⟨_, rfl, rfl, H.scalar⟩
        · rw [hb20]
          refine seg 7 [.co [1, 1, 1]] [(2, .bool false)] (by kernel_rfl) ?_
          refine retR [2] [.bool false] (by kernel_rfl) (by kernel_rfl) (by kernel_rfl) ?_
          have hret := hf
          subst hret
          exact ⟨_, rfl, rfl, H.scalar⟩
theorem field_fits_c {m : Mem} {w : World} (hm : Has m w) (n_ : UInt64) (width : Int) {r : Bool} (hf : field_fits n_ width = some r) :
    Calls Try.prog 78 #[.int .u64 (n_.toNat : Int), .int .i64 width] w fun e w' => ∃ v, e = .returned v ∧ v = .bool r ∧ Ex w w' := by
  unfold field_fits at hf
  have H := St.start0 hm
  refine callsR Try.func78 (by kernel_rfl) (by kernel_rfl) ?_
  refine seg 9 [.op [1, 0] 3, .co [1, 1]] [(0, .int .u64 (n_.toNat : Int)), (1, .int .i64 width), (7, .bool (width == 8))] (by kernel_rfl) ?_
  rcases condT hf with ⟨hb3, hf⟩ | ⟨hb3, hf⟩
  · rw [hb3]
    refine seg 8 [.co [1, 1]] [(4, .bool true)] (by kernel_rfl) ?_
    refine retR [4] [.bool true] (by kernel_rfl) (by kernel_rfl) (by kernel_rfl) ?_
    have hret := (Option.some.inj hf)
    subst hret
    exact ⟨_, rfl, rfl, H.scalar⟩
  · rw [hb3]
    refine seg 3 [.op [1, 0] 6, .co [1, 1]] [(7, .bool false), (8, .int .u64 (n_.toNat : Int)), (10, .int .i64 (IntKind.i64.wrap (8 * width)))] (by kernel_rfl) ?_
    obtain ⟨hc4, hf⟩ := chkE hf
    refine st (runR (by kernel_rfl : fetch _ _ _ _ _ = some ((some 11), vS (Op.shift .shr .u64 (n_.toNat : Int) .i64 (IntKind.i64.wrap (8 * width))))) (shr64_run _ _ (of_decide_eq_true hc4)) ?_)
    refine seg 4 [.co [1, 1]] [(4, .bool (((shr64 n_ (IntKind.i64.wrap (8 * width))).toNat : Int) == 0))] (by kernel_rfl) ?_
    refine retR [4] [.bool (((shr64 n_ (IntKind.i64.wrap (8 * width))).toNat : Int) == 0)] (by kernel_rfl) (by kernel_rfl) (by kernel_rfl) ?_
    obtain rfl : (((shr64 n_ (IntKind.i64.wrap (8 * width))).toNat : Int) == 0) = r := (Option.some.inj hf)
    exact ⟨_, rfl, rfl, H.scalar⟩
theorem field_Writer_right_c {m : Mem} {w : World} (hm : Has m w) (g0 : Nat) (w_ : TFieldWriter) (A0_0 : Option Addr) (c0_0 : Nat) (e_ : Int) (more : Int) {F : Nat → Prop} (hsep : Sep m w [blkI g0 [.slice A0_0 w_.f_b.length c0_0, .int .i64 w_.f_most, .int .i64 w_.f_e] 120, rowI rU8 5 A0_0 c0_0 w_.f_b] F) (hF : ∀ k, F k → m k = none) {r : (Bool × TFieldWriter)} (hf : field_Writer_right w_ e_ more = some r) :
    Calls Try.prog 85 #[.pointer (some (⟨g0, 0, none⟩)), .int .i64 e_, .int .i64 more] w fun e w' => ∃ v, e = .returned v ∧ ∃ Az_o0_0 : Option Addr, ∃ cz_o0_0 : Nat, ∃ m' : Mem, v = .bool r.1 ∧ St w F m m' [blkI g0 [.slice Az_o0_0 r.2.f_b.length cz_o0_0, .int .i64 r.2.f_most, .int .i64 r.2.f_e] 120, rowI rU8 5 Az_o0_0 cz_o0_0 r.2.f_b] w' := by
  unfold field_Writer_right at hf
  have H := St.start hm hsep hF
  refine callsR Try.func85 (by kernel_rfl) (by kernel_rfl) ?_
  refine seg 13 [.op [1, 0, 0] 6, .co [1, 0, 1], .co [1, 1]] [(0, .pointer (some (⟨g0, 0, none⟩))), (1, .int .i64 e_), (2, .int .i64 more), (9, .bool false), (12, .pointer (some (⟨g0, 2, none⟩)))] (by kernel_rfl) ?_
  refine st (ldR (some 13) 31 (⟨g0, 2, none⟩) (.int .i64 w_.f_e) (by kernel_rfl) (by kernel_rfl) (H.cellB 0 rfl rfl) ?_)
  refine seg 3 [.co [1, 0, 1], .co [1, 1]] [(0, .pointer (some (⟨g0, 0, none⟩))), (1, .int .i64 e_), (2, .int .i64 more), (15, .bool (w_.f_e != 0))] (by kernel_rfl) ?_
  rcases condT hf with ⟨hb2, hf⟩ | ⟨hb2, hf⟩
  · rw [hb2]
    refine seg 5 [.co [1, 0, 1, 0, 1], .co [1, 1]] [(6, .bool false)] (by kernel_rfl) ?_
    refine retR [6] [.bool false] (by kernel_rfl) (by kernel_rfl) (by kernel_rfl) ?_
    obtain rfl : (false, w_) = r := (Option.some.inj hf)
    exact ⟨_, rfl, A0_0, c0_0, m, rfl, H⟩
  · rw [hb2]
    refine seg 4 [.co [1, 1, 0, 0], .co [1, 1, 0, 1], .co [1, 1, 1]] [(0, .pointer (some (⟨g0, 0, none⟩))), (1, .int .i64 e_), (2, .int .i64 more)] (by kernel_rfl) ?_
    rcases condT hf with ⟨hb9, hf⟩ | ⟨hb9, hf⟩
    · have hst : statB (bodyOf Try.f85) [1, 1, 0, 0] = true := by kernel_rfl
      refine drawS (fun w' => Has m w' ∧ w'.heap[g0]? = some (.cells [.slice A0_0 w_.f_b.length c0_0, .int .i64 w_.f_most, .int .i64 w_.f_e].toArray 120 (0, 0))) H (by kernel_rfl) (by kernel_rfl) ?_
      intro w10 H
      refine segD2 hst [0, 1] [0, 1] [(0, .pointer (some (⟨g0, 0, none⟩))), (1, .int .i64 e_), (2, .int .i64 more), (17, .bool (e_ == 0))] (by kernel_rfl) ?_
      rw [show (e_ == 0) = true from hb9]
      refine segD2 hst [2, 3, 4, 5, 6, 8, 9, 10] [0, 1, 2, 3, 4, 5, 6, 8, 9, 10] [(0, .pointer (some (⟨g0, 0, none⟩))), (1, .int .i64 e_), (18, .bool true), (19, .int .i64 more), (22, .pointer (some (⟨g0, 1, none⟩))), (26, .pointer (some (⟨g0, 0, none⟩)))] (by kernel_rfl) ?_
      refine takeD2 (i := 7) (d := (some 23)) (s := vS (Instr.loadAt 3 (.pointer (some (⟨g0, 1, none⟩))))) (v := (.int .i64 w_.f_most)) hst (by kernel_rfl) (by kernel_rfl) (fun w' hw' => ld_run _ _ _ (by kernel_rfl) (blk_cell hw'.2 rfl)) ?_
      refine stD2 (i := 11) (by kernel_rfl) ⟨H.has, H.blk 0 rfl⟩ (ldR (some 27) 30 (⟨g0, 0, none⟩) (.slice A0_0 w_.f_b.length c0_0) (by kernel_rfl) (by kernel_rfl) (H.cellB 0 rfl rfl) ?_)
      refine segD2 hst [12, 13] [0, 1, 2, 3, 4, 5, 6, 8, 9, 10, 7, 11, 12, 13] [(0, .pointer (some (⟨g0, 0, none⟩))), (1, .int .i64 e_), (18, .bool true), (19, .int .i64 more), (29, .int .i64 (IntKind.i64.wrap (w_.f_most - (w_.f_b.length : Int))))] (by kernel_rfl) ?_
      refine segD2 hst [14] [0, 1, 2, 3, 4, 5, 6, 8, 9, 10, 7, 11, 12, 13, 14] [(0, .pointer (some (⟨g0, 0, none⟩))), (1, .int .i64 e_), (18, .bool true), (30, .bool (decide (more > (IntKind.i64.wrap (w_.f_most - (w_.f_b.length : Int))))))] (by kernel_rfl) ?_
      refine segD2 hst [15] [0, 1, 2, 3, 4, 5, 6, 8, 9, 10, 7, 11, 12, 13, 14, 15] [(0, .pointer (some (⟨g0, 0, none⟩))), (1, .int .i64 e_), (31, .bool (decide (more > (IntKind.i64.wrap (w_.f_most - (w_.f_b.length : Int))))))] (by kernel_rfl) ?_
      refine endD2 (by kernel_rfl) ⟨H.has, H.blk 0 rfl⟩ ?_
      rcases condT hf with ⟨hb11, hf⟩ | ⟨hb11, hf⟩
      · rw [hb11]
        have p11 := of_decide_eq_true hb11
        refine seg 10 [.op [1, 1, 1, 0] 4, .co [1, 1, 1, 1]] [(1, .int .i64 2), (33, .int .i64 2), (35, .pointer (some (⟨g0, 2, none⟩)))] (by kernel_rfl) ?_
        refine st (stS none 31 0 g0 2 (.int .i64 2) [.slice A0_0 w_.f_b.length c0_0, .int .i64 w_.f_most, .int .i64 w_.f_e] 120 H rfl (by kernel_rfl) (by kernel_rfl) rfl (of_decide_eq_true rfl) ?_)
        intro w12 H
        refine seg 7 [.co [1, 1, 1, 1, 1]] [(6, .bool false)] (by kernel_rfl) ?_
        refine retR [6] [.bool false] (by kernel_rfl) (by kernel_rfl) (by kernel_rfl) ?_
        obtain rfl : (false, ({ f_b := w_.f_b, f_most := w_.f_most, f_e := 2 } : TFieldWriter)) = r := (Option.some.inj hf)
        exact ⟨_, rfl, A0_0, c0_0, m, rfl, H⟩
      · rw [hb11]
        have p11 := of_decide_eq_false hb11
        refine seg 8 [.op [1, 1, 1, 0] 4, .co [1, 1, 1, 1]] [(1, .int .i64 e_), (33, .int .i64 e_), (35, .pointer (some (⟨g0, 2, none⟩)))] (by kernel_rfl) ?_
        replace H : St w F m m [blkI g0 [.slice A0_0 w_.f_b.length c0_0, .int .i64 w_.f_most, .int .i64 w_.f_e] 120, rowI rU8 5 A0_0 c0_0 w_.f_b] w10 := H
        refine st (stS none 31 0 g0 2 (.int .i64 e_) [.slice A0_0 w_.f_b.length c0_0, .int .i64 w_.f_most, .int .i64 w_.f_e] 120 H rfl (by kernel_rfl) (by kernel_rfl) rfl (of_decide_eq_true rfl) ?_)
        intro w13 H
        refine seg 7 [.co [1, 1, 1, 1, 1]] [(6, .bool (e_ == 0))] (by kernel_rfl) ?_
        refine retR [6] [.bool (e_ == 0)] (by kernel_rfl) (by kernel_rfl) (by kernel_rfl) ?_
        obtain rfl : ((e_ == 0), ({ f_b := w_.f_b, f_most := w_.f_most, f_e := e_ } : TFieldWriter)) = r := (Option.some.inj hf)
        exact ⟨_, rfl, A0_0, c0_0, m, rfl, H⟩
    · have hst : statB (bodyOf Try.f85) [1, 1, 0, 0] = true := by kernel_rfl
      refine drawS (fun w' => Has m w' ∧ w'.heap[g0]? = some (.cells [.slice A0_0 w_.f_b.length c0_0, .int .i64 w_.f_most, .int .i64 w_.f_e].toArray 120 (0, 0))) H (by kernel_rfl) (by kernel_rfl) ?_
      intro w14 H
      refine segD2 hst [0, 1] [0, 1] [(0, .pointer (some (⟨g0, 0, none⟩))), (1, .int .i64 e_), (2, .int .i64 more), (17, .bool (e_ == 0))] (by kernel_rfl) ?_
      rw [show (e_ == 0) = false from hb9]
      refine segD2 hst [2, 3, 4, 5, 6, 7, 8, 9, 10, 11, 12, 13, 14, 15] [0, 1, 2, 3, 4, 5, 6, 7, 8, 9, 10, 11, 12, 13, 14, 15] [(0, .pointer (some (⟨g0, 0, none⟩))), (1, .int .i64 e_), (31, .bool false)] (by kernel_rfl) ?_
      refine endD2 (by kernel_rfl) ⟨H.has, H.blk 0 rfl⟩ ?_
      refine seg 8 [.op [1, 1, 1, 0] 4, .co [1, 1, 1, 1]] [(1, .int .i64 e_), (33, .int .i64 e_), (35, .pointer (some (⟨g0, 2, none⟩)))] (by kernel_rfl) ?_
      refine st (stS none 31 0 g0 2 (.int .i64 e_) [.slice A0_0 w_.f_b.length c0_0, .int .i64 w_.f_most, .int .i64 w_.f_e] 120 H rfl (by kernel_rfl) (by kernel_rfl) rfl (of_decide_eq_true rfl) ?_)
      intro w15 H
      refine seg 7 [.co [1, 1, 1, 1, 1]] [(6, .bool (e_ == 0))] (by kernel_rfl) ?_
      refine retR [6] [.bool (e_ == 0)] (by kernel_rfl) (by kernel_rfl) (by kernel_rfl) ?_
      obtain rfl : ((e_ == 0), ({ f_b := w_.f_b, f_most := w_.f_most, f_e := e_ } : TFieldWriter)) = r := (Option.some.inj hf)
      exact ⟨_, rfl, A0_0, c0_0, m, rfl, H⟩
theorem field_store_c {m : Mem} {w : World} (hm : Has m w) (b : (List UInt8)) (A0_0 : Option Addr) (c0_0 : Nat) (n_ : UInt64) (width : Int) {F : Nat → Prop} (hsep : Sep m w [rowI rU8 5 A0_0 c0_0 b] F) (hF : ∀ k, F k → m k = none) {r : (List UInt8)} (hf : field_store b n_ width = some r) :
    Calls Try.prog 79 #[.slice A0_0 b.length c0_0, .int .u64 (n_.toNat : Int), .int .i64 width] w fun e w' => ∃ v, e = .returned v ∧ ∃ Az_0 : Option Addr, ∃ cz_0 : Nat, ∃ m' : Mem, v = .slice Az_0 r.length cz_0 ∧ St w F m m' [rowI rU8 5 Az_0 cz_0 r] w' := by
  unfold field_store at hf
  have H := St.start hm hsep hF
  refine callsR Try.func79 (by kernel_rfl) (by kernel_rfl) ?_
  refine seg 10 [.co [1, 0, 1], .co [1, 1]] [(0, .slice A0_0 b.length c0_0), (1, .int .u64 (n_.toNat : Int)), (8, .int .i64 width), (9, .int .i64 0)] (by kernel_rfl) ?_
  obtain ⟨y42, hp42, hf⟩ := bindE hf
  refine joinR 0 (fun (x : (List UInt8) × Option Addr × Nat) => [(0, .slice (x.2.1) x.1.length (x.2.2))]) (fun (x : (List UInt8) × Option Addr × Nat) (wj42 : World) => y42 = x.1 ∧ St w F m m [rowI rU8 5 (x.2.1) (x.2.2) x.1] wj42) (by kernel_rfl) ?_ ?_
  · refine seg 1 [.co [1, 0, 1, 0], .bl 0, .le 0, .co [1, 1]] [(0, .slice A0_0 b.length c0_0), (1, .int .u64 (n_.toNat : Int)), (8, .int .i64 width), (9, .int .i64 0)] (by kernel_rfl) ?_
    obtain ⟨nn58, hR58⟩ := loopO_iff.1 hp42
    refine loopR 1 (fun (x : Nat × (List UInt8) × Int × Option Addr × Nat) => [(0, .slice (x.2.2.2.1) x.2.1.length (x.2.2.2.2)), (1, .int .u64 (n_.toNat : Int)), (8, .int .i64 width), (9, .int .i64 x.2.2.1)]) (fun (x : Nat × (List UInt8) × Int × Option Addr × Nat) (wl58 : World) => iter (fun s => field_store_l1 n_ width s.1 s.2) x.1 (x.2.1, x.2.2.1) = some y42 ∧ St w F m m [rowI rU8 5 (x.2.2.2.1) (x.2.2.2.2) x.2.1] wl58) (fun (x : Nat × (List UInt8) × Int × Option Addr × Nat) => x.1) (nn58, b, 0, A0_0, c0_0) (by kernel_rfl) (by kernel_rfl) (by kernel_rfl) ?_ ?_
    · exact ⟨hR58, H⟩
    rintro ⟨n58, b1, t, A_1_59, c_2_59⟩ wl58 ⟨hR58, H⟩
    try dsimp only at hR58
    try dsimp only at H
    obtain ⟨nk58, q58, rfl, hb_58, hnx58, hfin58⟩ := iterE hR58
    replace hb_58 : field_store_l1 n_ width b1 t = some q58 := hb_58
    unfold field_store_l1 at hb_58
    refine seg 5 [.co [1, 0, 1, 0, 0, 1, 0], .co [1, 0, 1, 0, 0, 1, 1], .le 1, .bl 0, .le 0, .co [1, 1]] [(0, .slice A_1_59 b1.length c_2_59), (1, .int .u64 (n_.toNat : Int)), (8, .int .i64 width), (9, .int .i64 t), (10, .bool (decide (t < width)))] (by kernel_rfl) ?_
    rcases condT hb_58 with ⟨hb60, hb_58⟩ | ⟨hb60, hb_58⟩
    · rw [hb60]
      have p60 := of_decide_eq_true hb60
      refine seg 14 [.op [1, 0, 1, 0, 0, 1, 1, 0, 0, 1] 4, .bl 1, .co [1, 0, 1, 0, 0, 1, 1, 1], .le 1, .bl 0, .le 0, .co [1, 1]] [(1, .int .u64 (n_.toNat : Int)), (8, .int .i64 width), (9, .int .i64 t), (12, .slice A_1_59 b1.length c_2_59), (13, .int .u64 (n_.toNat : Int)), (15, .int .i64 (IntKind.i64.wrap (8 * t)))] (by kernel_rfl) ?_
      replace H : St w F m m [rowI rU8 5 A_1_59 c_2_59 b1] wl58 := H
      obtain ⟨hc61, hb_58⟩ := chkE hb_58
      refine st (runR (by kernel_rfl : fetch _ _ _ _ _ = some ((some 16), vS (Op.shift .shr .u64 (n_.toNat : Int) .i64 (IntKind.i64.wrap (8 * t))))) (shr64_run _ _ (of_decide_eq_true hc61)) ?_)
      refine seg 1 [.op [1, 0, 1, 0, 0, 1, 1, 0, 0, 1] 6, .bl 1, .co [1, 0, 1, 0, 0, 1, 1, 1], .le 1, .bl 0, .le 0, .co [1, 1]] [(1, .int .u64 (n_.toNat : Int)), (8, .int .i64 width), (9, .int .i64 t), (12, .slice A_1_59 b1.length c_2_59), (17, .int .u8 (IntKind.u8.wrap ((shr64 n_ (IntKind.i64.wrap (8 * t))).toNat : Int)))] (by kernel_rfl) ?_
      rw [q8_u64 (shr64 n_ (IntKind.i64.wrap (8 * t)))]
      refine st (newS (some 18) (fun g => .slice (some ⟨g, 0, none⟩) 1 1) [.int .u8 (((shr64 n_ (IntKind.i64.wrap (8 * t))).toUInt8).toNat : Int)] 5 H (by kernel_rfl) ?_)
      intro g62 w62 H
      obtain ⟨b2, h_b2, hb_58⟩ := bindE hb_58
      refine st (appS (r := rU8) (some 19) 30 5 1 (.int .u8 0) 30 1 A_1_59 (some ⟨g62, 0, none⟩) c_2_59 1 1 b1 [(shr64 n_ (IntKind.i64.wrap (8 * t))).toUInt8] b2 _ H rfl ⟨Try.underlying30, by kernel_rfl⟩ rfl (by decide) (by kernel_rfl) (Cs.of_blk (H.blk 0 rfl)) (Rows.u8.2 rfl) rfl h_b2 (by decide) (by decide) ?_)
      intro A63 c63 w63 H
      replace H := H.drop 0 rfl
      refine seg 7 [.le 1, .bl 0, .le 0, .co [1, 1]] [(0, .slice A63 b2.length c63), (1, .int .u64 (n_.toNat : Int)), (8, .int .i64 width), (9, .int .i64 (IntKind.i64.wrap (t + 1)))] (by kernel_rfl) ?_
      refine leR (nk58, b2, (IntKind.i64.wrap (t + 1)), A63, c63) (Nat.lt_succ_self _) ⟨hnx58 _ (Option.some.inj hb_58).symm, H⟩ (by kernel_rfl)
    · rw [hb60]
      have p60 := of_decide_eq_false hb60
      refine seg 2 [.le 0, .co [1, 1]] [(0, .slice A_1_59 b1.length c_2_59)] (by kernel_rfl) ?_
      refine leR_up (k' := []) (by rfl) ?_
      refine leJ (b1, A_1_59, c_2_59) ⟨(hfin58 _ (Option.some.inj hb_58).symm).symm, H⟩ (by kernel_rfl)
  rintro ⟨b1, A_1_43, c_2_43⟩ wj42 ⟨hy42, H⟩
  try dsimp only at hy42
  try dsimp only at H
  rw [hy42] at hf
  refine seg 5 [.co [1, 1, 1]] [(6, .slice A_1_43 b1.length c_2_43)] (by kernel_rfl) ?_
  refine retR [6] [.slice A_1_43 b1.length c_2_43] (by kernel_rfl) (by kernel_rfl) (by kernel_rfl) ?_
  have hret := (Option.some.inj hf)
  subst hret
  exact ⟨_, rfl, A_1_43, c_2_43, m, rfl, H⟩
theorem field_Writer_Num_c {m : Mem} {w : World} (hm : Has m w) (g0 : Nat) (w_ : TFieldWriter) (A0_0 : Option Addr) (c0_0 : Nat) (n_ : UInt64) (width : Int) {F : Nat → Prop} (hsep : Sep m w [blkI g0 [.slice A0_0 w_.f_b.length c0_0, .int .i64 w_.f_most, .int .i64 w_.f_e] 120, rowI rU8 5 A0_0 c0_0 w_.f_b] F) (hF : ∀ k, F k → m k = none) {r : TFieldWriter} (hf : field_Writer_Num w_ n_ width = some r) :
    Calls Try.prog 57 #[.pointer (some (⟨g0, 0, none⟩)), .int .u64 (n_.toNat : Int), .int .i64 width] w fun e w' => ∃ v, e = .returned v ∧ ∃ Az_o0_0 : Option Addr, ∃ cz_o0_0 : Nat, ∃ m' : Mem, v = .tuple #[] ∧ St w F m m' [blkI g0 [.slice Az_o0_0 r.f_b.length cz_o0_0, .int .i64 r.f_most, .int .i64 r.f_e] 120, rowI rU8 5 Az_o0_0 cz_o0_0 r.f_b] w' := by
  unfold field_Writer_Num at hf
  have H := St.start hm hsep hF
  refine callsR Try.func57 (by kernel_rfl) (by kernel_rfl) ?_
  refine seg 5 [.co [1, 0], .co [1, 1]] [(0, .pointer (some (⟨g0, 0, none⟩))), (1, .int .u64 (n_.toNat : Int)), (2, .int .i64 width), (6, .int .i64 0)] (by kernel_rfl) ?_
  obtain ⟨y20, hp20, hf⟩ := bindE hf
  refine joinR 0 (fun (x : Nat) => [(0, .pointer (some (⟨g0, 0, none⟩))), (1, .int .u64 (n_.toNat : Int)), (2, .int .i64 width), (6, .int .i64 (x : Int))]) (fun (x : Nat) (wj20 : World) => y20 = x ∧ St w F m m [blkI g0 [.slice A0_0 w_.f_b.length c0_0, .int .i64 w_.f_most, .int .i64 w_.f_e] 120, rowI rU8 5 A0_0 c0_0 w_.f_b] wj20) (by kernel_rfl) ?_ ?_
  · refine seg 4 [.op [1, 0, 0, 0] 1, .co [1, 0, 0, 1], .bl 0, .le 0, .co [1, 1]] [(0, .pointer (some (⟨g0, 0, none⟩))), (1, .int .u64 (n_.toNat : Int)), (2, .int .i64 width), (6, .int .i64 0), (8, .int .i64 width)] (by kernel_rfl) ?_
    refine st (callR (some 9) 77 #[.int .i64 width] Try.call77 (field_wide_c H.has width) (by kernel_rfl) ?_)
    rintro _ w22 ⟨rfl, hx22⟩
    replace H := H.ex hx22
    refine seg 3 [.co [1, 0, 0, 1], .bl 0, .le 0, .co [1, 1]] [(0, .pointer (some (⟨g0, 0, none⟩))), (1, .int .u64 (n_.toNat : Int)), (2, .int .i64 width), (6, .int .i64 0), (7, .bool (!(field_wide width)))] (by kernel_rfl) ?_
    rcases condT hp20 with ⟨hb23, hp20⟩ | ⟨hb23, hp20⟩
    · rw [hb23]
      refine seg 5 [.op [1, 0, 0, 1, 1, 0] 2, .co [1, 0, 0, 1, 1, 1], .bl 0, .le 0, .co [1, 1]] [(0, .pointer (some (⟨g0, 0, none⟩))), (1, .int .u64 (n_.toNat : Int)), (2, .int .i64 width), (6, .int .i64 0), (12, .int .u64 (n_.toNat : Int)), (13, .int .i64 width)] (by kernel_rfl) ?_
      obtain ⟨fits, h_fits, hp20⟩ := bindE hp20
      refine st (callR (some 14) 78 #[.int .u64 (n_.toNat : Int), .int .i64 width] Try.call78 (field_fits_c H.has n_ width h_fits) (by kernel_rfl) ?_)
      rintro _ w24 ⟨rfl, hx24⟩
      replace H := H.ex hx24
      refine seg 3 [.co [1, 0, 0, 1, 1, 1], .bl 0, .le 0, .co [1, 1]] [(0, .pointer (some (⟨g0, 0, none⟩))), (1, .int .u64 (n_.toNat : Int)), (2, .int .i64 width), (6, .int .i64 0), (11, .bool (!fits))] (by kernel_rfl) ?_
      rcases condT hp20 with ⟨hb25, hp20⟩ | ⟨hb25, hp20⟩
      · rw [hb25]
        refine seg 3 [.le 0, .co [1, 1]] [(0, .pointer (some (⟨g0, 0, none⟩))), (1, .int .u64 (n_.toNat : Int)), (2, .int .i64 width), (6, .int .i64 0)] (by kernel_rfl) ?_
        refine leJ (0) ⟨(Option.some.inj hp20).symm, H⟩ (by kernel_rfl)
      · rw [hb25]
        refine seg 5 [.le 0, .co [1, 1]] [(0, .pointer (some (⟨g0, 0, none⟩))), (1, .int .u64 (n_.toNat : Int)), (2, .int .i64 width), (6, .int .i64 9)] (by kernel_rfl) ?_
        refine leJ (9) ⟨(Option.some.inj hp20).symm, H⟩ (by kernel_rfl)
    · rw [hb23]
      refine seg 5 [.le 0, .co [1, 1]] [(0, .pointer (some (⟨g0, 0, none⟩))), (1, .int .u64 (n_.toNat : Int)), (2, .int .i64 width), (6, .int .i64 1)] (by kernel_rfl) ?_
      refine leJ (1) ⟨(Option.some.inj hp20).symm, H⟩ (by kernel_rfl)
  rintro e_ wj20 ⟨hy20, H⟩
  rw [hy20] at hf
  refine seg 5 [.op [1, 1, 0] 3, .co [1, 1, 1]] [(0, .pointer (some (⟨g0, 0, none⟩))), (1, .int .u64 (n_.toNat : Int)), (2, .int .i64 width), (16, .pointer (some (⟨g0, 0, none⟩))), (17, .int .i64 (e_ : Int)), (18, .int .i64 width)] (by kernel_rfl) ?_
  replace H : St w F m m [blkI g0 [.slice A0_0 w_.f_b.length c0_0, .int .i64 w_.f_most, .int .i64 w_.f_e] 120, rowI rU8 5 A0_0 c0_0 w_.f_b] wj20 := H
  obtain ⟨right, h_right, hf⟩ := bindE hf
  obtain ⟨F26, hse26, hFn26, hcl26⟩ := St.call [blkI g0 [.slice A0_0 w_.f_b.length c0_0, .int .i64 w_.f_most, .int .i64 w_.f_e] 120, rowI rU8 5 A0_0 c0_0 w_.f_b] ((H.pull 1 rfl).pull 1 rfl)
  refine st (callR (some 19) 85 #[.pointer (some (⟨g0, 0, none⟩)), .int .i64 (e_ : Int), .int .i64 width] Try.call85 (field_Writer_right_c H.has g0 w_ A0_0 c0_0 (e_ : Int) width hse26 hFn26 h_right) (by kernel_rfl) ?_)
  rintro _ w26 ⟨A26_o0_0, c26_o0_0, mk26, rfl, hS26⟩
  have hsub26 := hS26.sub
  replace H := hcl26 _ _ _ hS26
  refine seg 1 [.co [1, 1, 1]] [(0, .pointer (some (⟨g0, 0, none⟩))), (1, .int .u64 (n_.toNat : Int)), (2, .int .i64 width), (19, .bool right.1)] (by kernel_rfl) ?_
  rcases condT hf with ⟨hb27, hf⟩ | ⟨hb27, hf⟩
  · rw [hb27]
    refine seg 6 [.op [1, 1, 1, 0] 4] [(1, .int .u64 (n_.toNat : Int)), (2, .int .i64 width), (20, .pointer (some (⟨g0, 0, none⟩))), (23, .pointer (some (⟨g0, 0, none⟩)))] (by kernel_rfl) ?_
    refine st (ldR (some 24) 30 (⟨g0, 0, none⟩) (.slice A26_o0_0 right.2.f_b.length c26_o0_0) (by kernel_rfl) (by kernel_rfl) (H.cellB 0 rfl rfl) ?_)
    refine seg 2 [.op [1, 1, 1, 0] 7] [(20, .pointer (some (⟨g0, 0, none⟩))), (24, .slice A26_o0_0 right.2.f_b.length c26_o0_0), (25, .int .u64 (n_.toNat : Int)), (26, .int .i64 width)] (by kernel_rfl) ?_
    obtain ⟨store, h_store, hf⟩ := bindE hf
    obtain ⟨F28, hse28, hFn28, hcl28⟩ := St.call [rowI rU8 5 A26_o0_0 c26_o0_0 right.2.f_b] (H.pull 1 rfl)
    refine st (callR (some 27) 79 #[.slice A26_o0_0 right.2.f_b.length c26_o0_0, .int .u64 (n_.toNat : Int), .int .i64 width] Try.call79 (field_store_c H.has right.2.f_b A26_o0_0 c26_o0_0 n_ width hse28 hFn28 h_store) (by kernel_rfl) ?_)
    rintro _ w28 ⟨A28_0, c28_0, mk28, rfl, hS28⟩
    have hsub28 := hS28.sub
    replace H := hcl28 _ _ _ hS28
    refine seg 2 [.op [1, 1, 1, 0] 10] [(27, .slice A28_0 store.length c28_0), (29, .pointer (some (⟨g0, 0, none⟩)))] (by kernel_rfl) ?_
    refine st (stS none 30 1 g0 0 (.slice A28_0 store.length c28_0) [.slice A26_o0_0 right.2.f_b.length c26_o0_0, .int .i64 right.2.f_most, .int .i64 right.2.f_e] 120 H rfl (by kernel_rfl) (by kernel_rfl) rfl (of_decide_eq_true rfl) ?_)
    intro w29 H
    refine seg 1 [] [] (by kernel_rfl) ?_
    refine endR [] [] (by kernel_rfl) (by kernel_rfl) ?_
    obtain rfl : ({ f_b := store, f_most := right.2.f_most, f_e := right.2.f_e } : TFieldWriter) = r := (Option.some.inj hf)
    exact ⟨_, rfl, A28_0, c28_0, mk28, rfl, (H.pull 1 rfl)⟩
  · rw [hb27]
    refine seg 2 [] [] (by kernel_rfl) ?_
    refine endR [] [] (by kernel_rfl) (by kernel_rfl) ?_
    obtain rfl : right.2 = r := (Option.some.inj hf)
    exact ⟨_, rfl, A26_o0_0, c26_o0_0, mk26, rfl, H⟩
theorem inode_none_c {m : Mem} {w : World} (hm : Has m w) (n_ : Int) :
    Calls Try.prog 58 #[.int .i64 n_] w fun e w' => ∃ v, e = .returned v ∧ v = .int .u64 ((inode_none n_).toNat : Int) ∧ Ex w w' := by
  generalize hf : inode_none n_ = r
  unfold inode_none at hf
  have H := St.start0 hm
  refine callsR Try.func58 (by kernel_rfl) (by kernel_rfl) ?_
  refine seg 11 [.co [1, 1]] [(2, .int .u64 (IntKind.u64.wrap (IntKind.u32.wrap n_)))] (by kernel_rfl) ?_
  rw [q32_wrap n_]
  rw [q64_wrap ((UInt32.ofInt n_).toNat : Int)]
  refine retR [2] [.int .u64 ((UInt64.ofInt ((UInt32.ofInt n_).toNat : Int)).toNat : Int)] (by kernel_rfl) (by kernel_rfl) (by kernel_rfl) ?_
  obtain rfl : (UInt64.ofInt ((UInt32.ofInt n_).toNat : Int)) = r := hf
  exact ⟨_, rfl, rfl, H.scalar⟩
theorem field_Writer_Text_c {m : Mem} {w : World} (hm : Has m w) (g0 : Nat) (w_ : TFieldWriter) (A0_0 : Option Addr) (c0_0 : Nat) (b : (List UInt8)) (A1_0 : Option Addr) (c1_0 : Nat) (s1_0 : SlI rU8 m A1_0 c1_0 b) {F : Nat → Prop} (hsep : Sep m w [blkI g0 [.slice A0_0 w_.f_b.length c0_0, .int .i64 w_.f_most, .int .i64 w_.f_e] 120, rowI rU8 5 A0_0 c0_0 w_.f_b] F) (hF : ∀ k, F k → m k = none) {r : TFieldWriter} (hf : field_Writer_Text w_ b = some r) :
    Calls Try.prog 59 #[.pointer (some (⟨g0, 0, none⟩)), .slice A1_0 b.length c1_0] w fun e w' => ∃ v, e = .returned v ∧ ∃ Az_o0_0 : Option Addr, ∃ cz_o0_0 : Nat, ∃ m' : Mem, v = .tuple #[] ∧ St w F m m' [blkI g0 [.slice Az_o0_0 r.f_b.length cz_o0_0, .int .i64 r.f_most, .int .i64 r.f_e] 120, rowI rU8 5 Az_o0_0 cz_o0_0 r.f_b] w' := by
  unfold field_Writer_Text at hf
  have H := St.start hm hsep hF
  refine callsR Try.func59 (by kernel_rfl) (by kernel_rfl) ?_
  refine seg 11 [.co [1, 0, 1], .co [1, 1]] [(0, .pointer (some (⟨g0, 0, none⟩))), (1, .slice A1_0 b.length c1_0), (4, .int .i64 0), (7, .bool (decide ((b.length : Int) > 65535)))] (by kernel_rfl) ?_
  rcases condT hf with ⟨hb13, hf⟩ | ⟨hb13, hf⟩
  · rw [hb13]
    have p13 := of_decide_eq_true hb13
    refine seg 12 [.op [1, 1, 0] 6, .co [1, 1, 1]] [(0, .pointer (some (⟨g0, 0, none⟩))), (1, .slice A1_0 b.length c1_0), (8, .pointer (some (⟨g0, 0, none⟩))), (9, .int .i64 9), (13, .int .i64 (IntKind.i64.wrap ((if 65535 < (b.length : Int) then 65535 else (b.length : Int)) + 2)))] (by kernel_rfl) ?_
    obtain ⟨right, h_right, hf⟩ := bindE hf
    obtain ⟨F14, hse14, hFn14, hcl14⟩ := St.call [blkI g0 [.slice A0_0 w_.f_b.length c0_0, .int .i64 w_.f_most, .int .i64 w_.f_e] 120, rowI rU8 5 A0_0 c0_0 w_.f_b] ((H.pull 1 rfl).pull 1 rfl)
    refine st (callR (some 14) 85 #[.pointer (some (⟨g0, 0, none⟩)), .int .i64 9, .int .i64 (IntKind.i64.wrap ((if 65535 < (b.length : Int) then 65535 else (b.length : Int)) + 2))] Try.call85 (field_Writer_right_c H.has g0 w_ A0_0 c0_0 9 (IntKind.i64.wrap ((if 65535 < (b.length : Int) then 65535 else (b.length : Int)) + 2)) hse14 hFn14 h_right) (by kernel_rfl) ?_)
    rintro _ w14 ⟨A14_o0_0, c14_o0_0, mk14, rfl, hS14⟩
    have hsub14 := hS14.sub
    replace H := hcl14 _ _ _ hS14
    refine seg 1 [.co [1, 1, 1]] [(0, .pointer (some (⟨g0, 0, none⟩))), (1, .slice A1_0 b.length c1_0), (14, .bool right.1)] (by kernel_rfl) ?_
    rcases condT hf with ⟨hb15, hf⟩ | ⟨hb15, hf⟩
    · rw [hb15]
      refine seg 6 [.op [1, 1, 1, 0] 4] [(1, .slice A1_0 b.length c1_0), (15, .pointer (some (⟨g0, 0, none⟩))), (18, .pointer (some (⟨g0, 0, none⟩)))] (by kernel_rfl) ?_
      replace H : St w F m mk14 [blkI g0 [.slice A14_o0_0 right.2.f_b.length c14_o0_0, .int .i64 right.2.f_most, .int .i64 right.2.f_e] 120, rowI rU8 5 A14_o0_0 c14_o0_0 right.2.f_b] w14 := H
      refine st (ldR (some 19) 30 (⟨g0, 0, none⟩) (.slice A14_o0_0 right.2.f_b.length c14_o0_0) (by kernel_rfl) (by kernel_rfl) (H.cellB 0 rfl rfl) ?_)
      refine seg 3 [.op [1, 1, 1, 0] 8] [(1, .slice A1_0 b.length c1_0), (15, .pointer (some (⟨g0, 0, none⟩))), (19, .slice A14_o0_0 right.2.f_b.length c14_o0_0), (22, .int .u64 (IntKind.u64.wrap (b.length : Int)))] (by kernel_rfl) ?_
      rw [q64_wrap (b.length : Int)]
      obtain ⟨store, h_store, hf⟩ := bindE hf
      obtain ⟨F16, hse16, hFn16, hcl16⟩ := St.call [rowI rU8 5 A14_o0_0 c14_o0_0 right.2.f_b] (H.pull 1 rfl)
      refine st (callR (some 23) 79 #[.slice A14_o0_0 right.2.f_b.length c14_o0_0, .int .u64 ((UInt64.ofInt (b.length : Int)).toNat : Int), .int .i64 2] Try.call79 (field_store_c H.has right.2.f_b A14_o0_0 c14_o0_0 (UInt64.ofInt (b.length : Int)) 2 hse16 hFn16 h_store) (by kernel_rfl) ?_)
      rintro _ w16 ⟨A16_0, c16_0, mk16, rfl, hS16⟩
      have hsub16 := hS16.sub
      replace H := hcl16 _ _ _ hS16
      refine seg 1 [.op [1, 1, 1, 0] 10] [(15, .pointer (some (⟨g0, 0, none⟩))), (23, .slice A16_0 store.length c16_0), (24, .slice A1_0 b.length c1_0)] (by kernel_rfl) ?_
      obtain ⟨xs17, hr17, hx17⟩ := (s1_0.mono (hsub14.trans hsub16)).cs
      obtain ⟨b1, h_b1, hf⟩ := bindE hf
      refine st (appS (r := rU8) (some 25) 30 5 1 (.int .u8 0) 30 0 A16_0 A1_0 c16_0 b.length c1_0 store b b1 _ H rfl ⟨Try.underlying30, by kernel_rfl⟩ rfl (by decide) (by kernel_rfl) (hx17.cs H.has) hr17 rfl h_b1 (by decide) (by decide) ?_)
      intro A18 c18 w18 H
      refine seg 2 [.op [1, 1, 1, 0] 13] [(25, .slice A18 b1.length c18), (27, .pointer (some (⟨g0, 0, none⟩)))] (by kernel_rfl) ?_
      refine st (stS none 30 1 g0 0 (.slice A18 b1.length c18) [.slice A14_o0_0 right.2.f_b.length c14_o0_0, .int .i64 right.2.f_most, .int .i64 right.2.f_e] 120 H rfl (by kernel_rfl) (by kernel_rfl) rfl (of_decide_eq_true rfl) ?_)
      intro w19 H
      refine seg 1 [] [] (by kernel_rfl) ?_
      refine endR [] [] (by kernel_rfl) (by kernel_rfl) ?_
      obtain rfl : ({ f_b := b1, f_most := right.2.f_most, f_e := right.2.f_e } : TFieldWriter) = r := (Option.some.inj hf)
      exact ⟨_, rfl, A18, c18, mk16, rfl, (H.pull 1 rfl)⟩
    · rw [hb15]
      refine seg 2 [] [] (by kernel_rfl) ?_
      refine endR [] [] (by kernel_rfl) (by kernel_rfl) ?_
      obtain rfl : right.2 = r := (Option.some.inj hf)
      exact ⟨_, rfl, A14_o0_0, c14_o0_0, mk14, rfl, H⟩
  · rw [hb13]
    have p13 := of_decide_eq_false hb13
    refine seg 10 [.op [1, 1, 0] 6, .co [1, 1, 1]] [(0, .pointer (some (⟨g0, 0, none⟩))), (1, .slice A1_0 b.length c1_0), (8, .pointer (some (⟨g0, 0, none⟩))), (9, .int .i64 0), (13, .int .i64 (IntKind.i64.wrap ((if 65535 < (b.length : Int) then 65535 else (b.length : Int)) + 2)))] (by kernel_rfl) ?_
    have := s1_0.bound
    rw [show IntKind.i64.wrap ((if 65535 < (b.length : Int) then 65535 else (b.length : Int)) + 2) = ((if 65535 < (b.length : Int) then 65535 else (b.length : Int)) + 2) from w64 (by omega)]
    obtain ⟨right1, h_right1, hf⟩ := bindE hf
    obtain ⟨F20, hse20, hFn20, hcl20⟩ := St.call [blkI g0 [.slice A0_0 w_.f_b.length c0_0, .int .i64 w_.f_most, .int .i64 w_.f_e] 120, rowI rU8 5 A0_0 c0_0 w_.f_b] ((H.pull 1 rfl).pull 1 rfl)
    refine st (callR (some 14) 85 #[.pointer (some (⟨g0, 0, none⟩)), .int .i64 0, .int .i64 ((if 65535 < (b.length : Int) then 65535 else (b.length : Int)) + 2)] Try.call85 (field_Writer_right_c H.has g0 w_ A0_0 c0_0 0 ((if 65535 < (b.length : Int) then 65535 else (b.length : Int)) + 2) hse20 hFn20 h_right1) (by kernel_rfl) ?_)
    rintro _ w20 ⟨A20_o0_0, c20_o0_0, mk20, rfl, hS20⟩
    have hsub20 := hS20.sub
    replace H := hcl20 _ _ _ hS20
    refine seg 1 [.co [1, 1, 1]] [(0, .pointer (some (⟨g0, 0, none⟩))), (1, .slice A1_0 b.length c1_0), (14, .bool right1.1)] (by kernel_rfl) ?_
    rcases condT hf with ⟨hb21, hf⟩ | ⟨hb21, hf⟩
    · rw [hb21]
      refine seg 6 [.op [1, 1, 1, 0] 4] [(1, .slice A1_0 b.length c1_0), (15, .pointer (some (⟨g0, 0, none⟩))), (18, .pointer (some (⟨g0, 0, none⟩)))] (by kernel_rfl) ?_
      replace H : St w F m mk20 [blkI g0 [.slice A20_o0_0 right1.2.f_b.length c20_o0_0, .int .i64 right1.2.f_most, .int .i64 right1.2.f_e] 120, rowI rU8 5 A20_o0_0 c20_o0_0 right1.2.f_b] w20 := H
      refine st (ldR (some 19) 30 (⟨g0, 0, none⟩) (.slice A20_o0_0 right1.2.f_b.length c20_o0_0) (by kernel_rfl) (by kernel_rfl) (H.cellB 0 rfl rfl) ?_)
      refine seg 3 [.op [1, 1, 1, 0] 8] [(1, .slice A1_0 b.length c1_0), (15, .pointer (some (⟨g0, 0, none⟩))), (19, .slice A20_o0_0 right1.2.f_b.length c20_o0_0), (22, .int .u64 (IntKind.u64.wrap (b.length : Int)))] (by kernel_rfl) ?_
      rw [q64_wrap (b.length : Int)]
      obtain ⟨store1, h_store1, hf⟩ := bindE hf
      obtain ⟨F22, hse22, hFn22, hcl22⟩ := St.call [rowI rU8 5 A20_o0_0 c20_o0_0 right1.2.f_b] (H.pull 1 rfl)
      refine st (callR (some 23) 79 #[.slice A20_o0_0 right1.2.f_b.length c20_o0_0, .int .u64 ((UInt64.ofInt (b.length : Int)).toNat : Int), .int .i64 2] Try.call79 (field_store_c H.has right1.2.f_b A20_o0_0 c20_o0_0 (UInt64.ofInt (b.length : Int)) 2 hse22 hFn22 h_store1) (by kernel_rfl) ?_)
      rintro _ w22 ⟨A22_0, c22_0, mk22, rfl, hS22⟩
      have hsub22 := hS22.sub
      replace H := hcl22 _ _ _ hS22
      refine seg 1 [.op [1, 1, 1, 0] 10] [(15, .pointer (some (⟨g0, 0, none⟩))), (23, .slice A22_0 store1.length c22_0), (24, .slice A1_0 b.length c1_0)] (by kernel_rfl) ?_
      obtain ⟨xs23, hr23, hx23⟩ := (s1_0.mono (hsub20.trans hsub22)).cs
      obtain ⟨b2, h_b2, hf⟩ := bindE hf
      refine st (appS (r := rU8) (some 25) 30 5 1 (.int .u8 0) 30 0 A22_0 A1_0 c22_0 b.length c1_0 store1 b b2 _ H rfl ⟨Try.underlying30, by kernel_rfl⟩ rfl (by decide) (by kernel_rfl) (hx23.cs H.has) hr23 rfl h_b2 (by decide) (by decide) ?_)
      intro A24 c24 w24 H
      refine seg 2 [.op [1, 1, 1, 0] 13] [(25, .slice A24 b2.length c24), (27, .pointer (some (⟨g0, 0, none⟩)))] (by kernel_rfl) ?_
      refine st (stS none 30 1 g0 0 (.slice A24 b2.length c24) [.slice A20_o0_0 right1.2.f_b.length c20_o0_0, .int .i64 right1.2.f_most, .int .i64 right1.2.f_e] 120 H rfl (by kernel_rfl) (by kernel_rfl) rfl (of_decide_eq_true rfl) ?_)
      intro w25 H
      refine seg 1 [] [] (by kernel_rfl) ?_
      refine endR [] [] (by kernel_rfl) (by kernel_rfl) ?_
      obtain rfl : ({ f_b := b2, f_most := right1.2.f_most, f_e := right1.2.f_e } : TFieldWriter) = r := (Option.some.inj hf)
      exact ⟨_, rfl, A24, c24, mk22, rfl, (H.pull 1 rfl)⟩
    · rw [hb21]
      refine seg 2 [] [] (by kernel_rfl) ?_
      refine endR [] [] (by kernel_rfl) (by kernel_rfl) ?_
      obtain rfl : right1.2 = r := (Option.some.inj hf)
      exact ⟨_, rfl, A20_o0_0, c20_o0_0, mk20, rfl, H⟩
theorem field_copied_c {m : Mem} {w : World} (hm : Has m w) (b : (List UInt8)) (A0_0 : Option Addr) (c0_0 : Nat) (s0_0 : SlI rU8 m A0_0 c0_0 b) {r : (List UInt8)} (hf : field_copied b = some r) :
    Calls Try.prog 80 #[.slice A0_0 b.length c0_0] w fun e w' => ∃ v, e = .returned v ∧ ∃ Az_0 : Option Addr, ∃ cz_0 : Nat, ∃ m' : Mem, v = .slice Az_0 r.length cz_0 ∧ St w noF m m' [rowI rU8 5 Az_0 cz_0 r] w' := by
  unfold field_copied at hf
  have H := St.start0 hm
  refine callsR Try.func80 (by kernel_rfl) (by kernel_rfl) ?_
  refine seg 6 [.op [1, 0] 0, .co [1, 1]] [(0, .slice A0_0 b.length c0_0)] (by kernel_rfl) ?_
  refine st (newS (some 3) (fun g => .slice (some ⟨g, 0, none⟩) 0 0) [] 5 H (by kernel_rfl) ?_)
  intro g1 w1 H
  refine seg 1 [.op [1, 0] 2, .co [1, 1]] [(3, .slice (some ⟨g1, 0, none⟩) 0 0), (4, .slice A0_0 b.length c0_0)] (by kernel_rfl) ?_
  have H := H.toRow (r := rU8) (l := ([] : List UInt8)) 0 rfl (Rows.u8.2 rfl) (Nat.le_of_ble_eq_true rfl)
  obtain ⟨xs2, hr2, hx2⟩ := s0_0.cs
  obtain ⟨b1, h_b1, hf⟩ := bindE hf
  refine st (appS (r := rU8) (some 5) 30 5 1 (.int .u8 0) 30 0 (some ⟨g1, 0, none⟩) A0_0 0 b.length c0_0 ([] : List UInt8) b b1 _ H rfl ⟨Try.underlying30, by kernel_rfl⟩ rfl (by decide) (by kernel_rfl) (hx2.cs H.has) hr2 rfl h_b1 (by decide) (by decide) ?_)
  intro A3 c3 w3 H
  refine seg 2 [.co [1, 1]] [(2, .slice A3 b1.length c3)] (by kernel_rfl) ?_
  refine retR [2] [.slice A3 b1.length c3] (by kernel_rfl) (by kernel_rfl) (by kernel_rfl) ?_
  have hret := (Option.some.inj hf)
  subst hret
  exact ⟨_, rfl, A3, c3, m, rfl, H⟩
theorem field_Writer_Done_c {m : Mem} {w : World} (hm : Has m w) (g0 : Nat) (w_ : TFieldWriter) (A0_0 : Option Addr) (c0_0 : Nat) {F : Nat → Prop} (hsep : Sep m w [blkI g0 [.slice A0_0 w_.f_b.length c0_0, .int .i64 w_.f_most, .int .i64 w_.f_e] 120, rowI rU8 5 A0_0 c0_0 w_.f_b] F) (hF : ∀ k, F k → m k = none) {r : ((List UInt8) × Int)} (hf : field_Writer_Done w_ = some r) :
    Calls Try.prog 60 #[.pointer (some (⟨g0, 0, none⟩))] w fun e w' => ∃ v, e = .returned v ∧ ∃ Az_0 : Option Addr, ∃ cz_0 : Nat, ∃ m' : Mem, v = .tuple #[.slice Az_0 r.1.length cz_0, .int .i64 r.2] ∧ St w F m m' [rowI rU8 5 Az_0 cz_0 r.1, blkI g0 [.slice A0_0 w_.f_b.length c0_0, .int .i64 w_.f_most, .int .i64 w_.f_e] 120, rowI rU8 5 A0_0 c0_0 w_.f_b] w' := by
  unfold field_Writer_Done at hf
  have H := St.start hm hsep hF
  refine callsR Try.func60 (by kernel_rfl) (by kernel_rfl) ?_
  refine seg 19 [.op [1, 0, 0, 1, 1, 0] 3, .co [1, 0, 0, 1, 1, 1], .bl 0, .co [1, 1]] [(0, .pointer (some (⟨g0, 0, none⟩))), (10, .pointer (some (⟨g0, 2, none⟩)))] (by kernel_rfl) ?_
  refine st (ldR (some 11) 31 (⟨g0, 2, none⟩) (.int .i64 w_.f_e) (by kernel_rfl) (by kernel_rfl) (H.cellB 0 rfl rfl) ?_)
  refine seg 3 [.co [1, 0, 0, 1, 1, 1], .bl 0, .co [1, 1]] [(0, .pointer (some (⟨g0, 0, none⟩))), (7, .bool (w_.f_e != 0))] (by kernel_rfl) ?_
  rcases condT hf with ⟨hb3, hf⟩ | ⟨hb3, hf⟩
  · rw [hb3]
    refine seg 2 [.co [1, 0, 0, 1, 1, 1, 0, 0], .co [1, 0, 0, 1, 1, 1, 0, 1], .bl 0, .co [1, 1]] [(0, .pointer (some (⟨g0, 0, none⟩)))] (by kernel_rfl) ?_
    have hst : statB (bodyOf Try.f60) [1, 0, 0, 1, 1, 1, 0, 0] = true := by kernel_rfl
    refine drawS (fun w' => Has m w' ∧ w'.heap[g0]? = some (.cells [.slice A0_0 w_.f_b.length c0_0, .int .i64 w_.f_most, .int .i64 w_.f_e].toArray 120 (0, 0))) H (by kernel_rfl) (by kernel_rfl) ?_
    intro w4 H
    refine segD2 hst [0, 1, 2, 4] [0, 1, 2, 4] [(2, .slice none 0 0), (15, .pointer (some (⟨g0, 2, none⟩)))] (by kernel_rfl) ?_
    refine stD2 (i := 3) (by kernel_rfl) ⟨H.has, H.blk 0 rfl⟩ (ldR (some 16) 31 (⟨g0, 2, none⟩) (.int .i64 w_.f_e) (by kernel_rfl) (by kernel_rfl) (H.cellB 0 rfl rfl) ?_)
    refine segD2 hst [5] [0, 1, 2, 4, 3, 5] [(2, .slice none 0 0), (3, .int .i64 w_.f_e)] (by kernel_rfl) ?_
    refine endD2 (by kernel_rfl) ⟨H.has, H.blk 0 rfl⟩ ?_
    have H := H.nilR rU8 5
    refine retR [2, 3] [.slice none 0 0, .int .i64 w_.f_e] (by kernel_rfl) (by kernel_rfl) (by kernel_rfl) ?_
    obtain rfl : ([], w_.f_e) = r := (Option.some.inj hf)
    exact ⟨_, rfl, none, 0, m, rfl, H⟩
  · rw [hb3]
    refine seg 8 [.op [1, 1, 0] 3, .co [1, 1, 1]] [(19, .pointer (some (⟨g0, 0, none⟩)))] (by kernel_rfl) ?_
    refine st (ldR (some 20) 30 (⟨g0, 0, none⟩) (.slice A0_0 w_.f_b.length c0_0) (by kernel_rfl) (by kernel_rfl) (H.cellB 0 rfl rfl) ?_)
    have H0_5 := H
    obtain ⟨mf6, hsub6, hsf6, H⟩ := H.fixR 1 rfl
    obtain ⟨copied, h_copied, hf⟩ := bindE hf
    refine st (callR (some 21) 80 #[.slice A0_0 w_.f_b.length c0_0] Try.call80 (field_copied_c H.has w_.f_b A0_0 c0_0 hsf6 h_copied) (by kernel_rfl) ?_)
    rintro _ w7 ⟨A7_0, c7_0, mk7, rfl, hS7⟩
    replace H := H0_5.callB hS7 ⟨rowI_ind (fun _ _ _ _ h => h), trivial⟩
    refine seg 3 [.co [1, 1, 1]] [(2, .slice A7_0 copied.length c7_0), (3, .int .i64 0)] (by kernel_rfl) ?_
    refine retR [2, 3] [.slice A7_0 copied.length c7_0, .int .i64 0] (by kernel_rfl) (by kernel_rfl) (by kernel_rfl) ?_
    obtain rfl : (copied, 0) = r := (Option.some.inj hf)
    exact ⟨_, rfl, A7_0, c7_0, m, rfl, H⟩
theorem inode_Encode_c {m : Mem} {w : World} (hm : Has m w) (n_ : TApiInode) (A0_9 : Option Addr) (c0_9 : Nat) (s0_9 : SlI rI64 m A0_9 c0_9 n_.Words) (l0_16 : n_.Target.length ≤ 9223372036854775807) {r : ((List UInt8) × Int)} (hf : inode_Encode n_ = some r) :
    Calls Try.prog 27 #[.agg #[.int .i64 n_.Kind, .int .i64 n_.Mode, .int .i64 n_.Uid, .int .i64 n_.Gid, .int .i64 n_.Time, .int .i64 n_.Links, .int .i64 n_.Attrs, .int .i64 n_.Size, .int .i64 n_.Start, .slice A0_9 n_.Words.length c0_9, .int .i64 n_.Frag, .int .i64 n_.Off, .int .i64 n_.Tail, .int .i64 n_.Dir, .int .i64 n_.Bytes, .int .i64 n_.Parent, .string ⟨n_.Target.toArray⟩, .int .i64 n_.Dev]] w fun e w' => ∃ v, e = .returned v ∧ ∃ Az_0 : Option Addr, ∃ cz_0 : Nat, ∃ m' : Mem, v = .tuple #[.slice Az_0 r.1.length cz_0, .int .i64 r.2] ∧ St w noF m m' [rowI rU8 5 Az_0 cz_0 r.1] w' := by
  unfold inode_Encode at hf
  have H := St.start0 hm
  refine callsR Try.func27 (by kernel_rfl) (by kernel_rfl) ?_
  refine seg 2 [.op [0] 0, .co [1]] [(0, .agg #[.int .i64 n_.Kind, .int .i64 n_.Mode, .int .i64 n_.Uid, .int .i64 n_.Gid, .int .i64 n_.Time, .int .i64 n_.Links, .int .i64 n_.Attrs, .int .i64 n_.Size, .int .i64 n_.Start, .slice A0_9 n_.Words.length c0_9, .int .i64 n_.Frag, .int .i64 n_.Off, .int .i64 n_.Tail, .int .i64 n_.Dir, .int .i64 n_.Bytes, .int .i64 n_.Parent, .string ⟨n_.Target.toArray⟩, .int .i64 n_.Dev])] (by kernel_rfl) ?_
  refine st (newS (some 1) (fun g => .pointer (some ⟨g, 0, none⟩)) [.int .i64 n_.Kind, .int .i64 n_.Mode, .int .i64 n_.Uid, .int .i64 n_.Gid, .int .i64 n_.Time, .int .i64 n_.Links, .int .i64 n_.Attrs, .int .i64 n_.Size, .int .i64 n_.Start, .slice A0_9 n_.Words.length c0_9, .int .i64 n_.Frag, .int .i64 n_.Off, .int .i64 n_.Tail, .int .i64 n_.Dir, .int .i64 n_.Bytes, .int .i64 n_.Parent, .string ⟨n_.Target.toArray⟩, .int .i64 n_.Dev] 46 H (by kernel_rfl) ?_)
  intro g1 w1 H
  refine seg 6 [.op [1, 0, 0] 0, .co [1, 0, 1], .co [1, 1]] [(1, .pointer (some (⟨g1, 0, none⟩)))] (by kernel_rfl) ?_
  refine st (ldAggR (some 9) 46 (⟨g1, 0, none⟩) [.int .i64 n_.Kind, .int .i64 n_.Mode, .int .i64 n_.Uid, .int .i64 n_.Gid, .int .i64 n_.Time, .int .i64 n_.Links, .int .i64 n_.Attrs, .int .i64 n_.Size, .int .i64 n_.Start, .slice A0_9 n_.Words.length c0_9, .int .i64 n_.Frag, .int .i64 n_.Off, .int .i64 n_.Tail, .int .i64 n_.Dir, .int .i64 n_.Bytes, .int .i64 n_.Parent, .string ⟨n_.Target.toArray⟩, .int .i64 n_.Dev] (by kernel_rfl) (by kernel_rfl) (H.cellsB 0 rfl (by rfl)) ?_)
  obtain ⟨check, h_check, hf⟩ := bindE hf
  refine st (callR (some 10) 28 #[.agg #[.int .i64 n_.Kind, .int .i64 n_.Mode, .int .i64 n_.Uid, .int .i64 n_.Gid, .int .i64 n_.Time, .int .i64 n_.Links, .int .i64 n_.Attrs, .int .i64 n_.Size, .int .i64 n_.Start, .slice A0_9 n_.Words.length c0_9, .int .i64 n_.Frag, .int .i64 n_.Off, .int .i64 n_.Tail, .int .i64 n_.Dir, .int .i64 n_.Bytes, .int .i64 n_.Parent, .string ⟨n_.Target.toArray⟩, .int .i64 n_.Dev]] Try.call28 (inode_Check_c H.has n_ A0_9 c0_9 s0_9 l0_16 h_check) (by kernel_rfl) ?_)
  rintro _ w2 ⟨rfl, hx2⟩
  replace H := H.ex hx2
  refine seg 7 [.co [1, 0, 1, 1], .co [1, 1]] [(1, .pointer (some (⟨g1, 0, none⟩))), (4, .int .i64 check), (12, .bool (check != 0))] (by kernel_rfl) ?_
  rcases condT hf with ⟨hb4, hf⟩ | ⟨hb4, hf⟩
  · rw [hb4]
    refine seg 7 [.co [1, 0, 1, 1, 0, 1], .co [1, 1]] [(2, .slice none 0 0), (3, .int .i64 check)] (by kernel_rfl) ?_
    have H := H.nilR rU8 5
    refine retR [2, 3] [.slice none 0 0, .int .i64 check] (by kernel_rfl) (by kernel_rfl) (by kernel_rfl) ?_
    obtain rfl : ([], check) = r := (Option.some.inj hf)
    exact ⟨_, rfl, none, 0, m, rfl, (St.takeN 1 H)⟩
  · rw [hb4]
    refine seg 4 [.op [1, 1, 0] 0, .co [1, 1, 1]] [(1, .pointer (some (⟨g1, 0, none⟩)))] (by kernel_rfl) ?_
    refine st (callR (some 14) 56 #[.int .i64 8388608] Try.call56 (field_NewWriter_c H.has 8388608) (by kernel_rfl) ?_)
    rintro _ w5 ⟨g5_0, A5_0_0, c5_0_0, mk5, rfl, hS5⟩
    have hsub5 := hS5.sub
    replace H := H.call0 hS5
    refine seg 12 [.op [1, 1, 1, 1, 0] 2, .co [1, 1, 1, 1, 1]] [(1, .pointer (some (⟨g1, 0, none⟩))), (5, .pointer (some (⟨g5_0, 0, none⟩))), (6, .func (.func 57) #[.pointer (some (⟨g5_0, 0, none⟩))] #[]), (17, .func (.func 57) #[.pointer (some (⟨g5_0, 0, none⟩))] #[]), (18, .pointer (some (⟨g1, 0, none⟩)))] (by kernel_rfl) ?_
    refine st (ldR (some 19) 3 (⟨g1, 0, none⟩) (.int .i64 n_.Kind) (by kernel_rfl) (by kernel_rfl) (H.cellB 2 rfl rfl) ?_)
    refine seg 1 [.op [1, 1, 1, 1, 0] 4, .co [1, 1, 1, 1, 1]] [(1, .pointer (some (⟨g1, 0, none⟩))), (5, .pointer (some (⟨g5_0, 0, none⟩))), (6, .func (.func 57) #[.pointer (some (⟨g5_0, 0, none⟩))] #[]), (17, .func (.func 57) #[.pointer (some (⟨g5_0, 0, none⟩))] #[]), (20, .int .u64 (IntKind.u64.wrap n_.Kind))] (by kernel_rfl) ?_
    rw [q64_wrap n_.Kind]
    obtain ⟨num, h_num, hf⟩ := bindE hf
    obtain ⟨F6, hse6, hFn6, hcl6⟩ := St.call [blkI g5_0 [.slice A5_0_0 (((field_NewWriter 8388608).f_b).length) c5_0_0, .int .i64 ((field_NewWriter 8388608).f_most), .int .i64 ((field_NewWriter 8388608).f_e)] 120, rowI rU8 5 A5_0_0 c5_0_0 ((field_NewWriter 8388608).f_b)] ((H.pull 1 rfl).pull 1 rfl)
    refine st (callR (some 21) 57 #[.pointer (some (⟨g5_0, 0, none⟩)), .int .u64 ((UInt64.ofInt n_.Kind).toNat : Int), .int .i64 2] Try.call57 (field_Writer_Num_c H.has g5_0 (field_NewWriter 8388608) A5_0_0 c5_0_0 (UInt64.ofInt n_.Kind) 2 hse6 hFn6 h_num) (by kernel_rfl) ?_)
    rintro _ w6 ⟨A6_o0_0, c6_o0_0, mk6, rfl, hS6⟩
    have hsub6 := hS6.sub
    replace H := hcl6 _ _ _ hS6
    refine seg 5 [.op [1, 1, 1, 1, 1, 0] 2, .co [1, 1, 1, 1, 1, 1]] [(1, .pointer (some (⟨g1, 0, none⟩))), (5, .pointer (some (⟨g5_0, 0, none⟩))), (6, .func (.func 57) #[.pointer (some (⟨g5_0, 0, none⟩))] #[]), (22, .func (.func 57) #[.pointer (some (⟨g5_0, 0, none⟩))] #[]), (23, .pointer (some (⟨g1, 1, none⟩)))] (by kernel_rfl) ?_
    replace H : St w noF m mk6 [blkI g5_0 [.slice A6_o0_0 num.f_b.length c6_o0_0, .int .i64 num.f_most, .int .i64 num.f_e] 120, rowI rU8 5 A6_o0_0 c6_o0_0 num.f_b, blkI g1 [.int .i64 n_.Kind, .int .i64 n_.Mode, .int .i64 n_.Uid, .int .i64 n_.Gid, .int .i64 n_.Time, .int .i64 n_.Links, .int .i64 n_.Attrs, .int .i64 n_.Size, .int .i64 n_.Start, .slice A0_9 n_.Words.length c0_9, .int .i64 n_.Frag, .int .i64 n_.Off, .int .i64 n_.Tail, .int .i64 n_.Dir, .int .i64 n_.Bytes, .int .i64 n_.Parent, .string ⟨n_.Target.toArray⟩, .int .i64 n_.Dev] 46] w6 := H
    refine st (ldR (some 24) 3 (⟨g1, 1, none⟩) (.int .i64 n_.Mode) (by kernel_rfl) (by kernel_rfl) (H.cellB 2 rfl rfl) ?_)
    refine seg 1 [.op [1, 1, 1, 1, 1, 0] 4, .co [1, 1, 1, 1, 1, 1]] [(1, .pointer (some (⟨g1, 0, none⟩))), (5, .pointer (some (⟨g5_0, 0, none⟩))), (6, .func (.func 57) #[.pointer (some (⟨g5_0, 0, none⟩))] #[]), (22, .func (.func 57) #[.pointer (some (⟨g5_0, 0, none⟩))] #[]), (25, .int .u64 (IntKind.u64.wrap n_.Mode))] (by kernel_rfl) ?_
    rw [q64_wrap n_.Mode]
    obtain ⟨num1, h_num1, hf⟩ := bindE hf
    obtain ⟨F7, hse7, hFn7, hcl7⟩ := St.call [blkI g5_0 [.slice A6_o0_0 num.f_b.length c6_o0_0, .int .i64 num.f_most, .int .i64 num.f_e] 120, rowI rU8 5 A6_o0_0 c6_o0_0 num.f_b] ((H.pull 1 rfl).pull 1 rfl)
    refine st (callR (some 26) 57 #[.pointer (some (⟨g5_0, 0, none⟩)), .int .u64 ((UInt64.ofInt n_.Mode).toNat : Int), .int .i64 2] Try.call57 (field_Writer_Num_c H.has g5_0 num A6_o0_0 c6_o0_0 (UInt64.ofInt n_.Mode) 2 hse7 hFn7 h_num1) (by kernel_rfl) ?_)
    rintro _ w7 ⟨A7_o0_0, c7_o0_0, mk7, rfl, hS7⟩
    have hsub7 := hS7.sub
    replace H := hcl7 _ _ _ hS7
    refine seg 5 [.op [1, 1, 1, 1, 1, 1, 0] 2, .co [1, 1, 1, 1, 1, 1, 1]] [(1, .pointer (some (⟨g1, 0, none⟩))), (5, .pointer (some (⟨g5_0, 0, none⟩))), (6, .func (.func 57) #[.pointer (some (⟨g5_0, 0, none⟩))] #[]), (27, .func (.func 57) #[.pointer (some (⟨g5_0, 0, none⟩))] #[]), (28, .pointer (some (⟨g1, 2, none⟩)))] (by kernel_rfl) ?_
    refine st (ldR (some 29) 3 (⟨g1, 2, none⟩) (.int .i64 n_.Uid) (by kernel_rfl) (by kernel_rfl) (H.cellB 2 rfl rfl) ?_)
    refine seg 1 [.op [1, 1, 1, 1, 1, 1, 0] 4, .co [1, 1, 1, 1, 1, 1, 1]] [(1, .pointer (some (⟨g1, 0, none⟩))), (5, .pointer (some (⟨g5_0, 0, none⟩))), (6, .func (.func 57) #[.pointer (some (⟨g5_0, 0, none⟩))] #[]), (27, .func (.func 57) #[.pointer (some (⟨g5_0, 0, none⟩))] #[]), (30, .int .u64 (IntKind.u64.wrap n_.Uid))] (by kernel_rfl) ?_
    rw [q64_wrap n_.Uid]
    obtain ⟨num2, h_num2, hf⟩ := bindE hf
    obtain ⟨F8, hse8, hFn8, hcl8⟩ := St.call [blkI g5_0 [.slice A7_o0_0 num1.f_b.length c7_o0_0, .int .i64 num1.f_most, .int .i64 num1.f_e] 120, rowI rU8 5 A7_o0_0 c7_o0_0 num1.f_b] ((H.pull 1 rfl).pull 1 rfl)
    refine st (callR (some 31) 57 #[.pointer (some (⟨g5_0, 0, none⟩)), .int .u64 ((UInt64.ofInt n_.Uid).toNat : Int), .int .i64 2] Try.call57 (field_Writer_Num_c H.has g5_0 num1 A7_o0_0 c7_o0_0 (UInt64.ofInt n_.Uid) 2 hse8 hFn8 h_num2) (by kernel_rfl) ?_)
    rintro _ w8 ⟨A8_o0_0, c8_o0_0, mk8, rfl, hS8⟩
    have hsub8 := hS8.sub
    replace H := hcl8 _ _ _ hS8
    refine seg 5 [.op [1, 1, 1, 1, 1, 1, 1, 0] 2, .co [1, 1, 1, 1, 1, 1, 1, 1]] [(1, .pointer (some (⟨g1, 0, none⟩))), (5, .pointer (some (⟨g5_0, 0, none⟩))), (6, .func (.func 57) #[.pointer (some (⟨g5_0, 0, none⟩))] #[]), (32, .func (.func 57) #[.pointer (some (⟨g5_0, 0, none⟩))] #[]), (33, .pointer (some (⟨g1, 3, none⟩)))] (by kernel_rfl) ?_
    refine st (ldR (some 34) 3 (⟨g1, 3, none⟩) (.int .i64 n_.Gid) (by kernel_rfl) (by kernel_rfl) (H.cellB 2 rfl rfl) ?_)
    refine seg 1 [.op [1, 1, 1, 1, 1, 1, 1, 0] 4, .co [1, 1, 1, 1, 1, 1, 1, 1]] [(1, .pointer (some (⟨g1, 0, none⟩))), (5, .pointer (some (⟨g5_0, 0, none⟩))), (6, .func (.func 57) #[.pointer (some (⟨g5_0, 0, none⟩))] #[]), (32, .func (.func 57) #[.pointer (some (⟨g5_0, 0, none⟩))] #[]), (35, .int .u64 (IntKind.u64.wrap n_.Gid))] (by kernel_rfl) ?_
    rw [q64_wrap n_.Gid]
    obtain ⟨num3, h_num3, hf⟩ := bindE hf
    obtain ⟨F9, hse9, hFn9, hcl9⟩ := St.call [blkI g5_0 [.slice A8_o0_0 num2.f_b.length c8_o0_0, .int .i64 num2.f_most, .int .i64 num2.f_e] 120, rowI rU8 5 A8_o0_0 c8_o0_0 num2.f_b] ((H.pull 1 rfl).pull 1 rfl)
    refine st (callR (some 36) 57 #[.pointer (some (⟨g5_0, 0, none⟩)), .int .u64 ((UInt64.ofInt n_.Gid).toNat : Int), .int .i64 2] Try.call57 (field_Writer_Num_c H.has g5_0 num2 A8_o0_0 c8_o0_0 (UInt64.ofInt n_.Gid) 2 hse9 hFn9 h_num3) (by kernel_rfl) ?_)
    rintro _ w9 ⟨A9_o0_0, c9_o0_0, mk9, rfl, hS9⟩
    have hsub9 := hS9.sub
    replace H := hcl9 _ _ _ hS9
    refine seg 5 [.op [1, 1, 1, 1, 1, 1, 1, 1, 0] 2, .co [1, 1, 1, 1, 1, 1, 1, 1, 1]] [(1, .pointer (some (⟨g1, 0, none⟩))), (5, .pointer (some (⟨g5_0, 0, none⟩))), (6, .func (.func 57) #[.pointer (some (⟨g5_0, 0, none⟩))] #[]), (37, .func (.func 57) #[.pointer (some (⟨g5_0, 0, none⟩))] #[]), (38, .pointer (some (⟨g1, 4, none⟩)))] (by kernel_rfl) ?_
    refine st (ldR (some 39) 3 (⟨g1, 4, none⟩) (.int .i64 n_.Time) (by kernel_rfl) (by kernel_rfl) (H.cellB 2 rfl rfl) ?_)
    refine seg 1 [.op [1, 1, 1, 1, 1, 1, 1, 1, 0] 4, .co [1, 1, 1, 1, 1, 1, 1, 1, 1]] [(1, .pointer (some (⟨g1, 0, none⟩))), (5, .pointer (some (⟨g5_0, 0, none⟩))), (6, .func (.func 57) #[.pointer (some (⟨g5_0, 0, none⟩))] #[]), (37, .func (.func 57) #[.pointer (some (⟨g5_0, 0, none⟩))] #[]), (40, .int .u64 (IntKind.u64.wrap n_.Time))] (by kernel_rfl) ?_
    rw [q64_wrap n_.Time]
    obtain ⟨num4, h_num4, hf⟩ := bindE hf
    obtain ⟨F10, hse10, hFn10, hcl10⟩ := St.call [blkI g5_0 [.slice A9_o0_0 num3.f_b.length c9_o0_0, .int .i64 num3.f_most, .int .i64 num3.f_e] 120, rowI rU8 5 A9_o0_0 c9_o0_0 num3.f_b] ((H.pull 1 rfl).pull 1 rfl)
    refine st (callR (some 41) 57 #[.pointer (some (⟨g5_0, 0, none⟩)), .int .u64 ((UInt64.ofInt n_.Time).toNat : Int), .int .i64 4] Try.call57 (field_Writer_Num_c H.has g5_0 num3 A9_o0_0 c9_o0_0 (UInt64.ofInt n_.Time) 4 hse10 hFn10 h_num4) (by kernel_rfl) ?_)
    rintro _ w10 ⟨A10_o0_0, c10_o0_0, mk10, rfl, hS10⟩
    have hsub10 := hS10.sub
    replace H := hcl10 _ _ _ hS10
    refine seg 5 [.op [1, 1, 1, 1, 1, 1, 1, 1, 1, 0] 2, .co [1, 1, 1, 1, 1, 1, 1, 1, 1, 1]] [(1, .pointer (some (⟨g1, 0, none⟩))), (5, .pointer (some (⟨g5_0, 0, none⟩))), (6, .func (.func 57) #[.pointer (some (⟨g5_0, 0, none⟩))] #[]), (42, .func (.func 57) #[.pointer (some (⟨g5_0, 0, none⟩))] #[]), (43, .pointer (some (⟨g1, 5, none⟩)))] (by kernel_rfl) ?_
    replace H : St w noF m mk10 [blkI g5_0 [.slice A10_o0_0 num4.f_b.length c10_o0_0, .int .i64 num4.f_most, .int .i64 num4.f_e] 120, rowI rU8 5 A10_o0_0 c10_o0_0 num4.f_b, blkI g1 [.int .i64 n_.Kind, .int .i64 n_.Mode, .int .i64 n_.Uid, .int .i64 n_.Gid, .int .i64 n_.Time, .int .i64 n_.Links, .int .i64 n_.Attrs, .int .i64 n_.Size, .int .i64 n_.Start, .slice A0_9 n_.Words.length c0_9, .int .i64 n_.Frag, .int .i64 n_.Off, .int .i64 n_.Tail, .int .i64 n_.Dir, .int .i64 n_.Bytes, .int .i64 n_.Parent, .string ⟨n_.Target.toArray⟩, .int .i64 n_.Dev] 46] w10 := H
    refine st (ldR (some 44) 3 (⟨g1, 5, none⟩) (.int .i64 n_.Links) (by kernel_rfl) (by kernel_rfl) (H.cellB 2 rfl rfl) ?_)
    refine seg 1 [.op [1, 1, 1, 1, 1, 1, 1, 1, 1, 0] 4, .co [1, 1, 1, 1, 1, 1, 1, 1, 1, 1]] [(1, .pointer (some (⟨g1, 0, none⟩))), (5, .pointer (some (⟨g5_0, 0, none⟩))), (6, .func (.func 57) #[.pointer (some (⟨g5_0, 0, none⟩))] #[]), (42, .func (.func 57) #[.pointer (some (⟨g5_0, 0, none⟩))] #[]), (45, .int .u64 (IntKind.u64.wrap n_.Links))] (by kernel_rfl) ?_
    rw [q64_wrap n_.Links]
    obtain ⟨num5, h_num5, hf⟩ := bindE hf
    obtain ⟨F11, hse11, hFn11, hcl11⟩ := St.call [blkI g5_0 [.slice A10_o0_0 num4.f_b.length c10_o0_0, .int .i64 num4.f_most, .int .i64 num4.f_e] 120, rowI rU8 5 A10_o0_0 c10_o0_0 num4.f_b] ((H.pull 1 rfl).pull 1 rfl)
    refine st (callR (some 46) 57 #[.pointer (some (⟨g5_0, 0, none⟩)), .int .u64 ((UInt64.ofInt n_.Links).toNat : Int), .int .i64 4] Try.call57 (field_Writer_Num_c H.has g5_0 num4 A10_o0_0 c10_o0_0 (UInt64.ofInt n_.Links) 4 hse11 hFn11 h_num5) (by kernel_rfl) ?_)
    rintro _ w11 ⟨A11_o0_0, c11_o0_0, mk11, rfl, hS11⟩
    have hsub11 := hS11.sub
    replace H := hcl11 _ _ _ hS11
    refine seg 5 [.op [1, 1, 1, 1, 1, 1, 1, 1, 1, 1, 0] 2, .co [1, 1, 1, 1, 1, 1, 1, 1, 1, 1, 1]] [(1, .pointer (some (⟨g1, 0, none⟩))), (5, .pointer (some (⟨g5_0, 0, none⟩))), (6, .func (.func 57) #[.pointer (some (⟨g5_0, 0, none⟩))] #[]), (47, .func (.func 57) #[.pointer (some (⟨g5_0, 0, none⟩))] #[]), (48, .pointer (some (⟨g1, 6, none⟩)))] (by kernel_rfl) ?_
    refine st (ldR (some 49) 3 (⟨g1, 6, none⟩) (.int .i64 n_.Attrs) (by kernel_rfl) (by kernel_rfl) (H.cellB 2 rfl rfl) ?_)
    refine st (callR (some 50) 58 #[.int .i64 n_.Attrs] Try.call58 (inode_none_c H.has n_.Attrs) (by kernel_rfl) ?_)
    rintro _ w12 ⟨rfl, hx12⟩
    replace H := H.ex hx12
    obtain ⟨num6, h_num6, hf⟩ := bindE hf
    obtain ⟨F13, hse13, hFn13, hcl13⟩ := St.call [blkI g5_0 [.slice A11_o0_0 num5.f_b.length c11_o0_0, .int .i64 num5.f_most, .int .i64 num5.f_e] 120, rowI rU8 5 A11_o0_0 c11_o0_0 num5.f_b] ((H.pull 1 rfl).pull 1 rfl)
    refine st (callR (some 51) 57 #[.pointer (some (⟨g5_0, 0, none⟩)), .int .u64 ((inode_none n_.Attrs).toNat : Int), .int .i64 4] Try.call57 (field_Writer_Num_c H.has g5_0 num5 A11_o0_0 c11_o0_0 (inode_none n_.Attrs) 4 hse13 hFn13 h_num6) (by kernel_rfl) ?_)
    rintro _ w13 ⟨A13_o0_0, c13_o0_0, mk13, rfl, hS13⟩
    have hsub13 := hS13.sub
    replace H := hcl13 _ _ _ hS13
    refine seg 5 [.op [1, 1, 1, 1, 1, 1, 1, 1, 1, 1, 1, 0, 0] 1, .co [1, 1, 1, 1, 1, 1, 1, 1, 1, 1, 1, 0, 1], .co [1, 1, 1, 1, 1, 1, 1, 1, 1, 1, 1, 1]] [(1, .pointer (some (⟨g1, 0, none⟩))), (5, .pointer (some (⟨g5_0, 0, none⟩))), (6, .func (.func 57) #[.pointer (some (⟨g5_0, 0, none⟩))] #[]), (52, .pointer (some (⟨g1, 0, none⟩)))] (by kernel_rfl) ?_
    refine st (ldR (some 53) 3 (⟨g1, 0, none⟩) (.int .i64 n_.Kind) (by kernel_rfl) (by kernel_rfl) (H.cellB 2 rfl rfl) ?_)
    refine seg 1 [.co [1, 1, 1, 1, 1, 1, 1, 1, 1, 1, 1, 0, 1], .co [1, 1, 1, 1, 1, 1, 1, 1, 1, 1, 1, 1]] [(1, .pointer (some (⟨g1, 0, none⟩))), (5, .pointer (some (⟨g5_0, 0, none⟩))), (6, .func (.func 57) #[.pointer (some (⟨g5_0, 0, none⟩))] #[]), (53, .int .i64 n_.Kind)] (by kernel_rfl) ?_
    obtain ⟨y142, hp142, hf⟩ := bindE hf
    refine joinR 0 (fun (x : (List UInt8) × Int × Int × Option Addr × Nat × Mem) => [(5, .pointer (some (⟨g5_0, 0, none⟩)))]) (fun (x : (List UInt8) × Int × Int × Option Addr × Nat × Mem) (wj142 : World) => y142 = (x.1, x.2.1, x.2.2.1) ∧ St w noF m x.2.2.2.2.2 [blkI g5_0 [.slice (x.2.2.2.1) x.1.length (x.2.2.2.2.1), .int .i64 x.2.1, .int .i64 x.2.2.1] 120, rowI rU8 5 (x.2.2.2.1) (x.2.2.2.2.1) x.1] wj142 ∧ Sub mk13 x.2.2.2.2.2) (by kernel_rfl) ?_ ?_
    · refine seg 6 [.co [1, 1, 1, 1, 1, 1, 1, 1, 1, 1, 1, 0, 1, 0, 1], .bl 0, .le 0, .co [1, 1, 1, 1, 1, 1, 1, 1, 1, 1, 1, 1]] [(1, .pointer (some (⟨g1, 0, none⟩))), (5, .pointer (some (⟨g5_0, 0, none⟩))), (6, .func (.func 57) #[.pointer (some (⟨g5_0, 0, none⟩))] #[]), (53, .int .i64 n_.Kind), (59, .bool (n_.Kind == 1))] (by kernel_rfl) ?_
      rcases condT hp142 with ⟨hb144, hp142⟩ | ⟨hb144, hp142⟩
      · rw [hb144]
        refine seg 5 [.op [1, 1, 1, 1, 1, 1, 1, 1, 1, 1, 1, 0, 1, 0, 1, 0, 0] 2, .co [1, 1, 1, 1, 1, 1, 1, 1, 1, 1, 1, 0, 1, 0, 1, 0, 1], .bl 0, .le 0, .co [1, 1, 1, 1, 1, 1, 1, 1, 1, 1, 1, 1]] [(1, .pointer (some (⟨g1, 0, none⟩))), (5, .pointer (some (⟨g5_0, 0, none⟩))), (6, .func (.func 57) #[.pointer (some (⟨g5_0, 0, none⟩))] #[]), (61, .func (.func 57) #[.pointer (some (⟨g5_0, 0, none⟩))] #[]), (62, .pointer (some (⟨g1, 7, none⟩)))] (by kernel_rfl) ?_
        refine st (ldR (some 63) 3 (⟨g1, 7, none⟩) (.int .i64 n_.Size) (by kernel_rfl) (by kernel_rfl) (H.cellB 2 rfl rfl) ?_)
        refine seg 1 [.op [1, 1, 1, 1, 1, 1, 1, 1, 1, 1, 1, 0, 1, 0, 1, 0, 0] 4, .co [1, 1, 1, 1, 1, 1, 1, 1, 1, 1, 1, 0, 1, 0, 1, 0, 1], .bl 0, .le 0, .co [1, 1, 1, 1, 1, 1, 1, 1, 1, 1, 1, 1]] [(1, .pointer (some (⟨g1, 0, none⟩))), (5, .pointer (some (⟨g5_0, 0, none⟩))), (6, .func (.func 57) #[.pointer (some (⟨g5_0, 0, none⟩))] #[]), (61, .func (.func 57) #[.pointer (some (⟨g5_0, 0, none⟩))] #[]), (64, .int .u64 (IntKind.u64.wrap n_.Size))] (by kernel_rfl) ?_
        rw [q64_wrap n_.Size]
        obtain ⟨num7, h_num7, hp142⟩ := bindE hp142
        obtain ⟨F145, hse145, hFn145, hcl145⟩ := St.call [blkI g5_0 [.slice A13_o0_0 num6.f_b.length c13_o0_0, .int .i64 num6.f_most, .int .i64 num6.f_e] 120, rowI rU8 5 A13_o0_0 c13_o0_0 num6.f_b] ((H.pull 1 rfl).pull 1 rfl)
        refine st (callR (some 65) 57 #[.pointer (some (⟨g5_0, 0, none⟩)), .int .u64 ((UInt64.ofInt n_.Size).toNat : Int), .int .i64 8] Try.call57 (field_Writer_Num_c H.has g5_0 num6 A13_o0_0 c13_o0_0 (UInt64.ofInt n_.Size) 8 hse145 hFn145 h_num7) (by kernel_rfl) ?_)
        rintro _ w145 ⟨A145_o0_0, c145_o0_0, mk145, rfl, hS145⟩
        have hsub145 := hS145.sub
        replace H := hcl145 _ _ _ hS145
        refine seg 5 [.op [1, 1, 1, 1, 1, 1, 1, 1, 1, 1, 1, 0, 1, 0, 1, 0, 1, 0] 2, .co [1, 1, 1, 1, 1, 1, 1, 1, 1, 1, 1, 0, 1, 0, 1, 0, 1, 1], .bl 0, .le 0, .co [1, 1, 1, 1, 1, 1, 1, 1, 1, 1, 1, 1]] [(1, .pointer (some (⟨g1, 0, none⟩))), (5, .pointer (some (⟨g5_0, 0, none⟩))), (6, .func (.func 57) #[.pointer (some (⟨g5_0, 0, none⟩))] #[]), (66, .func (.func 57) #[.pointer (some (⟨g5_0, 0, none⟩))] #[]), (67, .pointer (some (⟨g1, 8, none⟩)))] (by kernel_rfl) ?_
        refine st (ldR (some 68) 3 (⟨g1, 8, none⟩) (.int .i64 n_.Start) (by kernel_rfl) (by kernel_rfl) (H.cellB 2 rfl rfl) ?_)
        refine seg 1 [.op [1, 1, 1, 1, 1, 1, 1, 1, 1, 1, 1, 0, 1, 0, 1, 0, 1, 0] 4, .co [1, 1, 1, 1, 1, 1, 1, 1, 1, 1, 1, 0, 1, 0, 1, 0, 1, 1], .bl 0, .le 0, .co [1, 1, 1, 1, 1, 1, 1, 1, 1, 1, 1, 1]] [(1, .pointer (some (⟨g1, 0, none⟩))), (5, .pointer (some (⟨g5_0, 0, none⟩))), (6, .func (.func 57) #[.pointer (some (⟨g5_0, 0, none⟩))] #[]), (66, .func (.func 57) #[.pointer (some (⟨g5_0, 0, none⟩))] #[]), (69, .int .u64 (IntKind.u64.wrap n_.Start))] (by kernel_rfl) ?_
        rw [q64_wrap n_.Start]
        obtain ⟨num8, h_num8, hp142⟩ := bindE hp142
        obtain ⟨F146, hse146, hFn146, hcl146⟩ := St.call [blkI g5_0 [.slice A145_o0_0 num7.f_b.length c145_o0_0, .int .i64 num7.f_most, .int .i64 num7.f_e] 120, rowI rU8 5 A145_o0_0 c145_o0_0 num7.f_b] ((H.pull 1 rfl).pull 1 rfl)
        refine st (callR (some 70) 57 #[.pointer (some (⟨g5_0, 0, none⟩)), .int .u64 ((UInt64.ofInt n_.Start).toNat : Int), .int .i64 4] Try.call57 (field_Writer_Num_c H.has g5_0 num7 A145_o0_0 c145_o0_0 (UInt64.ofInt n_.Start) 4 hse146 hFn146 h_num8) (by kernel_rfl) ?_)
        rintro _ w146 ⟨A146_o0_0, c146_o0_0, mk146, rfl, hS146⟩
        have hsub146 := hS146.sub
        replace H := hcl146 _ _ _ hS146
        refine seg 5 [.op [1, 1, 1, 1, 1, 1, 1, 1, 1, 1, 1, 0, 1, 0, 1, 0, 1, 1, 0] 2, .co [1, 1, 1, 1, 1, 1, 1, 1, 1, 1, 1, 0, 1, 0, 1, 0, 1, 1, 1], .bl 0, .le 0, .co [1, 1, 1, 1, 1, 1, 1, 1, 1, 1, 1, 1]] [(1, .pointer (some (⟨g1, 0, none⟩))), (5, .pointer (some (⟨g5_0, 0, none⟩))), (6, .func (.func 57) #[.pointer (some (⟨g5_0, 0, none⟩))] #[]), (71, .func (.func 57) #[.pointer (some (⟨g5_0, 0, none⟩))] #[]), (72, .pointer (some (⟨g1, 10, none⟩)))] (by kernel_rfl) ?_
        refine st (ldR (some 73) 3 (⟨g1, 10, none⟩) (.int .i64 n_.Frag) (by kernel_rfl) (by kernel_rfl) (H.cellB 2 rfl rfl) ?_)
        refine st (callR (some 74) 58 #[.int .i64 n_.Frag] Try.call58 (inode_none_c H.has n_.Frag) (by kernel_rfl) ?_)
        rintro _ w147 ⟨rfl, hx147⟩
        replace H := H.ex hx147
        replace H : St w noF m mk146 [blkI g5_0 [.slice A146_o0_0 num8.f_b.length c146_o0_0, .int .i64 num8.f_most, .int .i64 num8.f_e] 120, rowI rU8 5 A146_o0_0 c146_o0_0 num8.f_b, blkI g1 [.int .i64 n_.Kind, .int .i64 n_.Mode, .int .i64 n_.Uid, .int .i64 n_.Gid, .int .i64 n_.Time, .int .i64 n_.Links, .int .i64 n_.Attrs, .int .i64 n_.Size, .int .i64 n_.Start, .slice A0_9 n_.Words.length c0_9, .int .i64 n_.Frag, .int .i64 n_.Off, .int .i64 n_.Tail, .int .i64 n_.Dir, .int .i64 n_.Bytes, .int .i64 n_.Parent, .string ⟨n_.Target.toArray⟩, .int .i64 n_.Dev] 46] w147 := H
        obtain ⟨num9, h_num9, hp142⟩ := bindE hp142
        obtain ⟨F148, hse148, hFn148, hcl148⟩ := St.call [blkI g5_0 [.slice A146_o0_0 num8.f_b.length c146_o0_0, .int .i64 num8.f_most, .int .i64 num8.f_e] 120, rowI rU8 5 A146_o0_0 c146_o0_0 num8.f_b] ((H.pull 1 rfl).pull 1 rfl)
        refine st (callR (some 75) 57 #[.pointer (some (⟨g5_0, 0, none⟩)), .int .u64 ((inode_none n_.Frag).toNat : Int), .int .i64 4] Try.call57 (field_Writer_Num_c H.has g5_0 num8 A146_o0_0 c146_o0_0 (inode_none n_.Frag) 4 hse148 hFn148 h_num9) (by kernel_rfl) ?_)
        rintro _ w148 ⟨A148_o0_0, c148_o0_0, mk148, rfl, hS148⟩
        have hsub148 := hS148.sub
        replace H := hcl148 _ _ _ hS148
        refine seg 5 [.op [1, 1, 1, 1, 1, 1, 1, 1, 1, 1, 1, 0, 1, 0, 1, 0, 1, 1, 1, 0] 2, .co [1, 1, 1, 1, 1, 1, 1, 1, 1, 1, 1, 0, 1, 0, 1, 0, 1, 1, 1, 1], .bl 0, .le 0, .co [1, 1, 1, 1, 1, 1, 1, 1, 1, 1, 1, 1]] [(1, .pointer (some (⟨g1, 0, none⟩))), (5, .pointer (some (⟨g5_0, 0, none⟩))), (6, .func (.func 57) #[.pointer (some (⟨g5_0, 0, none⟩))] #[]), (76, .func (.func 57) #[.pointer (some (⟨g5_0, 0, none⟩))] #[]), (77, .pointer (some (⟨g1, 11, none⟩)))] (by kernel_rfl) ?_
        refine st (ldR (some 78) 3 (⟨g1, 11, none⟩) (.int .i64 n_.Off) (by kernel_rfl) (by kernel_rfl) (H.cellB 2 rfl rfl) ?_)
        refine seg 1 [.op [1, 1, 1, 1, 1, 1, 1, 1, 1, 1, 1, 0, 1, 0, 1, 0, 1, 1, 1, 0] 4, .co [1, 1, 1, 1, 1, 1, 1, 1, 1, 1, 1, 0, 1, 0, 1, 0, 1, 1, 1, 1], .bl 0, .le 0, .co [1, 1, 1, 1, 1, 1, 1, 1, 1, 1, 1, 1]] [(1, .pointer (some (⟨g1, 0, none⟩))), (5, .pointer (some (⟨g5_0, 0, none⟩))), (6, .func (.func 57) #[.pointer (some (⟨g5_0, 0, none⟩))] #[]), (76, .func (.func 57) #[.pointer (some (⟨g5_0, 0, none⟩))] #[]), (79, .int .u64 (IntKind.u64.wrap n_.Off))] (by kernel_rfl) ?_
        rw [q64_wrap n_.Off]
        obtain ⟨num10, h_num10, hp142⟩ := bindE hp142
        obtain ⟨F149, hse149, hFn149, hcl149⟩ := St.call [blkI g5_0 [.slice A148_o0_0 num9.f_b.length c148_o0_0, .int .i64 num9.f_most, .int .i64 num9.f_e] 120, rowI rU8 5 A148_o0_0 c148_o0_0 num9.f_b] ((H.pull 1 rfl).pull 1 rfl)
        refine st (callR (some 80) 57 #[.pointer (some (⟨g5_0, 0, none⟩)), .int .u64 ((UInt64.ofInt n_.Off).toNat : Int), .int .i64 4] Try.call57 (field_Writer_Num_c H.has g5_0 num9 A148_o0_0 c148_o0_0 (UInt64.ofInt n_.Off) 4 hse149 hFn149 h_num10) (by kernel_rfl) ?_)
        rintro _ w149 ⟨A149_o0_0, c149_o0_0, mk149, rfl, hS149⟩
        have hsub149 := hS149.sub
        replace H := hcl149 _ _ _ hS149
        refine seg 5 [.op [1, 1, 1, 1, 1, 1, 1, 1, 1, 1, 1, 0, 1, 0, 1, 0, 1, 1, 1, 1, 0] 2, .co [1, 1, 1, 1, 1, 1, 1, 1, 1, 1, 1, 0, 1, 0, 1, 0, 1, 1, 1, 1, 1], .bl 0, .le 0, .co [1, 1, 1, 1, 1, 1, 1, 1, 1, 1, 1, 1]] [(1, .pointer (some (⟨g1, 0, none⟩))), (5, .pointer (some (⟨g5_0, 0, none⟩))), (6, .func (.func 57) #[.pointer (some (⟨g5_0, 0, none⟩))] #[]), (81, .func (.func 57) #[.pointer (some (⟨g5_0, 0, none⟩))] #[]), (82, .pointer (some (⟨g1, 12, none⟩)))] (by kernel_rfl) ?_
        refine st (ldR (some 83) 3 (⟨g1, 12, none⟩) (.int .i64 n_.Tail) (by kernel_rfl) (by kernel_rfl) (H.cellB 2 rfl rfl) ?_)
        refine seg 1 [.op [1, 1, 1, 1, 1, 1, 1, 1, 1, 1, 1, 0, 1, 0, 1, 0, 1, 1, 1, 1, 0] 4, .co [1, 1, 1, 1, 1, 1, 1, 1, 1, 1, 1, 0, 1, 0, 1, 0, 1, 1, 1, 1, 1], .bl 0, .le 0, .co [1, 1, 1, 1, 1, 1, 1, 1, 1, 1, 1, 1]] [(1, .pointer (some (⟨g1, 0, none⟩))), (5, .pointer (some (⟨g5_0, 0, none⟩))), (6, .func (.func 57) #[.pointer (some (⟨g5_0, 0, none⟩))] #[]), (81, .func (.func 57) #[.pointer (some (⟨g5_0, 0, none⟩))] #[]), (84, .int .u64 (IntKind.u64.wrap n_.Tail))] (by kernel_rfl) ?_
        rw [q64_wrap n_.Tail]
        obtain ⟨num11, h_num11, hp142⟩ := bindE hp142
        obtain ⟨F150, hse150, hFn150, hcl150⟩ := St.call [blkI g5_0 [.slice A149_o0_0 num10.f_b.length c149_o0_0, .int .i64 num10.f_most, .int .i64 num10.f_e] 120, rowI rU8 5 A149_o0_0 c149_o0_0 num10.f_b] ((H.pull 1 rfl).pull 1 rfl)
        refine st (callR (some 85) 57 #[.pointer (some (⟨g5_0, 0, none⟩)), .int .u64 ((UInt64.ofInt n_.Tail).toNat : Int), .int .i64 4] Try.call57 (field_Writer_Num_c H.has g5_0 num10 A149_o0_0 c149_o0_0 (UInt64.ofInt n_.Tail) 4 hse150 hFn150 h_num11) (by kernel_rfl) ?_)
        rintro _ w150 ⟨A150_o0_0, c150_o0_0, mk150, rfl, hS150⟩
        have hsub150 := hS150.sub
        replace H := hcl150 _ _ _ hS150
        refine seg 5 [.op [1, 1, 1, 1, 1, 1, 1, 1, 1, 1, 1, 0, 1, 0, 1, 0, 1, 1, 1, 1, 1, 0] 2, .co [1, 1, 1, 1, 1, 1, 1, 1, 1, 1, 1, 0, 1, 0, 1, 0, 1, 1, 1, 1, 1, 1], .bl 0, .le 0, .co [1, 1, 1, 1, 1, 1, 1, 1, 1, 1, 1, 1]] [(1, .pointer (some (⟨g1, 0, none⟩))), (5, .pointer (some (⟨g5_0, 0, none⟩))), (6, .func (.func 57) #[.pointer (some (⟨g5_0, 0, none⟩))] #[]), (86, .func (.func 57) #[.pointer (some (⟨g5_0, 0, none⟩))] #[]), (87, .pointer (some (⟨g1, 9, none⟩)))] (by kernel_rfl) ?_
        refine st (ldR (some 88) 44 (⟨g1, 9, none⟩) (.slice A0_9 n_.Words.length c0_9) (by kernel_rfl) (by kernel_rfl) (H.cellB 2 rfl rfl) ?_)
        refine seg 2 [.op [1, 1, 1, 1, 1, 1, 1, 1, 1, 1, 1, 0, 1, 0, 1, 0, 1, 1, 1, 1, 1, 0] 5, .co [1, 1, 1, 1, 1, 1, 1, 1, 1, 1, 1, 0, 1, 0, 1, 0, 1, 1, 1, 1, 1, 1], .bl 0, .le 0, .co [1, 1, 1, 1, 1, 1, 1, 1, 1, 1, 1, 1]] [(1, .pointer (some (⟨g1, 0, none⟩))), (5, .pointer (some (⟨g5_0, 0, none⟩))), (6, .func (.func 57) #[.pointer (some (⟨g5_0, 0, none⟩))] #[]), (86, .func (.func 57) #[.pointer (some (⟨g5_0, 0, none⟩))] #[]), (90, .int .u64 (IntKind.u64.wrap (n_.Words.length : Int)))] (by kernel_rfl) ?_
        rw [q64_wrap (n_.Words.length : Int)]
        obtain ⟨num12, h_num12, hp142⟩ := bindE hp142
        obtain ⟨F151, hse151, hFn151, hcl151⟩ := St.call [blkI g5_0 [.slice A150_o0_0 num11.f_b.length c150_o0_0, .int .i64 num11.f_most, .int .i64 num11.f_e] 120, rowI rU8 5 A150_o0_0 c150_o0_0 num11.f_b] ((H.pull 1 rfl).pull 1 rfl)
        refine st (callR (some 91) 57 #[.pointer (some (⟨g5_0, 0, none⟩)), .int .u64 ((UInt64.ofInt (n_.Words.length : Int)).toNat : Int), .int .i64 4] Try.call57 (field_Writer_Num_c H.has g5_0 num11 A150_o0_0 c150_o0_0 (UInt64.ofInt (n_.Words.length : Int)) 4 hse151 hFn151 h_num12) (by kernel_rfl) ?_)
        rintro _ w151 ⟨A151_o0_0, c151_o0_0, mk151, rfl, hS151⟩
        have hsub151 := hS151.sub
        replace H := hcl151 _ _ _ hS151
        refine seg 4 [.op [1, 1, 1, 1, 1, 1, 1, 1, 1, 1, 1, 0, 1, 0, 1, 0, 1, 1, 1, 1, 1, 1, 0] 1, .co [1, 1, 1, 1, 1, 1, 1, 1, 1, 1, 1, 0, 1, 0, 1, 0, 1, 1, 1, 1, 1, 1, 1], .bl 0, .le 0, .co [1, 1, 1, 1, 1, 1, 1, 1, 1, 1, 1, 1]] [(5, .pointer (some (⟨g5_0, 0, none⟩))), (6, .func (.func 57) #[.pointer (some (⟨g5_0, 0, none⟩))] #[]), (92, .pointer (some (⟨g1, 9, none⟩)))] (by kernel_rfl) ?_
        replace H : St w noF m mk151 [blkI g5_0 [.slice A151_o0_0 num12.f_b.length c151_o0_0, .int .i64 num12.f_most, .int .i64 num12.f_e] 120, rowI rU8 5 A151_o0_0 c151_o0_0 num12.f_b, blkI g1 [.int .i64 n_.Kind, .int .i64 n_.Mode, .int .i64 n_.Uid, .int .i64 n_.Gid, .int .i64 n_.Time, .int .i64 n_.Links, .int .i64 n_.Attrs, .int .i64 n_.Size, .int .i64 n_.Start, .slice A0_9 n_.Words.length c0_9, .int .i64 n_.Frag, .int .i64 n_.Off, .int .i64 n_.Tail, .int .i64 n_.Dir, .int .i64 n_.Bytes, .int .i64 n_.Parent, .string ⟨n_.Target.toArray⟩, .int .i64 n_.Dev] 46] w151 := H
        refine st (ldR (some 93) 44 (⟨g1, 9, none⟩) (.slice A0_9 n_.Words.length c0_9) (by kernel_rfl) (by kernel_rfl) (H.cellB 2 rfl rfl) ?_)
        refine seg 3 [.co [1, 1, 1, 1, 1, 1, 1, 1, 1, 1, 1, 0, 1, 0, 1, 0, 1, 1, 1, 1, 1, 1, 1], .bl 0, .le 0, .co [1, 1, 1, 1, 1, 1, 1, 1, 1, 1, 1, 1]] [(5, .pointer (some (⟨g5_0, 0, none⟩))), (6, .func (.func 57) #[.pointer (some (⟨g5_0, 0, none⟩))] #[]), (93, .slice A0_9 n_.Words.length c0_9), (94, .int .i64 (n_.Words.length : Int)), (95, .int .i64 0)] (by kernel_rfl) ?_
        obtain ⟨y167, hp167, hp142⟩ := bindE hp142
        refine joinR 1 (fun (x : (List UInt8) × Int × Int × Option Addr × Nat × Mem) => [(5, .pointer (some (⟨g5_0, 0, none⟩)))]) (fun (x : (List UInt8) × Int × Int × Option Addr × Nat × Mem) (wj167 : World) => y167 = (x.1, x.2.1, x.2.2.1) ∧ St w noF m x.2.2.2.2.2 [blkI g5_0 [.slice (x.2.2.2.1) x.1.length (x.2.2.2.2.1), .int .i64 x.2.1, .int .i64 x.2.2.1] 120, rowI rU8 5 (x.2.2.2.1) (x.2.2.2.2.1) x.1] wj167 ∧ Sub mk151 x.2.2.2.2.2) (by kernel_rfl) ?_ ?_
        · refine seg 1 [.co [1, 1, 1, 1, 1, 1, 1, 1, 1, 1, 1, 0, 1, 0, 1, 0, 1, 1, 1, 1, 1, 1, 1, 0], .bl 1, .le 1, .bl 0, .le 0, .co [1, 1, 1, 1, 1, 1, 1, 1, 1, 1, 1, 1]] [(5, .pointer (some (⟨g5_0, 0, none⟩))), (6, .func (.func 57) #[.pointer (some (⟨g5_0, 0, none⟩))] #[]), (93, .slice A0_9 n_.Words.length c0_9), (94, .int .i64 (n_.Words.length : Int)), (95, .int .i64 0)] (by kernel_rfl) ?_
          obtain ⟨nn179, hR179⟩ := loopO_iff.1 hp167
          refine loopR 2 (fun (x : Nat × (List UInt8) × Int × Int × Nat × Option Addr × Nat × Mem) => [(5, .pointer (some (⟨g5_0, 0, none⟩))), (6, .func (.func 57) #[.pointer (some (⟨g5_0, 0, none⟩))] #[]), (93, .slice A0_9 n_.Words.length c0_9), (94, .int .i64 (n_.Words.length : Int)), (95, .int .i64 (x.2.2.2.2.1 : Int))]) (fun (x : Nat × (List UInt8) × Int × Int × Nat × Option Addr × Nat × Mem) (wl179 : World) => iter (fun s => inode_Encode_l1 n_ s.1 s.2.1 s.2.2.1 s.2.2.2) x.1 (x.2.1, x.2.2.1, x.2.2.2.1, x.2.2.2.2.1) = some y167 ∧ St w noF m x.2.2.2.2.2.2.2 [blkI g5_0 [.slice (x.2.2.2.2.2.1) x.2.1.length (x.2.2.2.2.2.2.1), .int .i64 x.2.2.1, .int .i64 x.2.2.2.1] 120, rowI rU8 5 (x.2.2.2.2.2.1) (x.2.2.2.2.2.2.1) x.2.1] wl179 ∧ Sub mk151 x.2.2.2.2.2.2.2) (fun (x : Nat × (List UInt8) × Int × Int × Nat × Option Addr × Nat × Mem) => x.1) (nn179, num12.f_b, num12.f_most, num12.f_e, 0, A151_o0_0, c151_o0_0, mk151) (by kernel_rfl) (by kernel_rfl) (by kernel_rfl) ?_ ?_
          · exact ⟨hR179, (St.takeN 2 ((H.pull 1 rfl).pull 1 rfl)), (Sub.refl _)⟩
          rintro ⟨n179, b, most, e_, t, A_1_180, c_2_180, mm180⟩ wl179 ⟨hR179, H, hsub180⟩
          try dsimp only at hR179
          try dsimp only at H
          try dsimp only at hsub180
          obtain ⟨nk179, q179, rfl, hb_179, hnx179, hfin179⟩ := iterE hR179
          replace hb_179 : inode_Encode_l1 n_ b most e_ t = some q179 := hb_179
          unfold inode_Encode_l1 at hb_179
          refine seg 5 [.co [1, 1, 1, 1, 1, 1, 1, 1, 1, 1, 1, 0, 1, 0, 1, 0, 1, 1, 1, 1, 1, 1, 1, 0, 0, 1, 0], .co [1, 1, 1, 1, 1, 1, 1, 1, 1, 1, 1, 0, 1, 0, 1, 0, 1, 1, 1, 1, 1, 1, 1, 0, 0, 1, 1], .le 2, .bl 1, .le 1, .bl 0, .le 0, .co [1, 1, 1, 1, 1, 1, 1, 1, 1, 1, 1, 1]] [(5, .pointer (some (⟨g5_0, 0, none⟩))), (6, .func (.func 57) #[.pointer (some (⟨g5_0, 0, none⟩))] #[]), (93, .slice A0_9 n_.Words.length c0_9), (94, .int .i64 (n_.Words.length : Int)), (95, .int .i64 (t : Int)), (96, .bool (decide ((t : Int) < (n_.Words.length : Int))))] (by kernel_rfl) ?_
          rcases condT hb_179 with ⟨hb181, hb_179⟩ | ⟨hb181, hb_179⟩
          · rw [hb181]
            have p181 := of_decide_eq_true hb181
            refine seg 6 [.op [1, 1, 1, 1, 1, 1, 1, 1, 1, 1, 1, 0, 1, 0, 1, 0, 1, 1, 1, 1, 1, 1, 1, 0, 0, 1, 1, 0, 0, 0] 0, .co [1, 1, 1, 1, 1, 1, 1, 1, 1, 1, 1, 0, 1, 0, 1, 0, 1, 1, 1, 1, 1, 1, 1, 0, 0, 1, 1, 0, 0, 1], .bl 2, .co [1, 1, 1, 1, 1, 1, 1, 1, 1, 1, 1, 0, 1, 0, 1, 0, 1, 1, 1, 1, 1, 1, 1, 0, 0, 1, 1, 1], .le 2, .bl 1, .le 1, .bl 0, .le 0, .co [1, 1, 1, 1, 1, 1, 1, 1, 1, 1, 1, 1]] [(5, .pointer (some (⟨g5_0, 0, none⟩))), (6, .func (.func 57) #[.pointer (some (⟨g5_0, 0, none⟩))] #[]), (93, .slice A0_9 n_.Words.length c0_9), (94, .int .i64 (n_.Words.length : Int)), (95, .int .i64 (t : Int))] (by kernel_rfl) ?_
            obtain ⟨x_, h_x_, hb_179⟩ := bindE hb_179
            obtain ⟨ad183, _, ea183, rfl, hc183⟩ := (s0_9.mono ((((((((((((((hsub5.trans hsub6).trans hsub7).trans hsub8).trans hsub9).trans hsub10).trans hsub11).trans hsub13).trans hsub145).trans hsub146).trans hsub148).trans hsub149).trans hsub150).trans hsub151).trans hsub180)).at_ h_x_ (by decide)
            refine st (idxS (some 97) 44 3 1 A0_9 ad183 n_.Words.length c0_9 .i64 (t : Int) ea183 (by kernel_rfl) (by kernel_rfl) (by omega) (by have := (List.getElem?_eq_some_iff.1 h_x_).1; omega) ?_)
            refine st (ldR (some 98) 3 (ad183.add (t * 1)) (.int .i64 x_) (by kernel_rfl) (by kernel_rfl) (H.cellI (mc0 (hc183 0 _ rfl))) ?_)
            refine seg 6 [.op [1, 1, 1, 1, 1, 1, 1, 1, 1, 1, 1, 0, 1, 0, 1, 0, 1, 1, 1, 1, 1, 1, 1, 0, 0, 1, 1, 0, 0, 1] 3, .bl 2, .co [1, 1, 1, 1, 1, 1, 1, 1, 1, 1, 1, 0, 1, 0, 1, 0, 1, 1, 1, 1, 1, 1, 1, 0, 0, 1, 1, 1], .le 2, .bl 1, .le 1, .bl 0, .le 0, .co [1, 1, 1, 1, 1, 1, 1, 1, 1, 1, 1, 1]] [(5, .pointer (some (⟨g5_0, 0, none⟩))), (6, .func (.func 57) #[.pointer (some (⟨g5_0, 0, none⟩))] #[]), (93, .slice A0_9 n_.Words.length c0_9), (94, .int .i64 (n_.Words.length : Int)), (95, .int .i64 (t : Int)), (99, .func (.func 57) #[.pointer (some (⟨g5_0, 0, none⟩))] #[]), (101, .int .u64 (IntKind.u64.wrap x_))] (by kernel_rfl) ?_
            rw [q64_wrap x_]
            obtain ⟨num13, h_num13, hb_179⟩ := bindE hb_179
            obtain ⟨F184, hse184, hFn184, hcl184⟩ := St.call [blkI g5_0 [.slice A_1_180 b.length c_2_180, .int .i64 most, .int .i64 e_] 120, rowI rU8 5 A_1_180 c_2_180 b] ((H.pull 1 rfl).pull 1 rfl)
            refine st (callR (some 102) 57 #[.pointer (some (⟨g5_0, 0, none⟩)), .int .u64 ((UInt64.ofInt x_).toNat : Int), .int .i64 4] Try.call57 (field_Writer_Num_c H.has g5_0 ({ f_b := b, f_most := most, f_e := e_ } : TFieldWriter) A_1_180 c_2_180 (UInt64.ofInt x_) 4 hse184 hFn184 h_num13) (by kernel_rfl) ?_)
            rintro _ w184 ⟨A184_o0_0, c184_o0_0, mk184, rfl, hS184⟩
            have hsub184 := hS184.sub
            replace H := hcl184 _ _ _ hS184
            refine seg 6 [.le 2, .bl 1, .le 1, .bl 0, .le 0, .co [1, 1, 1, 1, 1, 1, 1, 1, 1, 1, 1, 1]] [(5, .pointer (some (⟨g5_0, 0, none⟩))), (6, .func (.func 57) #[.pointer (some (⟨g5_0, 0, none⟩))] #[]), (93, .slice A0_9 n_.Words.length c0_9), (94, .int .i64 (n_.Words.length : Int)), (95, .int .i64 (IntKind.i64.wrap ((t : Int) + 1)))] (by kernel_rfl) ?_
            have := s0_9.bound
            rw [show IntKind.i64.wrap ((t : Int) + 1) = ((t : Int) + 1) from w64 (by omega)]
            refine leR (nk179, num13.f_b, num13.f_most, num13.f_e, (t + 1), A184_o0_0, c184_o0_0, mk184) (Nat.lt_succ_self _) ⟨hnx179 _ (Option.some.inj hb_179).symm, H, (hsub180.trans hsub184)⟩ (by kernel_rfl)
          · rw [hb181]
            have p181 := of_decide_eq_false hb181
            refine seg 2 [.le 1, .bl 0, .le 0, .co [1, 1, 1, 1, 1, 1, 1, 1, 1, 1, 1, 1]] [(5, .pointer (some (⟨g5_0, 0, none⟩)))] (by kernel_rfl) ?_
            refine leR_up (k' := []) (by rfl) ?_
            refine leJ (b, most, e_, A_1_180, c_2_180, mm180) ⟨(hfin179 _ (Option.some.inj hb_179).symm).symm, H, hsub180⟩ (by kernel_rfl)
        rintro ⟨b, most, e_, A_1_168, c_2_168, mm168⟩ wj167 ⟨hy167, H, hsub168⟩
        try dsimp only at hy167
        try dsimp only at H
        try dsimp only at hsub168
        rw [hy167] at hp142
        try dsimp only at hp142
        refine seg 1 [.le 0, .co [1, 1, 1, 1, 1, 1, 1, 1, 1, 1, 1, 1]] [(5, .pointer (some (⟨g5_0, 0, none⟩)))] (by kernel_rfl) ?_
        refine leJ (b, most, e_, A_1_168, c_2_168, mm168) ⟨(Option.some.inj hp142).symm, H, ((((((hsub145.trans hsub146).trans hsub148).trans hsub149).trans hsub150).trans hsub151).trans hsub168)⟩ (by kernel_rfl)
      · rw [hb144]
        refine seg 6 [.co [1, 1, 1, 1, 1, 1, 1, 1, 1, 1, 1, 0, 1, 0, 1, 1, 1], .bl 0, .le 0, .co [1, 1, 1, 1, 1, 1, 1, 1, 1, 1, 1, 1]] [(1, .pointer (some (⟨g1, 0, none⟩))), (5, .pointer (some (⟨g5_0, 0, none⟩))), (6, .func (.func 57) #[.pointer (some (⟨g5_0, 0, none⟩))] #[]), (53, .int .i64 n_.Kind), (104, .bool (n_.Kind == 2))] (by kernel_rfl) ?_
        rcases condT hp142 with ⟨hb185, hp142⟩ | ⟨hb185, hp142⟩
        · rw [hb185]
          refine seg 5 [.op [1, 1, 1, 1, 1, 1, 1, 1, 1, 1, 1, 0, 1, 0, 1, 1, 1, 0, 0] 2, .co [1, 1, 1, 1, 1, 1, 1, 1, 1, 1, 1, 0, 1, 0, 1, 1, 1, 0, 1], .bl 0, .le 0, .co [1, 1, 1, 1, 1, 1, 1, 1, 1, 1, 1, 1]] [(1, .pointer (some (⟨g1, 0, none⟩))), (5, .pointer (some (⟨g5_0, 0, none⟩))), (6, .func (.func 57) #[.pointer (some (⟨g5_0, 0, none⟩))] #[]), (106, .func (.func 57) #[.pointer (some (⟨g5_0, 0, none⟩))] #[]), (107, .pointer (some (⟨g1, 13, none⟩)))] (by kernel_rfl) ?_
          refine st (ldR (some 108) 3 (⟨g1, 13, none⟩) (.int .i64 n_.Dir) (by kernel_rfl) (by kernel_rfl) (H.cellB 2 rfl rfl) ?_)
          refine seg 1 [.op [1, 1, 1, 1, 1, 1, 1, 1, 1, 1, 1, 0, 1, 0, 1, 1, 1, 0, 0] 4, .co [1, 1, 1, 1, 1, 1, 1, 1, 1, 1, 1, 0, 1, 0, 1, 1, 1, 0, 1], .bl 0, .le 0, .co [1, 1, 1, 1, 1, 1, 1, 1, 1, 1, 1, 1]] [(1, .pointer (some (⟨g1, 0, none⟩))), (5, .pointer (some (⟨g5_0, 0, none⟩))), (6, .func (.func 57) #[.pointer (some (⟨g5_0, 0, none⟩))] #[]), (106, .func (.func 57) #[.pointer (some (⟨g5_0, 0, none⟩))] #[]), (109, .int .u64 (IntKind.u64.wrap n_.Dir))] (by kernel_rfl) ?_
          rw [q64_wrap n_.Dir]
          obtain ⟨num14, h_num14, hp142⟩ := bindE hp142
          obtain ⟨F186, hse186, hFn186, hcl186⟩ := St.call [blkI g5_0 [.slice A13_o0_0 num6.f_b.length c13_o0_0, .int .i64 num6.f_most, .int .i64 num6.f_e] 120, rowI rU8 5 A13_o0_0 c13_o0_0 num6.f_b] ((H.pull 1 rfl).pull 1 rfl)
          refine st (callR (some 110) 57 #[.pointer (some (⟨g5_0, 0, none⟩)), .int .u64 ((UInt64.ofInt n_.Dir).toNat : Int), .int .i64 4] Try.call57 (field_Writer_Num_c H.has g5_0 num6 A13_o0_0 c13_o0_0 (UInt64.ofInt n_.Dir) 4 hse186 hFn186 h_num14) (by kernel_rfl) ?_)
          rintro _ w186 ⟨A186_o0_0, c186_o0_0, mk186, rfl, hS186⟩
          have hsub186 := hS186.sub
          replace H := hcl186 _ _ _ hS186
          refine seg 5 [.op [1, 1, 1, 1, 1, 1, 1, 1, 1, 1, 1, 0, 1, 0, 1, 1, 1, 0, 1, 0] 2, .co [1, 1, 1, 1, 1, 1, 1, 1, 1, 1, 1, 0, 1, 0, 1, 1, 1, 0, 1, 1], .bl 0, .le 0, .co [1, 1, 1, 1, 1, 1, 1, 1, 1, 1, 1, 1]] [(1, .pointer (some (⟨g1, 0, none⟩))), (5, .pointer (some (⟨g5_0, 0, none⟩))), (6, .func (.func 57) #[.pointer (some (⟨g5_0, 0, none⟩))] #[]), (111, .func (.func 57) #[.pointer (some (⟨g5_0, 0, none⟩))] #[]), (112, .pointer (some (⟨g1, 14, none⟩)))] (by kernel_rfl) ?_
          refine st (ldR (some 113) 3 (⟨g1, 14, none⟩) (.int .i64 n_.Bytes) (by kernel_rfl) (by kernel_rfl) (H.cellB 2 rfl rfl) ?_)
          refine seg 1 [.op [1, 1, 1, 1, 1, 1, 1, 1, 1, 1, 1, 0, 1, 0, 1, 1, 1, 0, 1, 0] 4, .co [1, 1, 1, 1, 1, 1, 1, 1, 1, 1, 1, 0, 1, 0, 1, 1, 1, 0, 1, 1], .bl 0, .le 0, .co [1, 1, 1, 1, 1, 1, 1, 1, 1, 1, 1, 1]] [(1, .pointer (some (⟨g1, 0, none⟩))), (5, .pointer (some (⟨g5_0, 0, none⟩))), (6, .func (.func 57) #[.pointer (some (⟨g5_0, 0, none⟩))] #[]), (111, .func (.func 57) #[.pointer (some (⟨g5_0, 0, none⟩))] #[]), (114, .int .u64 (IntKind.u64.wrap n_.Bytes))] (by kernel_rfl) ?_
          rw [q64_wrap n_.Bytes]
          obtain ⟨num15, h_num15, hp142⟩ := bindE hp142
          obtain ⟨F187, hse187, hFn187, hcl187⟩ := St.call [blkI g5_0 [.slice A186_o0_0 num14.f_b.length c186_o0_0, .int .i64 num14.f_most, .int .i64 num14.f_e] 120, rowI rU8 5 A186_o0_0 c186_o0_0 num14.f_b] ((H.pull 1 rfl).pull 1 rfl)
          refine st (callR (some 115) 57 #[.pointer (some (⟨g5_0, 0, none⟩)), .int .u64 ((UInt64.ofInt n_.Bytes).toNat : Int), .int .i64 4] Try.call57 (field_Writer_Num_c H.has g5_0 num14 A186_o0_0 c186_o0_0 (UInt64.ofInt n_.Bytes) 4 hse187 hFn187 h_num15) (by kernel_rfl) ?_)
          rintro _ w187 ⟨A187_o0_0, c187_o0_0, mk187, rfl, hS187⟩
          have hsub187 := hS187.sub
          replace H := hcl187 _ _ _ hS187
          refine seg 4 [.op [1, 1, 1, 1, 1, 1, 1, 1, 1, 1, 1, 0, 1, 0, 1, 1, 1, 0, 1, 1] 2, .bl 0, .le 0, .co [1, 1, 1, 1, 1, 1, 1, 1, 1, 1, 1, 1]] [(5, .pointer (some (⟨g5_0, 0, none⟩))), (116, .func (.func 57) #[.pointer (some (⟨g5_0, 0, none⟩))] #[]), (117, .pointer (some (⟨g1, 15, none⟩)))] (by kernel_rfl) ?_
          replace H : St w noF m mk187 [blkI g5_0 [.slice A187_o0_0 num15.f_b.length c187_o0_0, .int .i64 num15.f_most, .int .i64 num15.f_e] 120, rowI rU8 5 A187_o0_0 c187_o0_0 num15.f_b, blkI g1 [.int .i64 n_.Kind, .int .i64 n_.Mode, .int .i64 n_.Uid, .int .i64 n_.Gid, .int .i64 n_.Time, .int .i64 n_.Links, .int .i64 n_.Attrs, .int .i64 n_.Size, .int .i64 n_.Start, .slice A0_9 n_.Words.length c0_9, .int .i64 n_.Frag, .int .i64 n_.Off, .int .i64 n_.Tail, .int .i64 n_.Dir, .int .i64 n_.Bytes, .int .i64 n_.Parent, .string ⟨n_.Target.toArray⟩, .int .i64 n_.Dev] 46] w187 := H
          refine st (ldR (some 118) 3 (⟨g1, 15, none⟩) (.int .i64 n_.Parent) (by kernel_rfl) (by kernel_rfl) (H.cellB 2 rfl rfl) ?_)
          refine seg 1 [.op [1, 1, 1, 1, 1, 1, 1, 1, 1, 1, 1, 0, 1, 0, 1, 1, 1, 0, 1, 1] 4, .bl 0, .le 0, .co [1, 1, 1, 1, 1, 1, 1, 1, 1, 1, 1, 1]] [(5, .pointer (some (⟨g5_0, 0, none⟩))), (116, .func (.func 57) #[.pointer (some (⟨g5_0, 0, none⟩))] #[]), (119, .int .u64 (IntKind.u64.wrap n_.Parent))] (by kernel_rfl) ?_
          rw [q64_wrap n_.Parent]
          obtain ⟨num16, h_num16, hp142⟩ := bindE hp142
          obtain ⟨F188, hse188, hFn188, hcl188⟩ := St.call [blkI g5_0 [.slice A187_o0_0 num15.f_b.length c187_o0_0, .int .i64 num15.f_most, .int .i64 num15.f_e] 120, rowI rU8 5 A187_o0_0 c187_o0_0 num15.f_b] ((H.pull 1 rfl).pull 1 rfl)
          refine st (callR (some 120) 57 #[.pointer (some (⟨g5_0, 0, none⟩)), .int .u64 ((UInt64.ofInt n_.Parent).toNat : Int), .int .i64 4] Try.call57 (field_Writer_Num_c H.has g5_0 num15 A187_o0_0 c187_o0_0 (UInt64.ofInt n_.Parent) 4 hse188 hFn188 h_num16) (by kernel_rfl) ?_)
          rintro _ w188 ⟨A188_o0_0, c188_o0_0, mk188, rfl, hS188⟩
          have hsub188 := hS188.sub
          replace H := hcl188 _ _ _ hS188
          refine seg 2 [.le 0, .co [1, 1, 1, 1, 1, 1, 1, 1, 1, 1, 1, 1]] [(5, .pointer (some (⟨g5_0, 0, none⟩)))] (by kernel_rfl) ?_
          refine leJ (num16.f_b, num16.f_most, num16.f_e, A188_o0_0, c188_o0_0, mk188) ⟨(Option.some.inj hp142).symm, (St.takeN 2 ((H.pull 1 rfl).pull 1 rfl)), ((hsub186.trans hsub187).trans hsub188)⟩ (by kernel_rfl)
        · rw [hb185]
          refine seg 6 [.co [1, 1, 1, 1, 1, 1, 1, 1, 1, 1, 1, 0, 1, 0, 1, 1, 1, 1, 1], .bl 0, .le 0, .co [1, 1, 1, 1, 1, 1, 1, 1, 1, 1, 1, 1]] [(1, .pointer (some (⟨g1, 0, none⟩))), (5, .pointer (some (⟨g5_0, 0, none⟩))), (6, .func (.func 57) #[.pointer (some (⟨g5_0, 0, none⟩))] #[]), (121, .bool (n_.Kind == 3))] (by kernel_rfl) ?_
          rcases condT hp142 with ⟨hb189, hp142⟩ | ⟨hb189, hp142⟩
          · rw [hb189]
            refine seg 4 [.op [1, 1, 1, 1, 1, 1, 1, 1, 1, 1, 1, 0, 1, 0, 1, 1, 1, 1, 1, 0] 2, .bl 0, .le 0, .co [1, 1, 1, 1, 1, 1, 1, 1, 1, 1, 1, 1]] [(5, .pointer (some (⟨g5_0, 0, none⟩))), (123, .pointer (some (⟨g5_0, 0, none⟩))), (124, .pointer (some (⟨g1, 16, none⟩)))] (by kernel_rfl) ?_
            refine st (ldR (some 125) 9 (⟨g1, 16, none⟩) (.string ⟨n_.Target.toArray⟩) (by kernel_rfl) (by kernel_rfl) (H.cellB 2 rfl rfl) ?_)
            refine st (s2bS (some 126) 9 30 5 n_.Target H Try.underlying9 Try.underlying30 Try.underlying5 (by kernel_rfl) ?_ l0_16)
            intro A190 c190 mc190 w190 hsub190 hs190 H
            obtain ⟨text, h_text, hp142⟩ := bindE hp142
            obtain ⟨F191, hse191, hFn191, hcl191⟩ := St.call [blkI g5_0 [.slice A13_o0_0 num6.f_b.length c13_o0_0, .int .i64 num6.f_most, .int .i64 num6.f_e] 120, rowI rU8 5 A13_o0_0 c13_o0_0 num6.f_b] ((H.pull 1 rfl).pull 1 rfl)
            refine st (callR (some 127) 59 #[.pointer (some (⟨g5_0, 0, none⟩)), .slice A190 n_.Target.length c190] Try.call59 (field_Writer_Text_c H.has g5_0 num6 A13_o0_0 c13_o0_0 n_.Target A190 c190 hs190 hse191 hFn191 h_text) (by kernel_rfl) ?_)
            rintro _ w191 ⟨A191_o0_0, c191_o0_0, mk191, rfl, hS191⟩
            have hsub191 := hS191.sub
            replace H := hcl191 _ _ _ hS191
            refine seg 2 [.le 0, .co [1, 1, 1, 1, 1, 1, 1, 1, 1, 1, 1, 1]] [(5, .pointer (some (⟨g5_0, 0, none⟩)))] (by kernel_rfl) ?_
            refine leJ (text.f_b, text.f_most, text.f_e, A191_o0_0, c191_o0_0, mk191) ⟨(Option.some.inj hp142).symm, (St.takeN 2 ((H.pull 1 rfl).pull 1 rfl)), (hsub190.trans hsub191)⟩ (by kernel_rfl)
          · rw [hb189]
            refine seg 4 [.op [1, 1, 1, 1, 1, 1, 1, 1, 1, 1, 1, 0, 1, 0, 1, 1, 1, 1, 1, 1] 2, .bl 0, .le 0, .co [1, 1, 1, 1, 1, 1, 1, 1, 1, 1, 1, 1]] [(5, .pointer (some (⟨g5_0, 0, none⟩))), (54, .func (.func 57) #[.pointer (some (⟨g5_0, 0, none⟩))] #[]), (55, .pointer (some (⟨g1, 17, none⟩)))] (by kernel_rfl) ?_
            refine st (ldR (some 56) 3 (⟨g1, 17, none⟩) (.int .i64 n_.Dev) (by kernel_rfl) (by kernel_rfl) (H.cellB 2 rfl rfl) ?_)
            refine seg 1 [.op [1, 1, 1, 1, 1, 1, 1, 1, 1, 1, 1, 0, 1, 0, 1, 1, 1, 1, 1, 1] 4, .bl 0, .le 0, .co [1, 1, 1, 1, 1, 1, 1, 1, 1, 1, 1, 1]] [(5, .pointer (some (⟨g5_0, 0, none⟩))), (54, .func (.func 57) #[.pointer (some (⟨g5_0, 0, none⟩))] #[]), (57, .int .u64 (IntKind.u64.wrap n_.Dev))] (by kernel_rfl) ?_
            rw [q64_wrap n_.Dev]
            obtain ⟨num17, h_num17, hp142⟩ := bindE hp142
            obtain ⟨F192, hse192, hFn192, hcl192⟩ := St.call [blkI g5_0 [.slice A13_o0_0 num6.f_b.length c13_o0_0, .int .i64 num6.f_most, .int .i64 num6.f_e] 120, rowI rU8 5 A13_o0_0 c13_o0_0 num6.f_b] ((H.pull 1 rfl).pull 1 rfl)
            refine st (callR (some 58) 57 #[.pointer (some (⟨g5_0, 0, none⟩)), .int .u64 ((UInt64.ofInt n_.Dev).toNat : Int), .int .i64 4] Try.call57 (field_Writer_Num_c H.has g5_0 num6 A13_o0_0 c13_o0_0 (UInt64.ofInt n_.Dev) 4 hse192 hFn192 h_num17) (by kernel_rfl) ?_)
            rintro _ w192 ⟨A192_o0_0, c192_o0_0, mk192, rfl, hS192⟩
            have hsub192 := hS192.sub
            replace H := hcl192 _ _ _ hS192
            refine seg 2 [.le 0, .co [1, 1, 1, 1, 1, 1, 1, 1, 1, 1, 1, 1]] [(5, .pointer (some (⟨g5_0, 0, none⟩)))] (by kernel_rfl) ?_
            refine leJ (num17.f_b, num17.f_most, num17.f_e, A192_o0_0, c192_o0_0, mk192) ⟨(Option.some.inj hp142).symm, (St.takeN 2 ((H.pull 1 rfl).pull 1 rfl)), hsub192⟩ (by kernel_rfl)
    rintro ⟨b, most, e_, A_1_143, c_2_143, mm143⟩ wj142 ⟨hy142, H, hsub143⟩
    try dsimp only at hy142
    try dsimp only at H
    try dsimp only at hsub143
    rw [hy142] at hf
    try dsimp only at hf
    refine seg 3 [.op [1, 1, 1, 1, 1, 1, 1, 1, 1, 1, 1, 1, 0] 1, .co [1, 1, 1, 1, 1, 1, 1, 1, 1, 1, 1, 1, 1]] [(128, .pointer (some (⟨g5_0, 0, none⟩)))] (by kernel_rfl) ?_
    replace H : St w noF m mm143 [blkI g5_0 [.slice A_1_143 b.length c_2_143, .int .i64 most, .int .i64 e_] 120, rowI rU8 5 A_1_143 c_2_143 b] wj142 := H
    obtain ⟨done, h_done, hf⟩ := bindE hf
    obtain ⟨F193, hse193, hFn193, hcl193⟩ := St.call [blkI g5_0 [.slice A_1_143 b.length c_2_143, .int .i64 most, .int .i64 e_] 120, rowI rU8 5 A_1_143 c_2_143 b] ((H.pull 1 rfl).pull 1 rfl)
    refine st (callR (some 129) 60 #[.pointer (some (⟨g5_0, 0, none⟩))] Try.call60 (field_Writer_Done_c H.has g5_0 ({ f_b := b, f_most := most, f_e := e_ } : TFieldWriter) A_1_143 c_2_143 hse193 hFn193 h_done) (by kernel_rfl) ?_)
    rintro _ w193 ⟨A193_0, c193_0, mk193, rfl, hS193⟩
    have hsub193 := hS193.sub
    replace H := hcl193 _ _ _ hS193
    refine seg 5 [.co [1, 1, 1, 1, 1, 1, 1, 1, 1, 1, 1, 1, 1]] [(2, .slice A193_0 done.1.length c193_0), (3, .int .i64 done.2)] (by kernel_rfl) ?_
    refine retR [2, 3] [.slice A193_0 done.1.length c193_0, .int .i64 done.2] (by kernel_rfl) (by kernel_rfl) (by kernel_rfl) ?_
    obtain rfl : (done.1, done.2) = r := (Option.some.inj hf)
    exact ⟨_, rfl, A193_0, c193_0, mk193, rfl, (St.takeN 1 H)⟩
theorem law15_num_c {m : Mem} {w : World} (hm : Has m w) (e_ : Int) :
    Calls Try.prog 26 #[.int .i64 e_] w fun e w' => ∃ v, e = .returned v ∧ v = .int .i64 (law15_num e_) ∧ Ex w w' := by
  generalize hf : law15_num e_ = r
  unfold law15_num at hf
  have H := St.start0 hm
  refine callsR Try.func26 (by kernel_rfl) (by kernel_rfl) ?_
  refine seg 9 [.co [1, 1]] [(2, .int .i64 e_)] (by kernel_rfl) ?_
  refine retR [2] [.int .i64 e_] (by kernel_rfl) (by kernel_rfl) (by kernel_rfl) ?_
  have hret := hf
  subst hret
  exact ⟨_, rfl, rfl, H.scalar⟩
theorem law15_live_c {m : Mem} {w : World} (hm : Has m w) {r : Bool} (hf : law15_live = some r) :
    Calls Try.prog 23 #[] w fun e w' => ∃ v, e = .returned v ∧ v = .bool r ∧ Ex w w' := by
  unfold law15_live at hf
  have H := St.start0 hm
  refine callsR Try.func23 (by kernel_rfl) (by kernel_rfl) ?_
  refine seg 7 [.op [1, 0] 1, .co [1, 1]] [(4, .agg #[.int .i64 5, .int .i64 384, .int .i64 0, .int .i64 0, .int .i64 0, .int .i64 1, .int .i64 (-1), .int .i64 0, .int .i64 0, .slice none 0 0, .int .i64 0, .int .i64 0, .int .i64 0, .int .i64 0, .int .i64 0, .int .i64 0, .string ⟨([] : List UInt8).toArray⟩, .int .i64 5])] (by kernel_rfl) ?_
  obtain ⟨encode, h_encode, hf⟩ := bindE hf
  refine st (callR (some 5) 27 #[.agg #[.int .i64 5, .int .i64 384, .int .i64 0, .int .i64 0, .int .i64 0, .int .i64 1, .int .i64 (-1), .int .i64 0, .int .i64 0, .slice none 0 0, .int .i64 0, .int .i64 0, .int .i64 0, .int .i64 0, .int .i64 0, .int .i64 0, .string ⟨([] : List UInt8).toArray⟩, .int .i64 5]] Try.call27 (inode_Encode_c H.has ({ Kind := 5, Mode := 384, Uid := 0, Gid := 0, Time := 0, Links := 1, Attrs := (-1), Size := 0, Start := 0, Words := [], Frag := 0, Off := 0, Tail := 0, Dir := 0, Bytes := 0, Parent := 0, Target := ([] : List UInt8), Dev := 5 } : TApiInode) none 0 (SlI.nil _ _) (Nat.le_of_ble_eq_true rfl) h_encode) (by kernel_rfl) ?_)
  rintro _ w1 ⟨A1_0, c1_0, mk1, rfl, hS1⟩
  have hsub1 := hS1.sub
  replace H := H.call0 hS1
  refine seg 9 [.op [1, 1, 0] 1, .co [1, 1, 1]] [(1, .slice A1_0 encode.1.length c1_0), (8, .int .i64 encode.2)] (by kernel_rfl) ?_
  refine st (callR (some 9) 26 #[.int .i64 encode.2] Try.call26 (law15_num_c H.has encode.2) (by kernel_rfl) ?_)
  rintro _ w5 ⟨rfl, hx5⟩
  replace H := H.ex hx5
  refine seg 2 [.op [1, 1, 0] 4, .co [1, 1, 1]] [(1, .slice A1_0 encode.1.length c1_0), (11, .bool ((law15_num encode.2) == 0))] (by kernel_rfl) ?_
  rcases condT hf with ⟨hb6, hf⟩ | ⟨hb6, hf⟩
  · rw [hb6]
    refine seg 1 [.op [1, 1, 0] 5, .co [1, 1, 1]] [(11, .bool true), (12, .slice A1_0 encode.1.length c1_0)] (by kernel_rfl) ?_
    refine st (b2sS (some 13) 30 9 5 A1_0 c1_0 encode.1 Try.underlying30 Try.underlying5 Try.underlying9 (by kernel_rfl) (H.rowCs 0 rfl) ?_)
    have hl7 : encode.1.length ≤ 9223372036854775807 := (Nat.le_trans (H.rowCap 0 rfl).1 (H.rowCap 0 rfl).2)
    refine seg 4 [.co [1, 1, 1]] [(0, .bool ((ByteArray.toList ⟨encode.1.toArray⟩) == (ByteArray.toList ⟨([5, 0, 128, 1, 0, 0, 0, 0, 0, 0, 0, 0, 1, 0, 0, 0, 255, 255, 255, 255, 5, 0, 0, 0] : List UInt8).toArray⟩)))] (by kernel_rfl) ?_
    rw [seq_raw encode.1 ([5, 0, 128, 1, 0, 0, 0, 0, 0, 0, 0, 0, 1, 0, 0, 0, 255, 255, 255, 255, 5, 0, 0, 0] : List UInt8)]
    refine retR [0] [.bool (encode.1 == ([5, 0, 128, 1, 0, 0, 0, 0, 0, 0, 0, 0, 1, 0, 0, 0, 255, 255, 255, 255, 5, 0, 0, 0] : List UInt8))] (by kernel_rfl) (by kernel_rfl) (by kernel_rfl) ?_
    obtain rfl : (encode.1 == ([5, 0, 128, 1, 0, 0, 0, 0, 0, 0, 0, 0, 1, 0, 0, 0, 255, 255, 255, 255, 5, 0, 0, 0] : List UInt8)) = r := (Option.some.inj hf)
    exact ⟨_, rfl, rfl, H.scalar⟩
  · rw [hb6]
    refine seg 6 [.co [1, 1, 1]] [(0, .bool false)] (by kernel_rfl) ?_
    refine retR [0] [.bool false] (by kernel_rfl) (by kernel_rfl) (by kernel_rfl) ?_
    have hret := (Option.some.inj hf)
    subst hret
    exact ⟨_, rfl, rfl, H.scalar⟩
end Go.Proofs.Ytebbaokcgnjfiaa.F
