/- The code computes them: printed by lift.py, part 3. -/
import Derived.Test.YtebbaokcgnjfiaaProg
import Derived.Test.YtebbaokcgnjfiaaLAP
import Derived.Test.YtebbaokcgnjfiaaLA2
set_option linter.unusedVariables false
set_option linter.unusedSimpArgs false
namespace Go.Proofs.Ytebbaokcgnjfiaa.F
open Go Go.RowKit Go.Proofs.Ytebbaokcgnjfiaa Go.Proofs.Ytebbaokcgnjfiaa.K
set_option maxRecDepth 100000
theorem law15_InodeEncodes_c {m : Mem} {w : World} (hm : Has m w) (n_ : TApiInode) (A0_9 : Option Addr) (c0_9 : Nat) (s0_9 : SlI rI64 m A0_9 c0_9 n_.Words) (l0_16 : n_.Target.length ≤ 9223372036854775807) {r : Bool} (hf : law15_InodeEncodes n_ = some r) :
    Calls Try.prog 8 #[.agg #[.int .i64 n_.Kind, .int .i64 n_.Mode, .int .i64 n_.Uid, .int .i64 n_.Gid, .int .i64 n_.Time, .int .i64 n_.Links, .int .i64 n_.Attrs, .int .i64 n_.Size, .int .i64 n_.Start, .slice A0_9 n_.Words.length c0_9, .int .i64 n_.Frag, .int .i64 n_.Off, .int .i64 n_.Tail, .int .i64 n_.Dir, .int .i64 n_.Bytes, .int .i64 n_.Parent, .string ⟨n_.Target.toArray⟩, .int .i64 n_.Dev]] w fun e w' => ∃ v, e = .returned v ∧ v = .bool r ∧ Ex w w' := by
  unfold law15_InodeEncodes at hf
  have H := St.start0 hm
  refine callsR Try.func8 (by kernel_rfl) (by kernel_rfl) ?_
  refine seg 2 [.op [0] 0, .co [1]] [(0, .agg #[.int .i64 n_.Kind, .int .i64 n_.Mode, .int .i64 n_.Uid, .int .i64 n_.Gid, .int .i64 n_.Time, .int .i64 n_.Links, .int .i64 n_.Attrs, .int .i64 n_.Size, .int .i64 n_.Start, .slice A0_9 n_.Words.length c0_9, .int .i64 n_.Frag, .int .i64 n_.Off, .int .i64 n_.Tail, .int .i64 n_.Dir, .int .i64 n_.Bytes, .int .i64 n_.Parent, .string ⟨n_.Target.toArray⟩, .int .i64 n_.Dev])] (by kernel_rfl) ?_
  refine st (newS (some 1) (fun g => .pointer (some ⟨g, 0, none⟩)) [.int .i64 n_.Kind, .int .i64 n_.Mode, .int .i64 n_.Uid, .int .i64 n_.Gid, .int .i64 n_.Time, .int .i64 n_.Links, .int .i64 n_.Attrs, .int .i64 n_.Size, .int .i64 n_.Start, .slice A0_9 n_.Words.length c0_9, .int .i64 n_.Frag, .int .i64 n_.Off, .int .i64 n_.Tail, .int .i64 n_.Dir, .int .i64 n_.Bytes, .int .i64 n_.Parent, .string ⟨n_.Target.toArray⟩, .int .i64 n_.Dev] 46 H (by kernel_rfl) ?_)
  intro g1 w1 H
  refine seg 6 [.op [1, 0, 0] 1, .co [1, 0, 1], .co [1, 1]] [(1, .pointer (some (⟨g1, 0, none⟩))), (6, .pointer (some (⟨g1, 9, none⟩)))] (by kernel_rfl) ?_
  refine st (ldR (some 7) 44 (⟨g1, 9, none⟩) (.slice A0_9 n_.Words.length c0_9) (by kernel_rfl) (by kernel_rfl) (H.cellB 0 rfl rfl) ?_)
  refine seg 3 [.op [1, 0, 0] 5, .co [1, 0, 1], .co [1, 1]] [(1, .pointer (some (⟨g1, 0, none⟩))), (10, .bool (decide ((n_.Words.length : Int) > 1000)))] (by kernel_rfl) ?_
  rcases condT hf with ⟨hb5, hf⟩ | ⟨hb5, hf⟩
  · rw [hb5]
    have p5 := of_decide_eq_true hb5
    refine seg 1 [.op [1, 0, 0] 6, .co [1, 0, 1], .co [1, 1]] [(1, .pointer (some (⟨g1, 0, none⟩))), (10, .bool true), (11, .pointer (some (⟨g1, 9, none⟩)))] (by kernel_rfl) ?_
    refine st (ldR (some 12) 44 (⟨g1, 9, none⟩) (.slice A0_9 n_.Words.length c0_9) (by kernel_rfl) (by kernel_rfl) (H.cellB 0 rfl rfl) ?_)
    refine seg 4 [.op [1, 0, 0] 11, .co [1, 0, 1], .co [1, 1]] [(1, .pointer (some (⟨g1, 0, none⟩))), (16, .bool (decide ((n_.Words.length : Int) ≤ 65536)))] (by kernel_rfl) ?_
    rcases condT hf with ⟨hb6, hf⟩ | ⟨hb6, hf⟩
    · rw [hb6]
      have p6 := of_decide_eq_true hb6
      refine seg 9 [.op [1, 0, 1, 0, 0] 0, .co [1, 0, 1, 0, 1], .co [1, 1]] [] (by kernel_rfl) ?_
      obtain ⟨live, h_live, hf⟩ := bindE hf
      refine st (callR (some 22) 23 #[] Try.call23 (law15_live_c H.has  h_live) (by kernel_rfl) ?_)
      rintro _ w7 ⟨rfl, hx7⟩
      replace H := H.ex hx7
      refine seg 2 [.co [1, 0, 1, 0, 1], .co [1, 1]] [(2, .bool live)] (by kernel_rfl) ?_
      refine retR [2] [.bool live] (by kernel_rfl) (by kernel_rfl) (by kernel_rfl) ?_
      have hret := (Option.some.inj hf)
      subst hret
      exact ⟨_, rfl, rfl, H.scalar⟩
    · rw [hb6]
      have p6 := of_decide_eq_false hb6
      refine seg 1 [.op [1, 0, 0] 12, .co [1, 0, 1], .co [1, 1]] [(1, .pointer (some (⟨g1, 0, none⟩))), (16, .bool false), (17, .pointer (some (⟨g1, 16, none⟩)))] (by kernel_rfl) ?_
      refine st (ldR (some 18) 9 (⟨g1, 16, none⟩) (.string ⟨n_.Target.toArray⟩) (by kernel_rfl) (by kernel_rfl) (H.cellB 0 rfl rfl) ?_)
      refine seg 4 [.co [1, 0, 1], .co [1, 1]] [(1, .pointer (some (⟨g1, 0, none⟩))), (21, .bool (decide ((n_.Target.length : Int) > 5000)))] (by kernel_rfl) ?_
      rcases condT hf with ⟨hb10, hf⟩ | ⟨hb10, hf⟩
      · rw [hb10]
        have p10 := of_decide_eq_true hb10
        refine seg 3 [.op [1, 0, 1, 0, 0] 0, .co [1, 0, 1, 0, 1], .co [1, 1]] [] (by kernel_rfl) ?_
        replace H : St w noF m m [] w1 := (H.drop 0 rfl)
        obtain ⟨live1, h_live1, hf⟩ := bindE hf
        refine st (callR (some 22) 23 #[] Try.call23 (law15_live_c H.has  h_live1) (by kernel_rfl) ?_)
        rintro _ w11 ⟨rfl, hx11⟩
        replace H := H.ex hx11
        refine seg 2 [.co [1, 0, 1, 0, 1], .co [1, 1]] [(2, .bool live1)] (by kernel_rfl) ?_
        refine retR [2] [.bool live1] (by kernel_rfl) (by kernel_rfl) (by kernel_rfl) ?_
        have hret := (Option.some.inj hf)
        subst hret
        exact ⟨_, rfl, rfl, H.scalar⟩
      · rw [hb10]
        have p10 := of_decide_eq_false hb10
        refine seg 4 [.op [1, 1, 0] 0, .co [1, 1, 1]] [(1, .pointer (some (⟨g1, 0, none⟩)))] (by kernel_rfl) ?_
        refine st (ldAggR (some 24) 46 (⟨g1, 0, none⟩) [.int .i64 n_.Kind, .int .i64 n_.Mode, .int .i64 n_.Uid, .int .i64 n_.Gid, .int .i64 n_.Time, .int .i64 n_.Links, .int .i64 n_.Attrs, .int .i64 n_.Size, .int .i64 n_.Start, .slice A0_9 n_.Words.length c0_9, .int .i64 n_.Frag, .int .i64 n_.Off, .int .i64 n_.Tail, .int .i64 n_.Dir, .int .i64 n_.Bytes, .int .i64 n_.Parent, .string ⟨n_.Target.toArray⟩, .int .i64 n_.Dev] (by kernel_rfl) (by kernel_rfl) (H.cellsB 0 rfl (by rfl)) ?_)
        obtain ⟨encode, h_encode, hf⟩ := bindE hf
        refine st (callR (some 25) 27 #[.agg #[.int .i64 n_.Kind, .int .i64 n_.Mode, .int .i64 n_.Uid, .int .i64 n_.Gid, .int .i64 n_.Time, .int .i64 n_.Links, .int .i64 n_.Attrs, .int .i64 n_.Size, .int .i64 n_.Start, .slice A0_9 n_.Words.length c0_9, .int .i64 n_.Frag, .int .i64 n_.Off, .int .i64 n_.Tail, .int .i64 n_.Dir, .int .i64 n_.Bytes, .int .i64 n_.Parent, .string ⟨n_.Target.toArray⟩, .int .i64 n_.Dev]] Try.call27 (inode_Encode_c H.has n_ A0_9 c0_9 s0_9 l0_16 h_encode) (by kernel_rfl) ?_)
        rintro _ w12 ⟨A12_0, c12_0, mk12, rfl, hS12⟩
        have hsub12 := hS12.sub
        replace H := H.call0 hS12
        refine seg 8 [.op [1, 1, 1, 0] 0, .co [1, 1, 1, 1]] [(1, .pointer (some (⟨g1, 0, none⟩))), (3, .slice A12_0 encode.1.length c12_0), (4, .int .i64 encode.2)] (by kernel_rfl) ?_
        refine st (ldAggR (some 28) 46 (⟨g1, 0, none⟩) [.int .i64 n_.Kind, .int .i64 n_.Mode, .int .i64 n_.Uid, .int .i64 n_.Gid, .int .i64 n_.Time, .int .i64 n_.Links, .int .i64 n_.Attrs, .int .i64 n_.Size, .int .i64 n_.Start, .slice A0_9 n_.Words.length c0_9, .int .i64 n_.Frag, .int .i64 n_.Off, .int .i64 n_.Tail, .int .i64 n_.Dir, .int .i64 n_.Bytes, .int .i64 n_.Parent, .string ⟨n_.Target.toArray⟩, .int .i64 n_.Dev] (by kernel_rfl) (by kernel_rfl) (H.cellsB 1 rfl (by rfl)) ?_)
        obtain ⟨check, h_check, hf⟩ := bindE hf
        refine st (callR (some 29) 25 #[.agg #[.int .i64 n_.Kind, .int .i64 n_.Mode, .int .i64 n_.Uid, .int .i64 n_.Gid, .int .i64 n_.Time, .int .i64 n_.Links, .int .i64 n_.Attrs, .int .i64 n_.Size, .int .i64 n_.Start, .slice A0_9 n_.Words.length c0_9, .int .i64 n_.Frag, .int .i64 n_.Off, .int .i64 n_.Tail, .int .i64 n_.Dir, .int .i64 n_.Bytes, .int .i64 n_.Parent, .string ⟨n_.Target.toArray⟩, .int .i64 n_.Dev]] Try.call25 (ref15_Check_c H.has n_ A0_9 c0_9 (s0_9.mono hsub12) l0_16 h_check) (by kernel_rfl) ?_)
        rintro _ w13 ⟨rfl, hx13⟩
        replace H := H.ex hx13
        refine seg 6 [.op [1, 1, 1, 1, 0, 0] 1, .co [1, 1, 1, 1, 0, 1], .co [1, 1, 1, 1, 1]] [(1, .pointer (some (⟨g1, 0, none⟩))), (3, .slice A12_0 encode.1.length c12_0), (5, .int .i64 check), (30, .int .i64 encode.2)] (by kernel_rfl) ?_
        refine st (callR (some 31) 26 #[.int .i64 encode.2] Try.call26 (law15_num_c H.has encode.2) (by kernel_rfl) ?_)
        rintro _ w18 ⟨rfl, hx18⟩
        replace H := H.ex hx18
        refine seg 3 [.op [1, 1, 1, 1, 0, 0] 5, .co [1, 1, 1, 1, 0, 1], .co [1, 1, 1, 1, 1]] [(1, .pointer (some (⟨g1, 0, none⟩))), (3, .slice A12_0 encode.1.length c12_0), (5, .int .i64 check), (34, .bool ((law15_num encode.2) != check))] (by kernel_rfl) ?_
        rcases condT hf with ⟨hb19, hf⟩ | ⟨hb19, hf⟩
        · rw [hb19]
          refine seg 12 [.co [1, 1, 1, 1, 0, 1, 0, 1], .co [1, 1, 1, 1, 1]] [(2, .bool false)] (by kernel_rfl) ?_
          refine retR [2] [.bool false] (by kernel_rfl) (by kernel_rfl) (by kernel_rfl) ?_
          have hret := (Option.some.inj hf)
          subst hret
          exact ⟨_, rfl, rfl, H.scalar⟩
        · rw [hb19]
          refine st (ldAggR (some 35) 46 (⟨g1, 0, none⟩) [.int .i64 n_.Kind, .int .i64 n_.Mode, .int .i64 n_.Uid, .int .i64 n_.Gid, .int .i64 n_.Time, .int .i64 n_.Links, .int .i64 n_.Attrs, .int .i64 n_.Size, .int .i64 n_.Start, .slice A0_9 n_.Words.length c0_9, .int .i64 n_.Frag, .int .i64 n_.Off, .int .i64 n_.Tail, .int .i64 n_.Dir, .int .i64 n_.Bytes, .int .i64 n_.Parent, .string ⟨n_.Target.toArray⟩, .int .i64 n_.Dev] (by kernel_rfl) (by kernel_rfl) (H.cellsB 1 rfl (by rfl)) ?_)
          obtain ⟨check1, h_check1, hf⟩ := bindE hf
          refine st (callR (some 36) 28 #[.agg #[.int .i64 n_.Kind, .int .i64 n_.Mode, .int .i64 n_.Uid, .int .i64 n_.Gid, .int .i64 n_.Time, .int .i64 n_.Links, .int .i64 n_.Attrs, .int .i64 n_.Size, .int .i64 n_.Start, .slice A0_9 n_.Words.length c0_9, .int .i64 n_.Frag, .int .i64 n_.Off, .int .i64 n_.Tail, .int .i64 n_.Dir, .int .i64 n_.Bytes, .int .i64 n_.Parent, .string ⟨n_.Target.toArray⟩, .int .i64 n_.Dev]] Try.call28 (inode_Check_c H.has n_ A0_9 c0_9 (s0_9.mono hsub12) l0_16 h_check1) (by kernel_rfl) ?_)
          rintro _ w20 ⟨rfl, hx20⟩
          replace H := H.ex hx20
          replace H : St w noF m mk12 [rowI rU8 5 A12_0 c12_0 encode.1, blkI g1 [.int .i64 n_.Kind, .int .i64 n_.Mode, .int .i64 n_.Uid, .int .i64 n_.Gid, .int .i64 n_.Time, .int .i64 n_.Links, .int .i64 n_.Attrs, .int .i64 n_.Size, .int .i64 n_.Start, .slice A0_9 n_.Words.length c0_9, .int .i64 n_.Frag, .int .i64 n_.Off, .int .i64 n_.Tail, .int .i64 n_.Dir, .int .i64 n_.Bytes, .int .i64 n_.Parent, .string ⟨n_.Target.toArray⟩, .int .i64 n_.Dev] 46] w20 := H
          refine st (callR (some 37) 26 #[.int .i64 check1] Try.call26 (law15_num_c H.has check1) (by kernel_rfl) ?_)
          rintro _ w21 ⟨rfl, hx21⟩
          replace H := H.ex hx21
          refine seg 4 [.co [1, 1, 1, 1, 0, 1], .co [1, 1, 1, 1, 1]] [(1, .pointer (some (⟨g1, 0, none⟩))), (3, .slice A12_0 encode.1.length c12_0), (5, .int .i64 check), (40, .bool ((law15_num check1) != check))] (by kernel_rfl) ?_
          rcases condT hf with ⟨hb23, hf⟩ | ⟨hb23, hf⟩
          · rw [hb23]
            refine seg 5 [.co [1, 1, 1, 1, 0, 1, 0, 1], .co [1, 1, 1, 1, 1]] [(2, .bool false)] (by kernel_rfl) ?_
            refine retR [2] [.bool false] (by kernel_rfl) (by kernel_rfl) (by kernel_rfl) ?_
            have hret := (Option.some.inj hf)
            subst hret
            exact ⟨_, rfl, rfl, H.scalar⟩
          · rw [hb23]
            refine seg 8 [.co [1, 1, 1, 1, 1, 0, 1], .co [1, 1, 1, 1, 1, 1]] [(1, .pointer (some (⟨g1, 0, none⟩))), (3, .slice A12_0 encode.1.length c12_0), (42, .bool (check != 0))] (by kernel_rfl) ?_
            rcases condT hf with ⟨hb33, hf⟩ | ⟨hb33, hf⟩
            · rw [hb33]
              refine seg 7 [.op [1, 1, 1, 1, 1, 0, 1, 0, 0] 4, .co [1, 1, 1, 1, 1, 0, 1, 0, 1], .co [1, 1, 1, 1, 1, 1]] [(1, .pointer (some (⟨g1, 0, none⟩))), (46, .bool ((encode.1.length : Int) == 0))] (by kernel_rfl) ?_
              rcases condT hf with ⟨hb34, hf⟩ | ⟨hb34, hf⟩
              · rw [hb34]
                refine st (ldAggR (some 47) 46 (⟨g1, 0, none⟩) [.int .i64 n_.Kind, .int .i64 n_.Mode, .int .i64 n_.Uid, .int .i64 n_.Gid, .int .i64 n_.Time, .int .i64 n_.Links, .int .i64 n_.Attrs, .int .i64 n_.Size, .int .i64 n_.Start, .slice A0_9 n_.Words.length c0_9, .int .i64 n_.Frag, .int .i64 n_.Off, .int .i64 n_.Tail, .int .i64 n_.Dir, .int .i64 n_.Bytes, .int .i64 n_.Parent, .string ⟨n_.Target.toArray⟩, .int .i64 n_.Dev] (by kernel_rfl) (by kernel_rfl) (H.cellsB 1 rfl (by rfl)) ?_)
                obtain ⟨size, h_size, hf⟩ := bindE hf
                refine st (callR (some 48) 29 #[.agg #[.int .i64 n_.Kind, .int .i64 n_.Mode, .int .i64 n_.Uid, .int .i64 n_.Gid, .int .i64 n_.Time, .int .i64 n_.Links, .int .i64 n_.Attrs, .int .i64 n_.Size, .int .i64 n_.Start, .slice A0_9 n_.Words.length c0_9, .int .i64 n_.Frag, .int .i64 n_.Off, .int .i64 n_.Tail, .int .i64 n_.Dir, .int .i64 n_.Bytes, .int .i64 n_.Parent, .string ⟨n_.Target.toArray⟩, .int .i64 n_.Dev]] Try.call29 (inode_Size_c H.has n_ A0_9 c0_9 (s0_9.mono hsub12) l0_16 h_size) (by kernel_rfl) ?_)
                rintro _ w35 ⟨rfl, hx35⟩
                replace H := H.ex hx35
                refine seg 3 [.op [1, 1, 1, 1, 1, 0, 1, 0, 0] 9, .co [1, 1, 1, 1, 1, 0, 1, 0, 1], .co [1, 1, 1, 1, 1, 1]] [(51, .bool (size == 0))] (by kernel_rfl) ?_
                rcases condT hf with ⟨hb36, hf⟩ | ⟨hb36, hf⟩
                · rw [hb36]
                  obtain ⟨live2, h_live2, hf⟩ := bindE hf
                  refine st (callR (some 52) 23 #[] Try.call23 (law15_live_c H.has  h_live2) (by kernel_rfl) ?_)
                  rintro _ w37 ⟨rfl, hx37⟩
                  replace H := H.ex hx37
                  refine seg 3 [.co [1, 1, 1, 1, 1, 0, 1, 0, 1], .co [1, 1, 1, 1, 1, 1]] [(2, .bool live2)] (by kernel_rfl) ?_
                  refine retR [2] [.bool live2] (by kernel_rfl) (by kernel_rfl) (by kernel_rfl) ?_
                  have hret := (Option.some.inj hf)
                  subst hret
                  exact ⟨_, rfl, rfl, H.scalar⟩
                · rw [hb36]
                  refine seg 4 [.co [1, 1, 1, 1, 1, 0, 1, 0, 1], .co [1, 1, 1, 1, 1, 1]] [(2, .bool false)] (by kernel_rfl) ?_
                  refine retR [2] [.bool false] (by kernel_rfl) (by kernel_rfl) (by kernel_rfl) ?_
                  have hret := (Option.some.inj hf)
                  subst hret
                  exact ⟨_, rfl, rfl, H.scalar⟩
              · rw [hb34]
                refine seg 9 [.co [1, 1, 1, 1, 1, 0, 1, 0, 1], .co [1, 1, 1, 1, 1, 1]] [(2, .bool false)] (by kernel_rfl) ?_
                refine retR [2] [.bool false] (by kernel_rfl) (by kernel_rfl) (by kernel_rfl) ?_
                have hret := (Option.some.inj hf)
                subst hret
                exact ⟨_, rfl, rfl, H.scalar⟩
            · rw [hb33]
              refine seg 3 [.co [1, 1, 1, 1, 1, 1, 0], .co [1, 1, 1, 1, 1, 1, 1]] [(1, .pointer (some (⟨g1, 0, none⟩))), (3, .slice A12_0 encode.1.length c12_0)] (by kernel_rfl) ?_
              obtain ⟨bytes, h_bytes, hf⟩ := bindE hf
              rcases condT hf with ⟨hb62, hf⟩ | ⟨hb62, hf⟩
              · obtain ⟨size1, h_size1, hf⟩ := bindE hf
                rcases condT hf with ⟨hb67, hf⟩ | ⟨hb67, hf⟩
                · obtain ⟨live3, h_live3, hf⟩ := bindE hf
                  have hst : statB (bodyOf Try.f8) [1, 1, 1, 1, 1, 1, 0] = true := by kernel_rfl
                  refine drawS (fun w' => Has mk12 w' ∧ w'.heap[g1]? = some (.cells [.int .i64 n_.Kind, .int .i64 n_.Mode, .int .i64 n_.Uid, .int .i64 n_.Gid, .int .i64 n_.Time, .int .i64 n_.Links, .int .i64 n_.Attrs, .int .i64 n_.Size, .int .i64 n_.Start, .slice A0_9 n_.Words.length c0_9, .int .i64 n_.Frag, .int .i64 n_.Off, .int .i64 n_.Tail, .int .i64 n_.Dir, .int .i64 n_.Bytes, .int .i64 n_.Parent, .string ⟨n_.Target.toArray⟩, .int .i64 n_.Dev].toArray 46 (0, 0))) H (by kernel_rfl) (by kernel_rfl) ?_
                  intro w73 H
                  refine segD2 hst [0] [0] [(1, .pointer (some (⟨g1, 0, none⟩))), (3, .slice A12_0 encode.1.length c12_0), (54, .slice A12_0 encode.1.length c12_0)] (by kernel_rfl) ?_
                  refine takeD2 (i := 2) (d := (some 56)) (s := vS (Instr.loadAt 46 (.pointer (some (⟨g1, 0, none⟩))))) (v := (.agg #[.int .i64 n_.Kind, .int .i64 n_.Mode, .int .i64 n_.Uid, .int .i64 n_.Gid, .int .i64 n_.Time, .int .i64 n_.Links, .int .i64 n_.Attrs, .int .i64 n_.Size, .int .i64 n_.Start, .slice A0_9 n_.Words.length c0_9, .int .i64 n_.Frag, .int .i64 n_.Off, .int .i64 n_.Tail, .int .i64 n_.Dir, .int .i64 n_.Bytes, .int .i64 n_.Parent, .string ⟨n_.Target.toArray⟩, .int .i64 n_.Dev])) hst (by kernel_rfl) (by kernel_rfl) (fun w' hw' => aggRun _ _ [.int .i64 n_.Kind, .int .i64 n_.Mode, .int .i64 n_.Uid, .int .i64 n_.Gid, .int .i64 n_.Time, .int .i64 n_.Links, .int .i64 n_.Attrs, .int .i64 n_.Size, .int .i64 n_.Start, .slice A0_9 n_.Words.length c0_9, .int .i64 n_.Frag, .int .i64 n_.Off, .int .i64 n_.Tail, .int .i64 n_.Dir, .int .i64 n_.Bytes, .int .i64 n_.Parent, .string ⟨n_.Target.toArray⟩, .int .i64 n_.Dev] (by kernel_rfl) (blk_cells hw'.2 (by rfl))) ?_
                  refine allD2 [1, 3] (by kernel_rfl) ⟨H.has, H.blk 1 rfl⟩ ⟨?_, ?_, trivial⟩
                  · replace H : St w noF m mk12 [rowI rU8 5 A12_0 c12_0 encode.1, blkI g1 [.int .i64 n_.Kind, .int .i64 n_.Mode, .int .i64 n_.Uid, .int .i64 n_.Gid, .int .i64 n_.Time, .int .i64 n_.Links, .int .i64 n_.Attrs, .int .i64 n_.Size, .int .i64 n_.Start, .slice A0_9 n_.Words.length c0_9, .int .i64 n_.Frag, .int .i64 n_.Off, .int .i64 n_.Tail, .int .i64 n_.Dir, .int .i64 n_.Bytes, .int .i64 n_.Parent, .string ⟨n_.Target.toArray⟩, .int .i64 n_.Dev] 46] w73 := H
                    refine (b2sS (some 55) 30 9 5 A12_0 c12_0 encode.1 Try.underlying30 Try.underlying5 Try.underlying9 (by kernel_rfl) (H.rowCs 0 rfl) ?_)
                    have hl74 : encode.1.length ≤ 9223372036854775807 := (Nat.le_trans (H.rowCap 0 rfl).1 (H.rowCap 0 rfl).2)
                    refine stD2 (i := 3) (by kernel_rfl) ⟨H.has, H.blk 1 rfl⟩ (callR (some 57) 30 #[.agg #[.int .i64 n_.Kind, .int .i64 n_.Mode, .int .i64 n_.Uid, .int .i64 n_.Gid, .int .i64 n_.Time, .int .i64 n_.Links, .int .i64 n_.Attrs, .int .i64 n_.Size, .int .i64 n_.Start, .slice A0_9 n_.Words.length c0_9, .int .i64 n_.Frag, .int .i64 n_.Off, .int .i64 n_.Tail, .int .i64 n_.Dir, .int .i64 n_.Bytes, .int .i64 n_.Parent, .string ⟨n_.Target.toArray⟩, .int .i64 n_.Dev]] Try.call30 (ref15_Bytes_c H.has n_ A0_9 c0_9 (s0_9.mono hsub12) l0_16 h_bytes) (by kernel_rfl) ?_)
                    rintro _ w75 ⟨A75_0, c75_0, mk75, rfl, hS75⟩
                    have hsub75 := hS75.sub
                    replace H := H.call0 hS75
                    refine stD2 (i := 4) (by kernel_rfl) ⟨(H.has.sub hsub75), H.blk 2 rfl⟩ (b2sS (some 58) 30 9 5 A75_0 c75_0 bytes Try.underlying30 Try.underlying5 Try.underlying9 (by kernel_rfl) (H.rowCs 0 rfl) ?_)
                    have hl76 : bytes.length ≤ 9223372036854775807 := (Nat.le_trans (H.rowCap 0 rfl).1 (H.rowCap 0 rfl).2)
                    refine segD2 hst [5] [0, 2, 1, 3, 4, 5] [(1, .pointer (some (⟨g1, 0, none⟩))), (3, .slice A12_0 encode.1.length c12_0), (59, .bool ((ByteArray.toList ⟨encode.1.toArray⟩) == (ByteArray.toList ⟨bytes.toArray⟩)))] (by kernel_rfl) ?_
                    rw [seq_raw encode.1 bytes]
                    rw [show (encode.1 == bytes) = true from hb62]
                    refine segD2 hst [6, 9, 10] [0, 2, 1, 3, 4, 5, 6, 9, 10] [(1, .pointer (some (⟨g1, 0, none⟩))), (60, .bool true), (64, .int .i64 (encode.1.length : Int))] (by kernel_rfl) ?_
                    refine stD2 (i := 7) (by kernel_rfl) ⟨(H.has.sub hsub75), H.blk 2 rfl⟩ (ldAggR (some 61) 46 (⟨g1, 0, none⟩) [.int .i64 n_.Kind, .int .i64 n_.Mode, .int .i64 n_.Uid, .int .i64 n_.Gid, .int .i64 n_.Time, .int .i64 n_.Links, .int .i64 n_.Attrs, .int .i64 n_.Size, .int .i64 n_.Start, .slice A0_9 n_.Words.length c0_9, .int .i64 n_.Frag, .int .i64 n_.Off, .int .i64 n_.Tail, .int .i64 n_.Dir, .int .i64 n_.Bytes, .int .i64 n_.Parent, .string ⟨n_.Target.toArray⟩, .int .i64 n_.Dev] (by kernel_rfl) (by kernel_rfl) (H.cellsB 2 rfl (by rfl)) ?_)
                    refine stD2 (i := 8) (by kernel_rfl) ⟨(H.has.sub hsub75), H.blk 2 rfl⟩ (callR (some 62) 29 #[.agg #[.int .i64 n_.Kind, .int .i64 n_.Mode, .int .i64 n_.Uid, .int .i64 n_.Gid, .int .i64 n_.Time, .int .i64 n_.Links, .int .i64 n_.Attrs, .int .i64 n_.Size, .int .i64 n_.Start, .slice A0_9 n_.Words.length c0_9, .int .i64 n_.Frag, .int .i64 n_.Off, .int .i64 n_.Tail, .int .i64 n_.Dir, .int .i64 n_.Bytes, .int .i64 n_.Parent, .string ⟨n_.Target.toArray⟩, .int .i64 n_.Dev]] Try.call29 (inode_Size_c H.has n_ A0_9 c0_9 (s0_9.mono (hsub12.trans hsub75)) l0_16 h_size1) (by kernel_rfl) ?_)
                    rintro _ w77 ⟨rfl, hx77⟩
                    replace H := H.ex hx77
                    refine segD2 hst [11] [0, 2, 1, 3, 4, 5, 6, 9, 10, 7, 8, 11] [(60, .bool true), (65, .bool (size1 == (encode.1.length : Int)))] (by kernel_rfl) ?_
                    rw [show (size1 == (encode.1.length : Int)) = true from hb67]
                    refine segD2 hst [12, 13] [0, 2, 1, 3, 4, 5, 6, 9, 10, 7, 8, 11, 12, 13] [(67, .bool true)] (by kernel_rfl) ?_
                    refine stD2 (i := 14) (by kernel_rfl) ⟨(H.has.sub hsub75), H.blk 2 rfl⟩ (callR (some 68) 23 #[] Try.call23 (law15_live_c H.has  h_live3) (by kernel_rfl) ?_)
                    rintro _ w78 ⟨rfl, hx78⟩
                    replace H := H.ex hx78
                    refine segD2 hst [15] [0, 2, 1, 3, 4, 5, 6, 9, 10, 7, 8, 11, 12, 13, 14, 15] [(69, .bool live3)] (by kernel_rfl) ?_
                    refine segD2 hst [16] [0, 2, 1, 3, 4, 5, 6, 9, 10, 7, 8, 11, 12, 13, 14, 15, 16] [(2, .bool live3)] (by kernel_rfl) ?_
                    refine endD2 (by kernel_rfl) ⟨(H.has.sub hsub75), H.blk 2 rfl⟩ ?_
                    refine retR [2] [.bool live3] (by kernel_rfl) (by kernel_rfl) (by kernel_rfl) ?_
                    have hret := (Option.some.inj hf)
                    subst hret
                    exact ⟨_, rfl, rfl, H.scalar⟩
                  · refine (callR (some 57) 30 #[.agg #[.int .i64 n_.Kind, .int .i64 n_.Mode, .int .i64 n_.Uid, .int .i64 n_.Gid, .int .i64 n_.Time, .int .i64 n_.Links, .int .i64 n_.Attrs, .int .i64 n_.Size, .int .i64 n_.Start, .slice A0_9 n_.Words.length c0_9, .int .i64 n_.Frag, .int .i64 n_.Off, .int .i64 n_.Tail, .int .i64 n_.Dir, .int .i64 n_.Bytes, .int .i64 n_.Parent, .string ⟨n_.Target.toArray⟩, .int .i64 n_.Dev]] Try.call30 (ref15_Bytes_c H.has n_ A0_9 c0_9 (s0_9.mono hsub12) l0_16 h_bytes) (by kernel_rfl) ?_)
                    rintro _ w79 ⟨A79_0, c79_0, mk79, rfl, hS79⟩
                    have hsub79 := hS79.sub
                    replace H := H.call0 hS79
                    refine allD2 [1, 4] (by kernel_rfl) ⟨(H.has.sub hsub79), H.blk 2 rfl⟩ ⟨?_, ?_, trivial⟩
                    · replace H : St w noF m mk79 [rowI rU8 5 A79_0 c79_0 bytes, rowI rU8 5 A12_0 c12_0 encode.1, blkI g1 [.int .i64 n_.Kind, .int .i64 n_.Mode, .int .i64 n_.Uid, .int .i64 n_.Gid, .int .i64 n_.Time, .int .i64 n_.Links, .int .i64 n_.Attrs, .int .i64 n_.Size, .int .i64 n_.Start, .slice A0_9 n_.Words.length c0_9, .int .i64 n_.Frag, .int .i64 n_.Off, .int .i64 n_.Tail, .int .i64 n_.Dir, .int .i64 n_.Bytes, .int .i64 n_.Parent, .string ⟨n_.Target.toArray⟩, .int .i64 n_.Dev] 46] w79 := H
                      refine (b2sS (some 55) 30 9 5 A12_0 c12_0 encode.1 Try.underlying30 Try.underlying5 Try.underlying9 (by kernel_rfl) (H.rowCs 1 rfl) ?_)
                      have hl80 : encode.1.length ≤ 9223372036854775807 := (Nat.le_trans (H.rowCap 1 rfl).1 (H.rowCap 1 rfl).2)
                      refine stD2 (i := 4) (by kernel_rfl) ⟨(H.has.sub hsub79), H.blk 2 rfl⟩ (b2sS (some 58) 30 9 5 A79_0 c79_0 bytes Try.underlying30 Try.underlying5 Try.underlying9 (by kernel_rfl) (H.rowCs 0 rfl) ?_)
                      have hl81 : bytes.length ≤ 9223372036854775807 := (Nat.le_trans (H.rowCap 0 rfl).1 (H.rowCap 0 rfl).2)
                      refine segD2 hst [5] [0, 2, 3, 1, 4, 5] [(1, .pointer (some (⟨g1, 0, none⟩))), (3, .slice A12_0 encode.1.length c12_0), (59, .bool ((ByteArray.toList ⟨encode.1.toArray⟩) == (ByteArray.toList ⟨bytes.toArray⟩)))] (by kernel_rfl) ?_
                      rw [seq_raw encode.1 bytes]
                      rw [show (encode.1 == bytes) = true from hb62]
                      refine segD2 hst [6, 9, 10] [0, 2, 3, 1, 4, 5, 6, 9, 10] [(1, .pointer (some (⟨g1, 0, none⟩))), (60, .bool true), (64, .int .i64 (encode.1.length : Int))] (by kernel_rfl) ?_
                      refine stD2 (i := 7) (by kernel_rfl) ⟨(H.has.sub hsub79), H.blk 2 rfl⟩ (ldAggR (some 61) 46 (⟨g1, 0, none⟩) [.int .i64 n_.Kind, .int .i64 n_.Mode, .int .i64 n_.Uid, .int .i64 n_.Gid, .int .i64 n_.Time, .int .i64 n_.Links, .int .i64 n_.Attrs, .int .i64 n_.Size, .int .i64 n_.Start, .slice A0_9 n_.Words.length c0_9, .int .i64 n_.Frag, .int .i64 n_.Off, .int .i64 n_.Tail, .int .i64 n_.Dir, .int .i64 n_.Bytes, .int .i64 n_.Parent, .string ⟨n_.Target.toArray⟩, .int .i64 n_.Dev] (by kernel_rfl) (by kernel_rfl) (H.cellsB 2 rfl (by rfl)) ?_)
                      refine stD2 (i := 8) (by kernel_rfl) ⟨(H.has.sub hsub79), H.blk 2 rfl⟩ (callR (some 62) 29 #[.agg #[.int .i64 n_.Kind, .int .i64 n_.Mode, .int .i64 n_.Uid, .int .i64 n_.Gid, .int .i64 n_.Time, .int .i64 n_.Links, .int .i64 n_.Attrs, .int .i64 n_.Size, .int .i64 n_.Start, .slice A0_9 n_.Words.length c0_9, .int .i64 n_.Frag, .int .i64 n_.Off, .int .i64 n_.Tail, .int .i64 n_.Dir, .int .i64 n_.Bytes, .int .i64 n_.Parent, .string ⟨n_.Target.toArray⟩, .int .i64 n_.Dev]] Try.call29 (inode_Size_c H.has n_ A0_9 c0_9 (s0_9.mono (hsub12.trans hsub79)) l0_16 h_size1) (by kernel_rfl) ?_)
                      rintro _ w82 ⟨rfl, hx82⟩
                      replace H := H.ex hx82
                      refine segD2 hst [11] [0, 2, 3, 1, 4, 5, 6, 9, 10, 7, 8, 11] [(60, .bool true), (65, .bool (size1 == (encode.1.length : Int)))] (by kernel_rfl) ?_
                      rw [show (size1 == (encode.1.length : Int)) = true from hb67]
                      refine segD2 hst [12, 13] [0, 2, 3, 1, 4, 5, 6, 9, 10, 7, 8, 11, 12, 13] [(67, .bool true)] (by kernel_rfl) ?_
                      refine stD2 (i := 14) (by kernel_rfl) ⟨(H.has.sub hsub79), H.blk 2 rfl⟩ (callR (some 68) 23 #[] Try.call23 (law15_live_c H.has  h_live3) (by kernel_rfl) ?_)
                      rintro _ w83 ⟨rfl, hx83⟩
                      replace H := H.ex hx83
                      refine segD2 hst [15] [0, 2, 3, 1, 4, 5, 6, 9, 10, 7, 8, 11, 12, 13, 14, 15] [(69, .bool live3)] (by kernel_rfl) ?_
                      refine segD2 hst [16] [0, 2, 3, 1, 4, 5, 6, 9, 10, 7, 8, 11, 12, 13, 14, 15, 16] [(2, .bool live3)] (by kernel_rfl) ?_
                      refine endD2 (by kernel_rfl) ⟨(H.has.sub hsub79), H.blk 2 rfl⟩ ?_
                      refine retR [2] [.bool live3] (by kernel_rfl) (by kernel_rfl) (by kernel_rfl) ?_
                      have hret := (Option.some.inj hf)
                      subst hret
                      exact ⟨_, rfl, rfl, H.scalar⟩
                    · refine (b2sS (some 58) 30 9 5 A79_0 c79_0 bytes Try.underlying30 Try.underlying5 Try.underlying9 (by kernel_rfl) (H.rowCs 0 rfl) ?_)
                      have hl84 : bytes.length ≤ 9223372036854775807 := (Nat.le_trans (H.rowCap 0 rfl).1 (H.rowCap 0 rfl).2)
                      refine stD2 (i := 1) (by kernel_rfl) ⟨(H.has.sub hsub79), H.blk 2 rfl⟩ (b2sS (some 55) 30 9 5 A12_0 c12_0 encode.1 Try.underlying30 Try.underlying5 Try.underlying9 (by kernel_rfl) (H.rowCs 1 rfl) ?_)
                      have hl85 : encode.1.length ≤ 9223372036854775807 := (Nat.le_trans (H.rowCap 1 rfl).1 (H.rowCap 1 rfl).2)
                      refine segD2 hst [5] [0, 2, 3, 4, 1, 5] [(1, .pointer (some (⟨g1, 0, none⟩))), (3, .slice A12_0 encode.1.length c12_0), (59, .bool ((ByteArray.toList ⟨encode.1.toArray⟩) == (ByteArray.toList ⟨bytes.toArray⟩)))] (by kernel_rfl) ?_
                      rw [seq_raw encode.1 bytes]
                      rw [show (encode.1 == bytes) = true from hb62]
                      refine segD2 hst [6, 9, 10] [0, 2, 3, 4, 1, 5, 6, 9, 10] [(1, .pointer (some (⟨g1, 0, none⟩))), (60, .bool true), (64, .int .i64 (encode.1.length : Int))] (by kernel_rfl) ?_
                      refine stD2 (i := 7) (by kernel_rfl) ⟨(H.has.sub hsub79), H.blk 2 rfl⟩ (ldAggR (some 61) 46 (⟨g1, 0, none⟩) [.int .i64 n_.Kind, .int .i64 n_.Mode, .int .i64 n_.Uid, .int .i64 n_.Gid, .int .i64 n_.Time, .int .i64 n_.Links, .int .i64 n_.Attrs, .int .i64 n_.Size, .int .i64 n_.Start, .slice A0_9 n_.Words.length c0_9, .int .i64 n_.Frag, .int .i64 n_.Off, .int .i64 n_.Tail, .int .i64 n_.Dir, .int .i64 n_.Bytes, .int .i64 n_.Parent, .string ⟨n_.Target.toArray⟩, .int .i64 n_.Dev] (by kernel_rfl) (by kernel_rfl) (H.cellsB 2 rfl (by rfl)) ?_)
                      refine stD2 (i := 8) (by kernel_rfl) ⟨(H.has.sub hsub79), H.blk 2 rfl⟩ (callR (some 62) 29 #[.agg #[.int .i64 n_.Kind, .int .i64 n_.Mode, .int .i64 n_.Uid, .int .i64 n_.Gid, .int .i64 n_.Time, .int .i64 n_.Links, .int .i64 n_.Attrs, .int .i64 n_.Size, .int .i64 n_.Start, .slice A0_9 n_.Words.length c0_9, .int .i64 n_.Frag, .int .i64 n_.Off, .int .i64 n_.Tail, .int .i64 n_.Dir, .int .i64 n_.Bytes, .int .i64 n_.Parent, .string ⟨n_.Target.toArray⟩, .int .i64 n_.Dev]] Try.call29 (inode_Size_c H.has n_ A0_9 c0_9 (s0_9.mono (hsub12.trans hsub79)) l0_16 h_size1) (by kernel_rfl) ?_)
                      rintro _ w86 ⟨rfl, hx86⟩
                      replace H := H.ex hx86
                      refine segD2 hst [11] [0, 2, 3, 4, 1, 5, 6, 9, 10, 7, 8, 11] [(60, .bool true), (65, .bool (size1 == (encode.1.length : Int)))] (by kernel_rfl) ?_
                      rw [show (size1 == (encode.1.length : Int)) = true from hb67]
                      refine segD2 hst [12, 13] [0, 2, 3, 4, 1, 5, 6, 9, 10, 7, 8, 11, 12, 13] [(67, .bool true)] (by kernel_rfl) ?_
                      refine stD2 (i := 14) (by kernel_rfl) ⟨(H.has.sub hsub79), H.blk 2 rfl⟩ (callR (some 68) 23 #[] Try.call23 (law15_live_c H.has  h_live3) (by kernel_rfl) ?_)
                      rintro _ w87 ⟨rfl, hx87⟩
                      replace H := H.ex hx87
                      refine segD2 hst [15] [0, 2, 3, 4, 1, 5, 6, 9, 10, 7, 8, 11, 12, 13, 14, 15] [(69, .bool live3)] (by kernel_rfl) ?_
                      refine segD2 hst [16] [0, 2, 3, 4, 1, 5, 6, 9, 10, 7, 8, 11, 12, 13, 14, 15, 16] [(2, .bool live3)] (by kernel_rfl) ?_
                      refine endD2 (by kernel_rfl) ⟨(H.has.sub hsub79), H.blk 2 rfl⟩ ?_
                      refine retR [2] [.bool live3] (by kernel_rfl) (by kernel_rfl) (by kernel_rfl) ?_
                      have hret := (Option.some.inj hf)
                      subst hret
                      exact ⟨_, rfl, rfl, H.scalar⟩
                · have hst : statB (bodyOf Try.f8) [1, 1, 1, 1, 1, 1, 0] = true := by kernel_rfl
                  refine drawS (fun w' => Has mk12 w' ∧ w'.heap[g1]? = some (.cells [.int .i64 n_.Kind, .int .i64 n_.Mode, .int .i64 n_.Uid, .int .i64 n_.Gid, .int .i64 n_.Time, .int .i64 n_.Links, .int .i64 n_.Attrs, .int .i64 n_.Size, .int .i64 n_.Start, .slice A0_9 n_.Words.length c0_9, .int .i64 n_.Frag, .int .i64 n_.Off, .int .i64 n_.Tail, .int .i64 n_.Dir, .int .i64 n_.Bytes, .int .i64 n_.Parent, .string ⟨n_.Target.toArray⟩, .int .i64 n_.Dev].toArray 46 (0, 0))) H (by kernel_rfl) (by kernel_rfl) ?_
                  intro w92 H
                  refine segD2 hst [0] [0] [(1, .pointer (some (⟨g1, 0, none⟩))), (3, .slice A12_0 encode.1.length c12_0), (54, .slice A12_0 encode.1.length c12_0)] (by kernel_rfl) ?_
                  refine takeD2 (i := 2) (d := (some 56)) (s := vS (Instr.loadAt 46 (.pointer (some (⟨g1, 0, none⟩))))) (v := (.agg #[.int .i64 n_.Kind, .int .i64 n_.Mode, .int .i64 n_.Uid, .int .i64 n_.Gid, .int .i64 n_.Time, .int .i64 n_.Links, .int .i64 n_.Attrs, .int .i64 n_.Size, .int .i64 n_.Start, .slice A0_9 n_.Words.length c0_9, .int .i64 n_.Frag, .int .i64 n_.Off, .int .i64 n_.Tail, .int .i64 n_.Dir, .int .i64 n_.Bytes, .int .i64 n_.Parent, .string ⟨n_.Target.toArray⟩, .int .i64 n_.Dev])) hst (by kernel_rfl) (by kernel_rfl) (fun w' hw' => aggRun _ _ [.int .i64 n_.Kind, .int .i64 n_.Mode, .int .i64 n_.Uid, .int .i64 n_.Gid, .int .i64 n_.Time, .int .i64 n_.Links, .int .i64 n_.Attrs, .int .i64 n_.Size, .int .i64 n_.Start, .slice A0_9 n_.Words.length c0_9, .int .i64 n_.Frag, .int .i64 n_.Off, .int .i64 n_.Tail, .int .i64 n_.Dir, .int .i64 n_.Bytes, .int .i64 n_.Parent, .string ⟨n_.Target.toArray⟩, .int .i64 n_.Dev] (by kernel_rfl) (blk_cells hw'.2 (by rfl))) ?_
                  refine allD2 [1, 3] (by kernel_rfl) ⟨H.has, H.blk 1 rfl⟩ ⟨?_, ?_, trivial⟩
                  · replace H : St w noF m mk12 [rowI rU8 5 A12_0 c12_0 encode.1, blkI g1 [.int .i64 n_.Kind, .int .i64 n_.Mode, .int .i64 n_.Uid, .int .i64 n_.Gid, .int .i64 n_.Time, .int .i64 n_.Links, .int .i64 n_.Attrs, .int .i64 n_.Size, .int .i64 n_.Start, .slice A0_9 n_.Words.length c0_9, .int .i64 n_.Frag, .int .i64 n_.Off, .int .i64 n_.Tail, .int .i64 n_.Dir, .int .i64 n_.Bytes, .int .i64 n_.Parent, .string ⟨n_.Target.toArray⟩, .int .i64 n_.Dev] 46] w92 := H
                    refine (b2sS (some 55) 30 9 5 A12_0 c12_0 encode.1 Try.underlying30 Try.underlying5 Try.underlying9 (by kernel_rfl) (H.rowCs 0 rfl) ?_)
                    have hl93 : encode.1.length ≤ 9223372036854775807 := (Nat.le_trans (H.rowCap 0 rfl).1 (H.rowCap 0 rfl).2)
                    refine stD2 (i := 3) (by kernel_rfl) ⟨H.has, H.blk 1 rfl⟩ (callR (some 57) 30 #[.agg #[.int .i64 n_.Kind, .int .i64 n_.Mode, .int .i64 n_.Uid, .int .i64 n_.Gid, .int .i64 n_.Time, .int .i64 n_.Links, .int .i64 n_.Attrs, .int .i64 n_.Size, .int .i64 n_.Start, .slice A0_9 n_.Words.length c0_9, .int .i64 n_.Frag, .int .i64 n_.Off, .int .i64 n_.Tail, .int .i64 n_.Dir, .int .i64 n_.Bytes, .int .i64 n_.Parent, .string ⟨n_.Target.toArray⟩, .int .i64 n_.Dev]] Try.call30 (ref15_Bytes_c H.has n_ A0_9 c0_9 (s0_9.mono hsub12) l0_16 h_bytes) (by kernel_rfl) ?_)
                    rintro _ w94 ⟨A94_0, c94_0, mk94, rfl, hS94⟩
                    have hsub94 := hS94.sub
                    replace H := H.call0 hS94
                    refine stD2 (i := 4) (by kernel_rfl) ⟨(H.has.sub hsub94), H.blk 2 rfl⟩ (b2sS (some 58) 30 9 5 A94_0 c94_0 bytes Try.underlying30 Try.underlying5 Try.underlying9 (by kernel_rfl) (H.rowCs 0 rfl) ?_)
                    have hl95 : bytes.length ≤ 9223372036854775807 := (Nat.le_trans (H.rowCap 0 rfl).1 (H.rowCap 0 rfl).2)
                    refine segD2 hst [5] [0, 2, 1, 3, 4, 5] [(1, .pointer (some (⟨g1, 0, none⟩))), (3, .slice A12_0 encode.1.length c12_0), (59, .bool ((ByteArray.toList ⟨encode.1.toArray⟩) == (ByteArray.toList ⟨bytes.toArray⟩)))] (by kernel_rfl) ?_
                    rw [seq_raw encode.1 bytes]
                    rw [show (encode.1 == bytes) = true from hb62]
                    refine segD2 hst [6, 9, 10] [0, 2, 1, 3, 4, 5, 6, 9, 10] [(1, .pointer (some (⟨g1, 0, none⟩))), (60, .bool true), (64, .int .i64 (encode.1.length : Int))] (by kernel_rfl) ?_
                    refine stD2 (i := 7) (by kernel_rfl) ⟨(H.has.sub hsub94), H.blk 2 rfl⟩ (ldAggR (some 61) 46 (⟨g1, 0, none⟩) [.int .i64 n_.Kind, .int .i64 n_.Mode, .int .i64 n_.Uid, .int .i64 n_.Gid, .int .i64 n_.Time, .int .i64 n_.Links, .int .i64 n_.Attrs, .int .i64 n_.Size, .int .i64 n_.Start, .slice A0_9 n_.Words.length c0_9, .int .i64 n_.Frag, .int .i64 n_.Off, .int .i64 n_.Tail, .int .i64 n_.Dir, .int .i64 n_.Bytes, .int .i64 n_.Parent, .string ⟨n_.Target.toArray⟩, .int .i64 n_.Dev] (by kernel_rfl) (by kernel_rfl) (H.cellsB 2 rfl (by rfl)) ?_)
                    refine stD2 (i := 8) (by kernel_rfl) ⟨(H.has.sub hsub94), H.blk 2 rfl⟩ (callR (some 62) 29 #[.agg #[.int .i64 n_.Kind, .int .i64 n_.Mode, .int .i64 n_.Uid, .int .i64 n_.Gid, .int .i64 n_.Time, .int .i64 n_.Links, .int .i64 n_.Attrs, .int .i64 n_.Size, .int .i64 n_.Start, .slice A0_9 n_.Words.length c0_9, .int .i64 n_.Frag, .int .i64 n_.Off, .int .i64 n_.Tail, .int .i64 n_.Dir, .int .i64 n_.Bytes, .int .i64 n_.Parent, .string ⟨n_.Target.toArray⟩, .int .i64 n_.Dev]] Try.call29 (inode_Size_c H.has n_ A0_9 c0_9 (s0_9.mono (hsub12.trans hsub94)) l0_16 h_size1) (by kernel_rfl) ?_)
                    rintro _ w96 ⟨rfl, hx96⟩
                    replace H := H.ex hx96
                    refine segD2 hst [11] [0, 2, 1, 3, 4, 5, 6, 9, 10, 7, 8, 11] [(60, .bool true), (65, .bool (size1 == (encode.1.length : Int)))] (by kernel_rfl) ?_
                    rw [show (size1 == (encode.1.length : Int)) = false from hb67]
                    refine segD2 hst [12, 13, 14, 15, 16] [0, 2, 1, 3, 4, 5, 6, 9, 10, 7, 8, 11, 12, 13, 14, 15, 16] [(2, .bool false)] (by kernel_rfl) ?_
                    refine endD2 (by kernel_rfl) ⟨(H.has.sub hsub94), H.blk 2 rfl⟩ ?_
                    refine retR [2] [.bool false] (by kernel_rfl) (by kernel_rfl) (by kernel_rfl) ?_
                    have hret := (Option.some.inj hf)
                    subst hret
                    exact ⟨_, rfl, rfl, H.scalar⟩
                  · refine (callR (some 57) 30 #[.agg #[.int .i64 n_.Kind, .int .i64 n_.Mode, .int .i64 n_.Uid, .int .i64 n_.Gid, .int .i64 n_.Time, .int .i64 n_.Links, .int .i64 n_.Attrs, .int .i64 n_.Size, .int .i64 n_.Start, .slice A0_9 n_.Words.length c0_9, .int .i64 n_.Frag, .int .i64 n_.Off, .int .i64 n_.Tail, .int .i64 n_.Dir, .int .i64 n_.Bytes, .int .i64 n_.Parent, .string ⟨n_.Target.toArray⟩, .int .i64 n_.Dev]] Try.call30 (ref15_Bytes_c H.has n_ A0_9 c0_9 (s0_9.mono hsub12) l0_16 h_bytes) (by kernel_rfl) ?_)
                    rintro _ w97 ⟨A97_0, c97_0, mk97, rfl, hS97⟩
                    have hsub97 := hS97.sub
                    replace H := H.call0 hS97
                    refine allD2 [1, 4] (by kernel_rfl) ⟨(H.has.sub hsub97), H.blk 2 rfl⟩ ⟨?_, ?_, trivial⟩
                    · refine (b2sS (some 55) 30 9 5 A12_0 c12_0 encode.1 Try.underlying30 Try.underlying5 Try.underlying9 (by kernel_rfl) (H.rowCs 1 rfl) ?_)
                      have hl98 : encode.1.length ≤ 9223372036854775807 := (Nat.le_trans (H.rowCap 1 rfl).1 (H.rowCap 1 rfl).2)
                      refine stD2 (i := 4) (by kernel_rfl) ⟨(H.has.sub hsub97), H.blk 2 rfl⟩ (b2sS (some 58) 30 9 5 A97_0 c97_0 bytes Try.underlying30 Try.underlying5 Try.underlying9 (by kernel_rfl) (H.rowCs 0 rfl) ?_)
                      have hl99 : bytes.length ≤ 9223372036854775807 := (Nat.le_trans (H.rowCap 0 rfl).1 (H.rowCap 0 rfl).2)
                      refine segD2 hst [5] [0, 2, 3, 1, 4, 5] [(1, .pointer (some (⟨g1, 0, none⟩))), (3, .slice A12_0 encode.1.length c12_0), (59, .bool ((ByteArray.toList ⟨encode.1.toArray⟩) == (ByteArray.toList ⟨bytes.toArray⟩)))] (by kernel_rfl) ?_
                      rw [seq_raw encode.1 bytes]
                      rw [show (encode.1 == bytes) = true from hb62]
                      refine segD2 hst [6, 9, 10] [0, 2, 3, 1, 4, 5, 6, 9, 10] [(1, .pointer (some (⟨g1, 0, none⟩))), (60, .bool true), (64, .int .i64 (encode.1.length : Int))] (by kernel_rfl) ?_
                      refine stD2 (i := 7) (by kernel_rfl) ⟨(H.has.sub hsub97), H.blk 2 rfl⟩ (ldAggR (some 61) 46 (⟨g1, 0, none⟩) [.int .i64 n_.Kind, .int .i64 n_.Mode, .int .i64 n_.Uid, .int .i64 n_.Gid, .int .i64 n_.Time, .int .i64 n_.Links, .int .i64 n_.Attrs, .int .i64 n_.Size, .int .i64 n_.Start, .slice A0_9 n_.Words.length c0_9, .int .i64 n_.Frag, .int .i64 n_.Off, .int .i64 n_.Tail, .int .i64 n_.Dir, .int .i64 n_.Bytes, .int .i64 n_.Parent, .string ⟨n_.Target.toArray⟩, .int .i64 n_.Dev] (by kernel_rfl) (by kernel_rfl) (H.cellsB 2 rfl (by rfl)) ?_)
                      refine stD2 (i := 8) (by kernel_rfl) ⟨(H.has.sub hsub97), H.blk 2 rfl⟩ (callR (some 62) 29 #[.agg #[.int .i64 n_.Kind, .int .i64 n_.Mode, .int .i64 n_.Uid, .int .i64 n_.Gid, .int .i64 n_.Time, .int .i64 n_.Links, .int .i64 n_.Attrs, .int .i64 n_.Size, .int .i64 n_.Start, .slice A0_9 n_.Words.length c0_9, .int .i64 n_.Frag, .int .i64 n_.Off, .int .i64 n_.Tail, .int .i64 n_.Dir, .int .i64 n_.Bytes, .int .i64 n_.Parent, .string ⟨n_.Target.toArray⟩, .int .i64 n_.Dev]] Try.call29 (inode_Size_c H.has n_ A0_9 c0_9 (s0_9.mono (hsub12.trans hsub97)) l0_16 h_size1) (by kernel_rfl) ?_)
                      rintro _ w100 ⟨rfl, hx100⟩
                      replace H := H.ex hx100
                      refine segD2 hst [11] [0, 2, 3, 1, 4, 5, 6, 9, 10, 7, 8, 11] [(60, .bool true), (65, .bool (size1 == (encode.1.length : Int)))] (by kernel_rfl) ?_
                      rw [show (size1 == (encode.1.length : Int)) = false from hb67]
                      refine segD2 hst [12, 13, 14, 15, 16] [0, 2, 3, 1, 4, 5, 6, 9, 10, 7, 8, 11, 12, 13, 14, 15, 16] [(2, .bool false)] (by kernel_rfl) ?_
                      refine endD2 (by kernel_rfl) ⟨(H.has.sub hsub97), H.blk 2 rfl⟩ ?_
                      refine retR [2] [.bool false] (by kernel_rfl) (by kernel_rfl) (by kernel_rfl) ?_
                      have hret := (Option.some.inj hf)
                      subst hret
                      exact ⟨_, rfl, rfl, H.scalar⟩
                    · replace H : St w noF m mk97 [rowI rU8 5 A97_0 c97_0 bytes, rowI rU8 5 A12_0 c12_0 encode.1, blkI g1 [.int .i64 n_.Kind, .int .i64 n_.Mode, .int .i64 n_.Uid, .int .i64 n_.Gid, .int .i64 n_.Time, .int .i64 n_.Links, .int .i64 n_.Attrs, .int .i64 n_.Size, .int .i64 n_.Start, .slice A0_9 n_.Words.length c0_9, .int .i64 n_.Frag, .int .i64 n_.Off, .int .i64 n_.Tail, .int .i64 n_.Dir, .int .i64 n_.Bytes, .int .i64 n_.Parent, .string ⟨n_.Target.toArray⟩, .int .i64 n_.Dev] 46] w97 := H
                      refine (b2sS (some 58) 30 9 5 A97_0 c97_0 bytes Try.underlying30 Try.underlying5 Try.underlying9 (by kernel_rfl) (H.rowCs 0 rfl) ?_)
                      have hl101 : bytes.length ≤ 9223372036854775807 := (Nat.le_trans (H.rowCap 0 rfl).1 (H.rowCap 0 rfl).2)
                      refine stD2 (i := 1) (by kernel_rfl) ⟨(H.has.sub hsub97), H.blk 2 rfl⟩ (b2sS (some 55) 30 9 5 A12_0 c12_0 encode.1 Try.underlying30 Try.underlying5 Try.underlying9 (by kernel_rfl) (H.rowCs 1 rfl) ?_)
                      have hl102 : encode.1.length ≤ 9223372036854775807 := (Nat.le_trans (H.rowCap 1 rfl).1 (H.rowCap 1 rfl).2)
                      refine segD2 hst [5] [0, 2, 3, 4, 1, 5] [(1, .pointer (some (⟨g1, 0, none⟩))), (3, .slice A12_0 encode.1.length c12_0), (59, .bool ((ByteArray.toList ⟨encode.1.toArray⟩) == (ByteArray.toList ⟨bytes.toArray⟩)))] (by kernel_rfl) ?_
                      rw [seq_raw encode.1 bytes]
                      rw [show (encode.1 == bytes) = true from hb62]
                      refine segD2 hst [6, 9, 10] [0, 2, 3, 4, 1, 5, 6, 9, 10] [(1, .pointer (some (⟨g1, 0, none⟩))), (60, .bool true), (64, .int .i64 (encode.1.length : Int))] (by kernel_rfl) ?_
                      refine stD2 (i := 7) (by kernel_rfl) ⟨(H.has.sub hsub97), H.blk 2 rfl⟩ (ldAggR (some 61) 46 (⟨g1, 0, none⟩) [.int .i64 n_.Kind, .int .i64 n_.Mode, .int .i64 n_.Uid, .int .i64 n_.Gid, .int .i64 n_.Time, .int .i64 n_.Links, .int .i64 n_.Attrs, .int .i64 n_.Size, .int .i64 n_.Start, .slice A0_9 n_.Words.length c0_9, .int .i64 n_.Frag, .int .i64 n_.Off, .int .i64 n_.Tail, .int .i64 n_.Dir, .int .i64 n_.Bytes, .int .i64 n_.Parent, .string ⟨n_.Target.toArray⟩, .int .i64 n_.Dev] (by kernel_rfl) (by kernel_rfl) (H.cellsB 2 rfl (by rfl)) ?_)
                      refine stD2 (i := 8) (by kernel_rfl) ⟨(H.has.sub hsub97), H.blk 2 rfl⟩ (callR (some 62) 29 #[.agg #[.int .i64 n_.Kind, .int .i64 n_.Mode, .int .i64 n_.Uid, .int .i64 n_.Gid, .int .i64 n_.Time, .int .i64 n_.Links, .int .i64 n_.Attrs, .int .i64 n_.Size, .int .i64 n_.Start, .slice A0_9 n_.Words.length c0_9, .int .i64 n_.Frag, .int .i64 n_.Off, .int .i64 n_.Tail, .int .i64 n_.Dir, .int .i64 n_.Bytes, .int .i64 n_.Parent, .string ⟨n_.Target.toArray⟩, .int .i64 n_.Dev]] Try.call29 (inode_Size_c H.has n_ A0_9 c0_9 (s0_9.mono (hsub12.trans hsub97)) l0_16 h_size1) (by kernel_rfl) ?_)
                      rintro _ w103 ⟨rfl, hx103⟩
                      replace H := H.ex hx103
                      refine segD2 hst [11] [0, 2, 3, 4, 1, 5, 6, 9, 10, 7, 8, 11] [(60, .bool true), (65, .bool (size1 == (encode.1.length : Int)))] (by kernel_rfl) ?_
                      rw [show (size1 == (encode.1.length : Int)) = false from hb67]
                      refine segD2 hst [12, 13, 14, 15, 16] [0, 2, 3, 4, 1, 5, 6, 9, 10, 7, 8, 11, 12, 13, 14, 15, 16] [(2, .bool false)] (by kernel_rfl) ?_
                      refine endD2 (by kernel_rfl) ⟨(H.has.sub hsub97), H.blk 2 rfl⟩ ?_
                      refine retR [2] [.bool false] (by kernel_rfl) (by kernel_rfl) (by kernel_rfl) ?_
                      have hret := (Option.some.inj hf)
                      subst hret
                      exact ⟨_, rfl, rfl, H.scalar⟩
              · have hst : statB (bodyOf Try.f8) [1, 1, 1, 1, 1, 1, 0] = true := by kernel_rfl
                refine drawS (fun w' => Has mk12 w' ∧ w'.heap[g1]? = some (.cells [.int .i64 n_.Kind, .int .i64 n_.Mode, .int .i64 n_.Uid, .int .i64 n_.Gid, .int .i64 n_.Time, .int .i64 n_.Links, .int .i64 n_.Attrs, .int .i64 n_.Size, .int .i64 n_.Start, .slice A0_9 n_.Words.length c0_9, .int .i64 n_.Frag, .int .i64 n_.Off, .int .i64 n_.Tail, .int .i64 n_.Dir, .int .i64 n_.Bytes, .int .i64 n_.Parent, .string ⟨n_.Target.toArray⟩, .int .i64 n_.Dev].toArray 46 (0, 0))) H (by kernel_rfl) (by kernel_rfl) ?_
                intro w107 H
                refine segD2 hst [0] [0] [(1, .pointer (some (⟨g1, 0, none⟩))), (3, .slice A12_0 encode.1.length c12_0), (54, .slice A12_0 encode.1.length c12_0)] (by kernel_rfl) ?_
                refine takeD2 (i := 2) (d := (some 56)) (s := vS (Instr.loadAt 46 (.pointer (some (⟨g1, 0, none⟩))))) (v := (.agg #[.int .i64 n_.Kind, .int .i64 n_.Mode, .int .i64 n_.Uid, .int .i64 n_.Gid, .int .i64 n_.Time, .int .i64 n_.Links, .int .i64 n_.Attrs, .int .i64 n_.Size, .int .i64 n_.Start, .slice A0_9 n_.Words.length c0_9, .int .i64 n_.Frag, .int .i64 n_.Off, .int .i64 n_.Tail, .int .i64 n_.Dir, .int .i64 n_.Bytes, .int .i64 n_.Parent, .string ⟨n_.Target.toArray⟩, .int .i64 n_.Dev])) hst (by kernel_rfl) (by kernel_rfl) (fun w' hw' => aggRun _ _ [.int .i64 n_.Kind, .int .i64 n_.Mode, .int .i64 n_.Uid, .int .i64 n_.Gid, .int .i64 n_.Time, .int .i64 n_.Links, .int .i64 n_.Attrs, .int .i64 n_.Size, .int .i64 n_.Start, .slice A0_9 n_.Words.length c0_9, .int .i64 n_.Frag, .int .i64 n_.Off, .int .i64 n_.Tail, .int .i64 n_.Dir, .int .i64 n_.Bytes, .int .i64 n_.Parent, .string ⟨n_.Target.toArray⟩, .int .i64 n_.Dev] (by kernel_rfl) (blk_cells hw'.2 (by rfl))) ?_
                refine allD2 [1, 3] (by kernel_rfl) ⟨H.has, H.blk 1 rfl⟩ ⟨?_, ?_, trivial⟩
                · refine (b2sS (some 55) 30 9 5 A12_0 c12_0 encode.1 Try.underlying30 Try.underlying5 Try.underlying9 (by kernel_rfl) (H.rowCs 0 rfl) ?_)
                  have hl108 : encode.1.length ≤ 9223372036854775807 := (Nat.le_trans (H.rowCap 0 rfl).1 (H.rowCap 0 rfl).2)
                  refine stD2 (i := 3) (by kernel_rfl) ⟨H.has, H.blk 1 rfl⟩ (callR (some 57) 30 #[.agg #[.int .i64 n_.Kind, .int .i64 n_.Mode, .int .i64 n_.Uid, .int .i64 n_.Gid, .int .i64 n_.Time, .int .i64 n_.Links, .int .i64 n_.Attrs, .int .i64 n_.Size, .int .i64 n_.Start, .slice A0_9 n_.Words.length c0_9, .int .i64 n_.Frag, .int .i64 n_.Off, .int .i64 n_.Tail, .int .i64 n_.Dir, .int .i64 n_.Bytes, .int .i64 n_.Parent, .string ⟨n_.Target.toArray⟩, .int .i64 n_.Dev]] Try.call30 (ref15_Bytes_c H.has n_ A0_9 c0_9 (s0_9.mono hsub12) l0_16 h_bytes) (by kernel_rfl) ?_)
                  rintro _ w109 ⟨A109_0, c109_0, mk109, rfl, hS109⟩
                  have hsub109 := hS109.sub
                  replace H := H.call0 hS109
                  refine stD2 (i := 4) (by kernel_rfl) ⟨(H.has.sub hsub109), H.blk 2 rfl⟩ (b2sS (some 58) 30 9 5 A109_0 c109_0 bytes Try.underlying30 Try.underlying5 Try.underlying9 (by kernel_rfl) (H.rowCs 0 rfl) ?_)
                  have hl110 : bytes.length ≤ 9223372036854775807 := (Nat.le_trans (H.rowCap 0 rfl).1 (H.rowCap 0 rfl).2)
                  refine segD2 hst [5] [0, 2, 1, 3, 4, 5] [(1, .pointer (some (⟨g1, 0, none⟩))), (3, .slice A12_0 encode.1.length c12_0), (59, .bool ((ByteArray.toList ⟨encode.1.toArray⟩) == (ByteArray.toList ⟨bytes.toArray⟩)))] (by kernel_rfl) ?_
                  rw [seq_raw encode.1 bytes]
                  rw [show (encode.1 == bytes) = false from hb62]
                  refine segD2 hst [6, 7, 8, 9, 10, 11, 12, 13, 14, 15, 16] [0, 2, 1, 3, 4, 5, 6, 7, 8, 9, 10, 11, 12, 13, 14, 15, 16] [(2, .bool false)] (by kernel_rfl) ?_
                  refine endD2 (by kernel_rfl) ⟨(H.has.sub hsub109), H.blk 2 rfl⟩ ?_
                  refine retR [2] [.bool false] (by kernel_rfl) (by kernel_rfl) (by kernel_rfl) ?_
                  have hret := (Option.some.inj hf)
                  subst hret
                  exact ⟨_, rfl, rfl, H.scalar⟩
                · refine (callR (some 57) 30 #[.agg #[.int .i64 n_.Kind, .int .i64 n_.Mode, .int .i64 n_.Uid, .int .i64 n_.Gid, .int .i64 n_.Time, .int .i64 n_.Links, .int .i64 n_.Attrs, .int .i64 n_.Size, .int .i64 n_.Start, .slice A0_9 n_.Words.length c0_9, .int .i64 n_.Frag, .int .i64 n_.Off, .int .i64 n_.Tail, .int .i64 n_.Dir, .int .i64 n_.Bytes, .int .i64 n_.Parent, .string ⟨n_.Target.toArray⟩, .int .i64 n_.Dev]] Try.call30 (ref15_Bytes_c H.has n_ A0_9 c0_9 (s0_9.mono hsub12) l0_16 h_bytes) (by kernel_rfl) ?_)
                  rintro _ w111 ⟨A111_0, c111_0, mk111, rfl, hS111⟩
                  have hsub111 := hS111.sub
                  replace H := H.call0 hS111
                  refine allD2 [1, 4] (by kernel_rfl) ⟨(H.has.sub hsub111), H.blk 2 rfl⟩ ⟨?_, ?_, trivial⟩
                  · replace H : St w noF m mk111 [rowI rU8 5 A111_0 c111_0 bytes, rowI rU8 5 A12_0 c12_0 encode.1, blkI g1 [.int .i64 n_.Kind, .int .i64 n_.Mode, .int .i64 n_.Uid, .int .i64 n_.Gid, .int .i64 n_.Time, .int .i64 n_.Links, .int .i64 n_.Attrs, .int .i64 n_.Size, .int .i64 n_.Start, .slice A0_9 n_.Words.length c0_9, .int .i64 n_.Frag, .int .i64 n_.Off, .int .i64 n_.Tail, .int .i64 n_.Dir, .int .i64 n_.Bytes, .int .i64 n_.Parent, .string ⟨n_.Target.toArray⟩, .int .i64 n_.Dev] 46] w111 := H
                    refine (b2sS (some 55) 30 9 5 A12_0 c12_0 encode.1 Try.underlying30 Try.underlying5 Try.underlying9 (by kernel_rfl) (H.rowCs 1 rfl) ?_)
                    have hl112 : encode.1.length ≤ 9223372036854775807 := (Nat.le_trans (H.rowCap 1 rfl).1 (H.rowCap 1 rfl).2)
                    refine stD2 (i := 4) (by kernel_rfl) ⟨(H.has.sub hsub111), H.blk 2 rfl⟩ (b2sS (some 58) 30 9 5 A111_0 c111_0 bytes Try.underlying30 Try.underlying5 Try.underlying9 (by kernel_rfl) (H.rowCs 0 rfl) ?_)
                    have hl113 : bytes.length ≤ 9223372036854775807 := (Nat.le_trans (H.rowCap 0 rfl).1 (H.rowCap 0 rfl).2)
                    refine segD2 hst [5] [0, 2, 3, 1, 4, 5] [(1, .pointer (some (⟨g1, 0, none⟩))), (3, .slice A12_0 encode.1.length c12_0), (59, .bool ((ByteArray.toList ⟨encode.1.toArray⟩) == (ByteArray.toList ⟨bytes.toArray⟩)))] (by kernel_rfl) ?_
                    rw [seq_raw encode.1 bytes]
                    rw [show (encode.1 == bytes) = false from hb62]
                    refine segD2 hst [6, 7, 8, 9, 10, 11, 12, 13, 14, 15, 16] [0, 2, 3, 1, 4, 5, 6, 7, 8, 9, 10, 11, 12, 13, 14, 15, 16] [(2, .bool false)] (by kernel_rfl) ?_
                    refine endD2 (by kernel_rfl) ⟨(H.has.sub hsub111), H.blk 2 rfl⟩ ?_
                    refine retR [2] [.bool false] (by kernel_rfl) (by kernel_rfl) (by kernel_rfl) ?_
                    have hret := (Option.some.inj hf)
                    subst hret
                    exact ⟨_, rfl, rfl, H.scalar⟩
                  · refine (b2sS (some 58) 30 9 5 A111_0 c111_0 bytes Try.underlying30 Try.underlying5 Try.underlying9 (by kernel_rfl) (H.rowCs 0 rfl) ?_)
                    have hl114 : bytes.length ≤ 9223372036854775807 := (Nat.le_trans (H.rowCap 0 rfl).1 (H.rowCap 0 rfl).2)
                    refine stD2 (i := 1) (by kernel_rfl) ⟨(H.has.sub hsub111), H.blk 2 rfl⟩ (b2sS (some 55) 30 9 5 A12_0 c12_0 encode.1 Try.underlying30 Try.underlying5 Try.underlying9 (by kernel_rfl) (H.rowCs 1 rfl) ?_)
                    have hl115 : encode.1.length ≤ 9223372036854775807 := (Nat.le_trans (H.rowCap 1 rfl).1 (H.rowCap 1 rfl).2)
                    refine segD2 hst [5] [0, 2, 3, 4, 1, 5] [(1, .pointer (some (⟨g1, 0, none⟩))), (3, .slice A12_0 encode.1.length c12_0), (59, .bool ((ByteArray.toList ⟨encode.1.toArray⟩) == (ByteArray.toList ⟨bytes.toArray⟩)))] (by kernel_rfl) ?_
                    rw [seq_raw encode.1 bytes]
                    rw [show (encode.1 == bytes) = false from hb62]
                    refine segD2 hst [6, 7, 8, 9, 10, 11, 12, 13, 14, 15, 16] [0, 2, 3, 4, 1, 5, 6, 7, 8, 9, 10, 11, 12, 13, 14, 15, 16] [(2, .bool false)] (by kernel_rfl) ?_
                    refine endD2 (by kernel_rfl) ⟨(H.has.sub hsub111), H.blk 2 rfl⟩ ?_
                    refine retR [2] [.bool false] (by kernel_rfl) (by kernel_rfl) (by kernel_rfl) ?_
                    have hret := (Option.some.inj hf)
                    subst hret
                    exact ⟨_, rfl, rfl, H.scalar⟩
  · rw [hb5]
    have p5 := of_decide_eq_false hb5
    refine seg 7 [.op [1, 0, 0] 12, .co [1, 0, 1], .co [1, 1]] [(1, .pointer (some (⟨g1, 0, none⟩))), (16, .bool false), (17, .pointer (some (⟨g1, 16, none⟩)))] (by kernel_rfl) ?_
    refine st (ldR (some 18) 9 (⟨g1, 16, none⟩) (.string ⟨n_.Target.toArray⟩) (by kernel_rfl) (by kernel_rfl) (H.cellB 0 rfl rfl) ?_)
    refine seg 4 [.co [1, 0, 1], .co [1, 1]] [(1, .pointer (some (⟨g1, 0, none⟩))), (21, .bool (decide ((n_.Target.length : Int) > 5000)))] (by kernel_rfl) ?_
    rcases condT hf with ⟨hb116, hf⟩ | ⟨hb116, hf⟩
    · rw [hb116]
      have p116 := of_decide_eq_true hb116
      refine seg 3 [.op [1, 0, 1, 0, 0] 0, .co [1, 0, 1, 0, 1], .co [1, 1]] [] (by kernel_rfl) ?_
      obtain ⟨live4, h_live4, hf⟩ := bindE hf
      refine st (callR (some 22) 23 #[] Try.call23 (law15_live_c H.has  h_live4) (by kernel_rfl) ?_)
      rintro _ w117 ⟨rfl, hx117⟩
      replace H := H.ex hx117
      refine seg 2 [.co [1, 0, 1, 0, 1], .co [1, 1]] [(2, .bool live4)] (by kernel_rfl) ?_
      refine retR [2] [.bool live4] (by kernel_rfl) (by kernel_rfl) (by kernel_rfl) ?_
      have hret := (Option.some.inj hf)
      subst hret
      exact ⟨_, rfl, rfl, H.scalar⟩
    · rw [hb116]
      have p116 := of_decide_eq_false hb116
      refine seg 4 [.op [1, 1, 0] 0, .co [1, 1, 1]] [(1, .pointer (some (⟨g1, 0, none⟩)))] (by kernel_rfl) ?_
      refine st (ldAggR (some 24) 46 (⟨g1, 0, none⟩) [.int .i64 n_.Kind, .int .i64 n_.Mode, .int .i64 n_.Uid, .int .i64 n_.Gid, .int .i64 n_.Time, .int .i64 n_.Links, .int .i64 n_.Attrs, .int .i64 n_.Size, .int .i64 n_.Start, .slice A0_9 n_.Words.length c0_9, .int .i64 n_.Frag, .int .i64 n_.Off, .int .i64 n_.Tail, .int .i64 n_.Dir, .int .i64 n_.Bytes, .int .i64 n_.Parent, .string ⟨n_.Target.toArray⟩, .int .i64 n_.Dev] (by kernel_rfl) (by kernel_rfl) (H.cellsB 0 rfl (by rfl)) ?_)
      obtain ⟨encode1, h_encode1, hf⟩ := bindE hf
      refine st (callR (some 25) 27 #[.agg #[.int .i64 n_.Kind, .int .i64 n_.Mode, .int .i64 n_.Uid, .int .i64 n_.Gid, .int .i64 n_.Time, .int .i64 n_.Links, .int .i64 n_.Attrs, .int .i64 n_.Size, .int .i64 n_.Start, .slice A0_9 n_.Words.length c0_9, .int .i64 n_.Frag, .int .i64 n_.Off, .int .i64 n_.Tail, .int .i64 n_.Dir, .int .i64 n_.Bytes, .int .i64 n_.Parent, .string ⟨n_.Target.toArray⟩, .int .i64 n_.Dev]] Try.call27 (inode_Encode_c H.has n_ A0_9 c0_9 s0_9 l0_16 h_encode1) (by kernel_rfl) ?_)
      rintro _ w118 ⟨A118_0, c118_0, mk118, rfl, hS118⟩
      have hsub118 := hS118.sub
      replace H := H.call0 hS118
      refine seg 8 [.op [1, 1, 1, 0] 0, .co [1, 1, 1, 1]] [(1, .pointer (some (⟨g1, 0, none⟩))), (3, .slice A118_0 encode1.1.length c118_0), (4, .int .i64 encode1.2)] (by kernel_rfl) ?_
      refine st (ldAggR (some 28) 46 (⟨g1, 0, none⟩) [.int .i64 n_.Kind, .int .i64 n_.Mode, .int .i64 n_.Uid, .int .i64 n_.Gid, .int .i64 n_.Time, .int .i64 n_.Links, .int .i64 n_.Attrs, .int .i64 n_.Size, .int .i64 n_.Start, .slice A0_9 n_.Words.length c0_9, .int .i64 n_.Frag, .int .i64 n_.Off, .int .i64 n_.Tail, .int .i64 n_.Dir, .int .i64 n_.Bytes, .int .i64 n_.Parent, .string ⟨n_.Target.toArray⟩, .int .i64 n_.Dev] (by kernel_rfl) (by kernel_rfl) (H.cellsB 1 rfl (by rfl)) ?_)
      obtain ⟨check2, h_check2, hf⟩ := bindE hf
      refine st (callR (some 29) 25 #[.agg #[.int .i64 n_.Kind, .int .i64 n_.Mode, .int .i64 n_.Uid, .int .i64 n_.Gid, .int .i64 n_.Time, .int .i64 n_.Links, .int .i64 n_.Attrs, .int .i64 n_.Size, .int .i64 n_.Start, .slice A0_9 n_.Words.length c0_9, .int .i64 n_.Frag, .int .i64 n_.Off, .int .i64 n_.Tail, .int .i64 n_.Dir, .int .i64 n_.Bytes, .int .i64 n_.Parent, .string ⟨n_.Target.toArray⟩, .int .i64 n_.Dev]] Try.call25 (ref15_Check_c H.has n_ A0_9 c0_9 (s0_9.mono hsub118) l0_16 h_check2) (by kernel_rfl) ?_)
      rintro _ w119 ⟨rfl, hx119⟩
      replace H := H.ex hx119
      refine seg 6 [.op [1, 1, 1, 1, 0, 0] 1, .co [1, 1, 1, 1, 0, 1], .co [1, 1, 1, 1, 1]] [(1, .pointer (some (⟨g1, 0, none⟩))), (3, .slice A118_0 encode1.1.length c118_0), (5, .int .i64 check2), (30, .int .i64 encode1.2)] (by kernel_rfl) ?_
      refine st (callR (some 31) 26 #[.int .i64 encode1.2] Try.call26 (law15_num_c H.has encode1.2) (by kernel_rfl) ?_)
      rintro _ w120 ⟨rfl, hx120⟩
      replace H := H.ex hx120
      refine seg 3 [.op [1, 1, 1, 1, 0, 0] 5, .co [1, 1, 1, 1, 0, 1], .co [1, 1, 1, 1, 1]] [(1, .pointer (some (⟨g1, 0, none⟩))), (3, .slice A118_0 encode1.1.length c118_0), (5, .int .i64 check2), (34, .bool ((law15_num encode1.2) != check2))] (by kernel_rfl) ?_
      rcases condT hf with ⟨hb121, hf⟩ | ⟨hb121, hf⟩
      · rw [hb121]
        refine seg 12 [.co [1, 1, 1, 1, 0, 1, 0, 1], .co [1, 1, 1, 1, 1]] [(2, .bool false)] (by kernel_rfl) ?_
        refine retR [2] [.bool false] (by kernel_rfl) (by kernel_rfl) (by kernel_rfl) ?_
        have hret := (Option.some.inj hf)
        subst hret
        exact ⟨_, rfl, rfl, H.scalar⟩
      · rw [hb121]
        replace H : St w noF m mk118 [rowI rU8 5 A118_0 c118_0 encode1.1, blkI g1 [.int .i64 n_.Kind, .int .i64 n_.Mode, .int .i64 n_.Uid, .int .i64 n_.Gid, .int .i64 n_.Time, .int .i64 n_.Links, .int .i64 n_.Attrs, .int .i64 n_.Size, .int .i64 n_.Start, .slice A0_9 n_.Words.length c0_9, .int .i64 n_.Frag, .int .i64 n_.Off, .int .i64 n_.Tail, .int .i64 n_.Dir, .int .i64 n_.Bytes, .int .i64 n_.Parent, .string ⟨n_.Target.toArray⟩, .int .i64 n_.Dev] 46] w120 := H
        refine st (ldAggR (some 35) 46 (⟨g1, 0, none⟩) [.int .i64 n_.Kind, .int .i64 n_.Mode, .int .i64 n_.Uid, .int .i64 n_.Gid, .int .i64 n_.Time, .int .i64 n_.Links, .int .i64 n_.Attrs, .int .i64 n_.Size, .int .i64 n_.Start, .slice A0_9 n_.Words.length c0_9, .int .i64 n_.Frag, .int .i64 n_.Off, .int .i64 n_.Tail, .int .i64 n_.Dir, .int .i64 n_.Bytes, .int .i64 n_.Parent, .string ⟨n_.Target.toArray⟩, .int .i64 n_.Dev] (by kernel_rfl) (by kernel_rfl) (H.cellsB 1 rfl (by rfl)) ?_)
        obtain ⟨check3, h_check3, hf⟩ := bindE hf
        refine st (callR (some 36) 28 #[.agg #[.int .i64 n_.Kind, .int .i64 n_.Mode, .int .i64 n_.Uid, .int .i64 n_.Gid, .int .i64 n_.Time, .int .i64 n_.Links, .int .i64 n_.Attrs, .int .i64 n_.Size, .int .i64 n_.Start, .slice A0_9 n_.Words.length c0_9, .int .i64 n_.Frag, .int .i64 n_.Off, .int .i64 n_.Tail, .int .i64 n_.Dir, .int .i64 n_.Bytes, .int .i64 n_.Parent, .string ⟨n_.Target.toArray⟩, .int .i64 n_.Dev]] Try.call28 (inode_Check_c H.has n_ A0_9 c0_9 (s0_9.mono hsub118) l0_16 h_check3) (by kernel_rfl) ?_)
        rintro _ w122 ⟨rfl, hx122⟩
        replace H := H.ex hx122
        refine st (callR (some 37) 26 #[.int .i64 check3] Try.call26 (law15_num_c H.has check3) (by kernel_rfl) ?_)
        rintro _ w123 ⟨rfl, hx123⟩
        replace H := H.ex hx123
        refine seg 4 [.co [1, 1, 1, 1, 0, 1], .co [1, 1, 1, 1, 1]] [(1, .pointer (some (⟨g1, 0, none⟩))), (3, .slice A118_0 encode1.1.length c118_0), (5, .int .i64 check2), (40, .bool ((law15_num check3) != check2))] (by kernel_rfl) ?_
        rcases condT hf with ⟨hb124, hf⟩ | ⟨hb124, hf⟩
        · rw [hb124]
          refine seg 5 [.co [1, 1, 1, 1, 0, 1, 0, 1], .co [1, 1, 1, 1, 1]] [(2, .bool false)] (by kernel_rfl) ?_
          refine retR [2] [.bool false] (by kernel_rfl) (by kernel_rfl) (by kernel_rfl) ?_
          have hret := (Option.some.inj hf)
          subst hret
          exact ⟨_, rfl, rfl, H.scalar⟩
        · rw [hb124]
          refine seg 8 [.co [1, 1, 1, 1, 1, 0, 1], .co [1, 1, 1, 1, 1, 1]] [(1, .pointer (some (⟨g1, 0, none⟩))), (3, .slice A118_0 encode1.1.length c118_0), (42, .bool (check2 != 0))] (by kernel_rfl) ?_
          rcases condT hf with ⟨hb125, hf⟩ | ⟨hb125, hf⟩
          · rw [hb125]
            refine seg 7 [.op [1, 1, 1, 1, 1, 0, 1, 0, 0] 4, .co [1, 1, 1, 1, 1, 0, 1, 0, 1], .co [1, 1, 1, 1, 1, 1]] [(1, .pointer (some (⟨g1, 0, none⟩))), (46, .bool ((encode1.1.length : Int) == 0))] (by kernel_rfl) ?_
            rcases condT hf with ⟨hb126, hf⟩ | ⟨hb126, hf⟩
            · rw [hb126]
              refine st (ldAggR (some 47) 46 (⟨g1, 0, none⟩) [.int .i64 n_.Kind, .int .i64 n_.Mode, .int .i64 n_.Uid, .int .i64 n_.Gid, .int .i64 n_.Time, .int .i64 n_.Links, .int .i64 n_.Attrs, .int .i64 n_.Size, .int .i64 n_.Start, .slice A0_9 n_.Words.length c0_9, .int .i64 n_.Frag, .int .i64 n_.Off, .int .i64 n_.Tail, .int .i64 n_.Dir, .int .i64 n_.Bytes, .int .i64 n_.Parent, .string ⟨n_.Target.toArray⟩, .int .i64 n_.Dev] (by kernel_rfl) (by kernel_rfl) (H.cellsB 1 rfl (by rfl)) ?_)
              obtain ⟨size2, h_size2, hf⟩ := bindE hf
              refine st (callR (some 48) 29 #[.agg #[.int .i64 n_.Kind, .int .i64 n_.Mode, .int .i64 n_.Uid, .int .i64 n_.Gid, .int .i64 n_.Time, .int .i64 n_.Links, .int .i64 n_.Attrs, .int .i64 n_.Size, .int .i64 n_.Start, .slice A0_9 n_.Words.length c0_9, .int .i64 n_.Frag, .int .i64 n_.Off, .int .i64 n_.Tail, .int .i64 n_.Dir, .int .i64 n_.Bytes, .int .i64 n_.Parent, .string ⟨n_.Target.toArray⟩, .int .i64 n_.Dev]] Try.call29 (inode_Size_c H.has n_ A0_9 c0_9 (s0_9.mono hsub118) l0_16 h_size2) (by kernel_rfl) ?_)
              rintro _ w127 ⟨rfl, hx127⟩
              replace H := H.ex hx127
              refine seg 3 [.op [1, 1, 1, 1, 1, 0, 1, 0, 0] 9, .co [1, 1, 1, 1, 1, 0, 1, 0, 1], .co [1, 1, 1, 1, 1, 1]] [(51, .bool (size2 == 0))] (by kernel_rfl) ?_
              rcases condT hf with ⟨hb128, hf⟩ | ⟨hb128, hf⟩
              · rw [hb128]
                obtain ⟨live5, h_live5, hf⟩ := bindE hf
                refine st (callR (some 52) 23 #[] Try.call23 (law15_live_c H.has  h_live5) (by kernel_rfl) ?_)
                rintro _ w129 ⟨rfl, hx129⟩
                replace H := H.ex hx129
                refine seg 3 [.co [1, 1, 1, 1, 1, 0, 1, 0, 1], .co [1, 1, 1, 1, 1, 1]] [(2, .bool live5)] (by kernel_rfl) ?_
                refine retR [2] [.bool live5] (by kernel_rfl) (by kernel_rfl) (by kernel_rfl) ?_
                have hret := (Option.some.inj hf)
                subst hret
                exact ⟨_, rfl, rfl, H.scalar⟩
              · rw [hb128]
                refine seg 4 [.co [1, 1, 1, 1, 1, 0, 1, 0, 1], .co [1, 1, 1, 1, 1, 1]] [(2, .bool false)] (by kernel_rfl) ?_
                refine retR [2] [.bool false] (by kernel_rfl) (by kernel_rfl) (by kernel_rfl) ?_
                have hret := (Option.some.inj hf)
                subst hret
                exact ⟨_, rfl, rfl, H.scalar⟩
            · rw [hb126]
              refine seg 9 [.co [1, 1, 1, 1, 1, 0, 1, 0, 1], .co [1, 1, 1, 1, 1, 1]] [(2, .bool false)] (by kernel_rfl) ?_
              refine retR [2] [.bool false] (by kernel_rfl) (by kernel_rfl) (by kernel_rfl) ?_
              have hret := (Option.some.inj hf)
              subst hret
              exact ⟨_, rfl, rfl, H.scalar⟩
          · rw [hb125]
            refine seg 3 [.co [1, 1, 1, 1, 1, 1, 0], .co [1, 1, 1, 1, 1, 1, 1]] [(1, .pointer (some (⟨g1, 0, none⟩))), (3, .slice A118_0 encode1.1.length c118_0)] (by kernel_rfl) ?_
            obtain ⟨bytes1, h_bytes1, hf⟩ := bindE hf
            rcases condT hf with ⟨hb133, hf⟩ | ⟨hb133, hf⟩
            · obtain ⟨size3, h_size3, hf⟩ := bindE hf
              rcases condT hf with ⟨hb138, hf⟩ | ⟨hb138, hf⟩
              · obtain ⟨live6, h_live6, hf⟩ := bindE hf
                have hst : statB (bodyOf Try.f8) [1, 1, 1, 1, 1, 1, 0] = true := by kernel_rfl
                refine drawS (fun w' => Has mk118 w' ∧ w'.heap[g1]? = some (.cells [.int .i64 n_.Kind, .int .i64 n_.Mode, .int .i64 n_.Uid, .int .i64 n_.Gid, .int .i64 n_.Time, .int .i64 n_.Links, .int .i64 n_.Attrs, .int .i64 n_.Size, .int .i64 n_.Start, .slice A0_9 n_.Words.length c0_9, .int .i64 n_.Frag, .int .i64 n_.Off, .int .i64 n_.Tail, .int .i64 n_.Dir, .int .i64 n_.Bytes, .int .i64 n_.Parent, .string ⟨n_.Target.toArray⟩, .int .i64 n_.Dev].toArray 46 (0, 0))) H (by kernel_rfl) (by kernel_rfl) ?_
                intro w144 H
                refine segD2 hst [0] [0] [(1, .pointer (some (⟨g1, 0, none⟩))), (3, .slice A118_0 encode1.1.length c118_0), (54, .slice A118_0 encode1.1.length c118_0)] (by kernel_rfl) ?_
                refine takeD2 (i := 2) (d := (some 56)) (s := vS (Instr.loadAt 46 (.pointer (some (⟨g1, 0, none⟩))))) (v := (.agg #[.int .i64 n_.Kind, .int .i64 n_.Mode, .int .i64 n_.Uid, .int .i64 n_.Gid, .int .i64 n_.Time, .int .i64 n_.Links, .int .i64 n_.Attrs, .int .i64 n_.Size, .int .i64 n_.Start, .slice A0_9 n_.Words.length c0_9, .int .i64 n_.Frag, .int .i64 n_.Off, .int .i64 n_.Tail, .int .i64 n_.Dir, .int .i64 n_.Bytes, .int .i64 n_.Parent, .string ⟨n_.Target.toArray⟩, .int .i64 n_.Dev])) hst (by kernel_rfl) (by kernel_rfl) (fun w' hw' => aggRun _ _ [.int .i64 n_.Kind, .int .i64 n_.Mode, .int .i64 n_.Uid, .int .i64 n_.Gid, .int .i64 n_.Time, .int .i64 n_.Links, .int .i64 n_.Attrs, .int .i64 n_.Size, .int .i64 n_.Start, .slice A0_9 n_.Words.length c0_9, .int .i64 n_.Frag, .int .i64 n_.Off, .int .i64 n_.Tail, .int .i64 n_.Dir, .int .i64 n_.Bytes, .int .i64 n_.Parent, .string ⟨n_.Target.toArray⟩, .int .i64 n_.Dev] (by kernel_rfl) (blk_cells hw'.2 (by rfl))) ?_
                refine allD2 [1, 3] (by kernel_rfl) ⟨H.has, H.blk 1 rfl⟩ ⟨?_, ?_, trivial⟩
                · replace H : St w noF m mk118 [rowI rU8 5 A118_0 c118_0 encode1.1, blkI g1 [.int .i64 n_.Kind, .int .i64 n_.Mode, .int .i64 n_.Uid, .int .i64 n_.Gid, .int .i64 n_.Time, .int .i64 n_.Links, .int .i64 n_.Attrs, .int .i64 n_.Size, .int .i64 n_.Start, .slice A0_9 n_.Words.length c0_9, .int .i64 n_.Frag, .int .i64 n_.Off, .int .i64 n_.Tail, .int .i64 n_.Dir, .int .i64 n_.Bytes, .int .i64 n_.Parent, .string ⟨n_.Target.toArray⟩, .int .i64 n_.Dev] 46] w144 := H
                  refine (b2sS (some 55) 30 9 5 A118_0 c118_0 encode1.1 Try.underlying30 Try.underlying5 Try.underlying9 (by kernel_rfl) (H.rowCs 0 rfl) ?_)
                  have hl145 : encode1.1.length ≤ 9223372036854775807 := (Nat.le_trans (H.rowCap 0 rfl).1 (H.rowCap 0 rfl).2)
                  refine stD2 (i := 3) (by kernel_rfl) ⟨H.has, H.blk 1 rfl⟩ (callR (some 57) 30 #[.agg #[.int .i64 n_.Kind, .int .i64 n_.Mode, .int .i64 n_.Uid, .int .i64 n_.Gid, .int .i64 n_.Time, .int .i64 n_.Links, .int .i64 n_.Attrs, .int .i64 n_.Size, .int .i64 n_.Start, .slice A0_9 n_.Words.length c0_9, .int .i64 n_.Frag, .int .i64 n_.Off, .int .i64 n_.Tail, .int .i64 n_.Dir, .int .i64 n_.Bytes, .int .i64 n_.Parent, .string ⟨n_.Target.toArray⟩, .int .i64 n_.Dev]] Try.call30 (ref15_Bytes_c H.has n_ A0_9 c0_9 (s0_9.mono hsub118) l0_16 h_bytes1) (by kernel_rfl) ?_)
                  rintro _ w146 ⟨A146_0, c146_0, mk146, rfl, hS146⟩
                  have hsub146 := hS146.sub
                  replace H := H.call0 hS146
                  refine stD2 (i := 4) (by kernel_rfl) ⟨(H.has.sub hsub146), H.blk 2 rfl⟩ (b2sS (some 58) 30 9 5 A146_0 c146_0 bytes1 Try.underlying30 Try.underlying5 Try.underlying9 (by kernel_rfl) (H.rowCs 0 rfl) ?_)
                  have hl147 : bytes1.length ≤ 9223372036854775807 := (Nat.le_trans (H.rowCap 0 rfl).1 (H.rowCap 0 rfl).2)
                  refine segD2 hst [5] [0, 2, 1, 3, 4, 5] [(1, .pointer (some (⟨g1, 0, none⟩))), (3, .slice A118_0 encode1.1.length c118_0), (59, .bool ((ByteArray.toList ⟨encode1.1.toArray⟩) == (ByteArray.toList ⟨bytes1.toArray⟩)))] (by kernel_rfl) ?_
                  rw [seq_raw encode1.1 bytes1]
                  rw [show (encode1.1 == bytes1) = true from hb133]
                  refine segD2 hst [6, 9, 10] [0, 2, 1, 3, 4, 5, 6, 9, 10] [(1, .pointer (some (⟨g1, 0, none⟩))), (60, .bool true), (64, .int .i64 (encode1.1.length : Int))] (by kernel_rfl) ?_
                  refine stD2 (i := 7) (by kernel_rfl) ⟨(H.has.sub hsub146), H.blk 2 rfl⟩ (ldAggR (some 61) 46 (⟨g1, 0, none⟩) [.int .i64 n_.Kind, .int .i64 n_.Mode, .int .i64 n_.Uid, .int .i64 n_.Gid, .int .i64 n_.Time, .int .i64 n_.Links, .int .i64 n_.Attrs, .int .i64 n_.Size, .int .i64 n_.Start, .slice A0_9 n_.Words.length c0_9, .int .i64 n_.Frag, .int .i64 n_.Off, .int .i64 n_.Tail, .int .i64 n_.Dir, .int .i64 n_.Bytes, .int .i64 n_.Parent, .string ⟨n_.Target.toArray⟩, .int .i64 n_.Dev] (by kernel_rfl) (by kernel_rfl) (H.cellsB 2 rfl (by rfl)) ?_)
                  refine stD2 (i := 8) (by kernel_rfl) ⟨(H.has.sub hsub146), H.blk 2 rfl⟩ (callR (some 62) 29 #[.agg #[.int .i64 n_.Kind, .int .i64 n_.Mode, .int .i64 n_.Uid, .int .i64 n_.Gid, .int .i64 n_.Time, .int .i64 n_.Links, .int .i64 n_.Attrs, .int .i64 n_.Size, .int .i64 n_.Start, .slice A0_9 n_.Words.length c0_9, .int .i64 n_.Frag, .int .i64 n_.Off, .int .i64 n_.Tail, .int .i64 n_.Dir, .int .i64 n_.Bytes, .int .i64 n_.Parent, .string ⟨n_.Target.toArray⟩, .int .i64 n_.Dev]] Try.call29 (inode_Size_c H.has n_ A0_9 c0_9 (s0_9.mono (hsub118.trans hsub146)) l0_16 h_size3) (by kernel_rfl) ?_)
                  rintro _ w148 ⟨rfl, hx148⟩
                  replace H := H.ex hx148
                  refine segD2 hst [11] [0, 2, 1, 3, 4, 5, 6, 9, 10, 7, 8, 11] [(60, .bool true), (65, .bool (size3 == (encode1.1.length : Int)))] (by kernel_rfl) ?_
                  rw [show (size3 == (encode1.1.length : Int)) = true from hb138]
                  refine segD2 hst [12, 13] [0, 2, 1, 3, 4, 5, 6, 9, 10, 7, 8, 11, 12, 13] [(67, .bool true)] (by kernel_rfl) ?_
                  refine stD2 (i := 14) (by kernel_rfl) ⟨(H.has.sub hsub146), H.blk 2 rfl⟩ (callR (some 68) 23 #[] Try.call23 (law15_live_c H.has  h_live6) (by kernel_rfl) ?_)
                  rintro _ w149 ⟨rfl, hx149⟩
                  replace H := H.ex hx149
                  refine segD2 hst [15] [0, 2, 1, 3, 4, 5, 6, 9, 10, 7, 8, 11, 12, 13, 14, 15] [(69, .bool live6)] (by kernel_rfl) ?_
                  refine segD2 hst [16] [0, 2, 1, 3, 4, 5, 6, 9, 10, 7, 8, 11, 12, 13, 14, 15, 16] [(2, .bool live6)] (by kernel_rfl) ?_
                  refine endD2 (by kernel_rfl) ⟨(H.has.sub hsub146), H.blk 2 rfl⟩ ?_
                  refine retR [2] [.bool live6] (by kernel_rfl) (by kernel_rfl) (by kernel_rfl) ?_
                  have hret := (Option.some.inj hf)
                  subst hret
                  exact ⟨_, rfl, rfl, H.scalar⟩
                · refine (callR (some 57) 30 #[.agg #[.int .i64 n_.Kind, .int .i64 n_.Mode, .int .i64 n_.Uid, .int .i64 n_.Gid, .int .i64 n_.Time, .int .i64 n_.Links, .int .i64 n_.Attrs, .int .i64 n_.Size, .int .i64 n_.Start, .slice A0_9 n_.Words.length c0_9, .int .i64 n_.Frag, .int .i64 n_.Off, .int .i64 n_.Tail, .int .i64 n_.Dir, .int .i64 n_.Bytes, .int .i64 n_.Parent, .string ⟨n_.Target.toArray⟩, .int .i64 n_.Dev]] Try.call30 (ref15_Bytes_c H.has n_ A0_9 c0_9 (s0_9.mono hsub118) l0_16 h_bytes1) (by kernel_rfl) ?_)
                  rintro _ w150 ⟨A150_0, c150_0, mk150, rfl, hS150⟩
                  have hsub150 := hS150.sub
                  replace H := H.call0 hS150
                  refine allD2 [1, 4] (by kernel_rfl) ⟨(H.has.sub hsub150), H.blk 2 rfl⟩ ⟨?_, ?_, trivial⟩
                  · replace H : St w noF m mk150 [rowI rU8 5 A150_0 c150_0 bytes1, rowI rU8 5 A118_0 c118_0 encode1.1, blkI g1 [.int .i64 n_.Kind, .int .i64 n_.Mode, .int .i64 n_.Uid, .int .i64 n_.Gid, .int .i64 n_.Time, .int .i64 n_.Links, .int .i64 n_.Attrs, .int .i64 n_.Size, .int .i64 n_.Start, .slice A0_9 n_.Words.length c0_9, .int .i64 n_.Frag, .int .i64 n_.Off, .int .i64 n_.Tail, .int .i64 n_.Dir, .int .i64 n_.Bytes, .int .i64 n_.Parent, .string ⟨n_.Target.toArray⟩, .int .i64 n_.Dev] 46] w150 := H
                    refine (b2sS (some 55) 30 9 5 A118_0 c118_0 encode1.1 Try.underlying30 Try.underlying5 Try.underlying9 (by kernel_rfl) (H.rowCs 1 rfl) ?_)
                    have hl151 : encode1.1.length ≤ 9223372036854775807 := (Nat.le_trans (H.rowCap 1 rfl).1 (H.rowCap 1 rfl).2)
                    refine stD2 (i := 4) (by kernel_rfl) ⟨(H.has.sub hsub150), H.blk 2 rfl⟩ (b2sS (some 58) 30 9 5 A150_0 c150_0 bytes1 Try.underlying30 Try.underlying5 Try.underlying9 (by kernel_rfl) (H.rowCs 0 rfl) ?_)
                    have hl152 : bytes1.length ≤ 9223372036854775807 := (Nat.le_trans (H.rowCap 0 rfl).1 (H.rowCap 0 rfl).2)
                    refine segD2 hst [5] [0, 2, 3, 1, 4, 5] [(1, .pointer (some (⟨g1, 0, none⟩))), (3, .slice A118_0 encode1.1.length c118_0), (59, .bool ((ByteArray.toList ⟨encode1.1.toArray⟩) == (ByteArray.toList ⟨bytes1.toArray⟩)))] (by kernel_rfl) ?_
                    rw [seq_raw encode1.1 bytes1]
                    rw [show (encode1.1 == bytes1) = true from hb133]
                    refine segD2 hst [6, 9, 10] [0, 2, 3, 1, 4, 5, 6, 9, 10] [(1, .pointer (some (⟨g1, 0, none⟩))), (60, .bool true), (64, .int .i64 (encode1.1.length : Int))] (by kernel_rfl) ?_
                    refine stD2 (i := 7) (by kernel_rfl) ⟨(H.has.sub hsub150), H.blk 2 rfl⟩ (ldAggR (some 61) 46 (⟨g1, 0, none⟩) [.int .i64 n_.Kind, .int .i64 n_.Mode, .int .i64 n_.Uid, .int .i64 n_.Gid, .int .i64 n_.Time, .int .i64 n_.Links, .int .i64 n_.Attrs, .int .i64 n_.Size, .int .i64 n_.Start, .slice A0_9 n_.Words.length c0_9, .int .i64 n_.Frag, .int .i64 n_.Off, .int .i64 n_.Tail, .int .i64 n_.Dir, .int .i64 n_.Bytes, .int .i64 n_.Parent, .string ⟨n_.Target.toArray⟩, .int .i64 n_.Dev] (by kernel_rfl) (by kernel_rfl) (H.cellsB 2 rfl (by rfl)) ?_)
                    refine stD2 (i := 8) (by kernel_rfl) ⟨(H.has.sub hsub150), H.blk 2 rfl⟩ (callR (some 62) 29 #[.agg #[.int .i64 n_.Kind, .int .i64 n_.Mode, .int .i64 n_.Uid, .int .i64 n_.Gid, .int .i64 n_.Time, .int .i64 n_.Links, .int .i64 n_.Attrs, .int .i64 n_.Size, .int .i64 n_.Start, .slice A0_9 n_.Words.length c0_9, .int .i64 n_.Frag, .int .i64 n_.Off, .int .i64 n_.Tail, .int .i64 n_.Dir, .int .i64 n_.Bytes, .int .i64 n_.Parent, .string ⟨n_.Target.toArray⟩, .int .i64 n_.Dev]] Try.call29 (inode_Size_c H.has n_ A0_9 c0_9 (s0_9.mono (hsub118.trans hsub150)) l0_16 h_size3) (by kernel_rfl) ?_)
                    rintro _ w153 ⟨rfl, hx153⟩
                    replace H := H.ex hx153
                    refine segD2 hst [11] [0, 2, 3, 1, 4, 5, 6, 9, 10, 7, 8, 11] [(60, .bool true), (65, .bool (size3 == (encode1.1.length : Int)))] (by kernel_rfl) ?_
                    rw [show (size3 == (encode1.1.length : Int)) = true from hb138]
                    refine segD2 hst [12, 13] [0, 2, 3, 1, 4, 5, 6, 9, 10, 7, 8, 11, 12, 13] [(67, .bool true)] (by kernel_rfl) ?_
                    refine stD2 (i := 14) (by kernel_rfl) ⟨(H.has.sub hsub150), H.blk 2 rfl⟩ (callR (some 68) 23 #[] Try.call23 (law15_live_c H.has  h_live6) (by kernel_rfl) ?_)
                    rintro _ w154 ⟨rfl, hx154⟩
                    replace H := H.ex hx154
                    refine segD2 hst [15] [0, 2, 3, 1, 4, 5, 6, 9, 10, 7, 8, 11, 12, 13, 14, 15] [(69, .bool live6)] (by kernel_rfl) ?_
                    refine segD2 hst [16] [0, 2, 3, 1, 4, 5, 6, 9, 10, 7, 8, 11, 12, 13, 14, 15, 16] [(2, .bool live6)] (by kernel_rfl) ?_
                    refine endD2 (by kernel_rfl) ⟨(H.has.sub hsub150), H.blk 2 rfl⟩ ?_
                    refine retR [2] [.bool live6] (by kernel_rfl) (by kernel_rfl) (by kernel_rfl) ?_
                    have hret := (Option.some.inj hf)
                    subst hret
                    exact ⟨_, rfl, rfl, H.scalar⟩
                  · refine (b2sS (some 58) 30 9 5 A150_0 c150_0 bytes1 Try.underlying30 Try.underlying5 Try.underlying9 (by kernel_rfl) (H.rowCs 0 rfl) ?_)
                    have hl155 : bytes1.length ≤ 9223372036854775807 := (Nat.le_trans (H.rowCap 0 rfl).1 (H.rowCap 0 rfl).2)
                    refine stD2 (i := 1) (by kernel_rfl) ⟨(H.has.sub hsub150), H.blk 2 rfl⟩ (b2sS (some 55) 30 9 5 A118_0 c118_0 encode1.1 Try.underlying30 Try.underlying5 Try.underlying9 (by kernel_rfl) (H.rowCs 1 rfl) ?_)
                    have hl156 : encode1.1.length ≤ 9223372036854775807 := (Nat.le_trans (H.rowCap 1 rfl).1 (H.rowCap 1 rfl).2)
                    refine segD2 hst [5] [0, 2, 3, 4, 1, 5] [(1, .pointer (some (⟨g1, 0, none⟩))), (3, .slice A118_0 encode1.1.length c118_0), (59, .bool ((ByteArray.toList ⟨encode1.1.toArray⟩) == (ByteArray.toList ⟨bytes1.toArray⟩)))] (by kernel_rfl) ?_
                    rw [seq_raw encode1.1 bytes1]
                    rw [show (encode1.1 == bytes1) = true from hb133]
                    refine segD2 hst [6, 9, 10] [0, 2, 3, 4, 1, 5, 6, 9, 10] [(1, .pointer (some (⟨g1, 0, none⟩))), (60, .bool true), (64, .int .i64 (encode1.1.length : Int))] (by kernel_rfl) ?_
                    refine stD2 (i := 7) (by kernel_rfl) ⟨(H.has.sub hsub150), H.blk 2 rfl⟩ (ldAggR (some 61) 46 (⟨g1, 0, none⟩) [.int .i64 n_.Kind, .int .i64 n_.Mode, .int .i64 n_.Uid, .int .i64 n_.Gid, .int .i64 n_.Time, .int .i64 n_.Links, .int .i64 n_.Attrs, .int .i64 n_.Size, .int .i64 n_.Start, .slice A0_9 n_.Words.length c0_9, .int .i64 n_.Frag, .int .i64 n_.Off, .int .i64 n_.Tail, .int .i64 n_.Dir, .int .i64 n_.Bytes, .int .i64 n_.Parent, .string ⟨n_.Target.toArray⟩, .int .i64 n_.Dev] (by kernel_rfl) (by kernel_rfl) (H.cellsB 2 rfl (by rfl)) ?_)
                    refine stD2 (i := 8) (by kernel_rfl) ⟨(H.has.sub hsub150), H.blk 2 rfl⟩ (callR (some 62) 29 #[.agg #[.int .i64 n_.Kind, .int .i64 n_.Mode, .int .i64 n_.Uid, .int .i64 n_.Gid, .int .i64 n_.Time, .int .i64 n_.Links, .int .i64 n_.Attrs, .int .i64 n_.Size, .int .i64 n_.Start, .slice A0_9 n_.Words.length c0_9, .int .i64 n_.Frag, .int .i64 n_.Off, .int .i64 n_.Tail, .int .i64 n_.Dir, .int .i64 n_.Bytes, .int .i64 n_.Parent, .string ⟨n_.Target.toArray⟩, .int .i64 n_.Dev]] Try.call29 (inode_Size_c H.has n_ A0_9 c0_9 (s0_9.mono (hsub118.trans hsub150)) l0_16 h_size3) (by kernel_rfl) ?_)
                    rintro _ w157 ⟨rfl, hx157⟩
                    replace H := H.ex hx157
                    refine segD2 hst [11] [0, 2, 3, 4, 1, 5, 6, 9, 10, 7, 8, 11] [(60, .bool true), (65, .bool (size3 == (encode1.1.length : Int)))] (by kernel_rfl) ?_
                    rw [show (size3 == (encode1.1.length : Int)) = true from hb138]
                    refine segD2 hst [12, 13] [0, 2, 3, 4, 1, 5, 6, 9, 10, 7, 8, 11, 12, 13] [(67, .bool true)] (by kernel_rfl) ?_
                    refine stD2 (i := 14) (by kernel_rfl) ⟨(H.has.sub hsub150), H.blk 2 rfl⟩ (callR (some 68) 23 #[] Try.call23 (law15_live_c H.has  h_live6) (by kernel_rfl) ?_)
                    rintro _ w158 ⟨rfl, hx158⟩
                    replace H := H.ex hx158
                    refine segD2 hst [15] [0, 2, 3, 4, 1, 5, 6, 9, 10, 7, 8, 11, 12, 13, 14, 15] [(69, .bool live6)] (by kernel_rfl) ?_
                    refine segD2 hst [16] [0, 2, 3, 4, 1, 5, 6, 9, 10, 7, 8, 11, 12, 13, 14, 15, 16] [(2, .bool live6)] (by kernel_rfl) ?_
                    refine endD2 (by kernel_rfl) ⟨(H.has.sub hsub150), H.blk 2 rfl⟩ ?_
                    refine retR [2] [.bool live6] (by kernel_rfl) (by kernel_rfl) (by kernel_rfl) ?_
                    have hret := (Option.some.inj hf)
                    subst hret
                    exact ⟨_, rfl, rfl, H.scalar⟩
              · have hst : statB (bodyOf Try.f8) [1, 1, 1, 1, 1, 1, 0] = true := by kernel_rfl
                refine drawS (fun w' => Has mk118 w' ∧ w'.heap[g1]? = some (.cells [.int .i64 n_.Kind, .int .i64 n_.Mode, .int .i64 n_.Uid, .int .i64 n_.Gid, .int .i64 n_.Time, .int .i64 n_.Links, .int .i64 n_.Attrs, .int .i64 n_.Size, .int .i64 n_.Start, .slice A0_9 n_.Words.length c0_9, .int .i64 n_.Frag, .int .i64 n_.Off, .int .i64 n_.Tail, .int .i64 n_.Dir, .int .i64 n_.Bytes, .int .i64 n_.Parent, .string ⟨n_.Target.toArray⟩, .int .i64 n_.Dev].toArray 46 (0, 0))) H (by kernel_rfl) (by kernel_rfl) ?_
                intro w163 H
                refine segD2 hst [0] [0] [(1, .pointer (some (⟨g1, 0, none⟩))), (3, .slice A118_0 encode1.1.length c118_0), (54, .slice A118_0 encode1.1.length c118_0)] (by kernel_rfl) ?_
                refine takeD2 (i := 2) (d := (some 56)) (s := vS (Instr.loadAt 46 (.pointer (some (⟨g1, 0, none⟩))))) (v := (.agg #[.int .i64 n_.Kind, .int .i64 n_.Mode, .int .i64 n_.Uid, .int .i64 n_.Gid, .int .i64 n_.Time, .int .i64 n_.Links, .int .i64 n_.Attrs, .int .i64 n_.Size, .int .i64 n_.Start, .slice A0_9 n_.Words.length c0_9, .int .i64 n_.Frag, .int .i64 n_.Off, .int .i64 n_.Tail, .int .i64 n_.Dir, .int .i64 n_.Bytes, .int .i64 n_.Parent, .string ⟨n_.Target.toArray⟩, .int .i64 n_.Dev])) hst (by kernel_rfl) (by kernel_rfl) (fun w' hw' => aggRun _ _ [.int .i64 n_.Kind, .int .i64 n_.Mode, .int .i64 n_.Uid, .int .i64 n_.Gid, .int .i64 n_.Time, .int .i64 n_.Links, .int .i64 n_.Attrs, .int .i64 n_.Size, .int .i64 n_.Start, .slice A0_9 n_.Words.length c0_9, .int .i64 n_.Frag, .int .i64 n_.Off, .int .i64 n_.Tail, .int .i64 n_.Dir, .int .i64 n_.Bytes, .int .i64 n_.Parent, .string ⟨n_.Target.toArray⟩, .int .i64 n_.Dev] (by kernel_rfl) (blk_cells hw'.2 (by rfl))) ?_
                refine allD2 [1, 3] (by kernel_rfl) ⟨H.has, H.blk 1 rfl⟩ ⟨?_, ?_, trivial⟩
                · replace H : St w noF m mk118 [rowI rU8 5 A118_0 c118_0 encode1.1, blkI g1 [.int .i64 n_.Kind, .int .i64 n_.Mode, .int .i64 n_.Uid, .int .i64 n_.Gid, .int .i64 n_.Time, .int .i64 n_.Links, .int .i64 n_.Attrs, .int .i64 n_.Size, .int .i64 n_.Start, .slice A0_9 n_.Words.length c0_9, .int .i64 n_.Frag, .int .i64 n_.Off, .int .i64 n_.Tail, .int .i64 n_.Dir, .int .i64 n_.Bytes, .int .i64 n_.Parent, .string ⟨n_.Target.toArray⟩, .int .i64 n_.Dev] 46] w163 := H
                  refine (b2sS (some 55) 30 9 5 A118_0 c118_0 encode1.1 Try.underlying30 Try.underlying5 Try.underlying9 (by kernel_rfl) (H.rowCs 0 rfl) ?_)
                  have hl164 : encode1.1.length ≤ 9223372036854775807 := (Nat.le_trans (H.rowCap 0 rfl).1 (H.rowCap 0 rfl).2)
                  refine stD2 (i := 3) (by kernel_rfl) ⟨H.has, H.blk 1 rfl⟩ (callR (some 57) 30 #[.agg #[.int .i64 n_.Kind, .int .i64 n_.Mode, .int .i64 n_.Uid, .int .i64 n_.Gid, .int .i64 n_.Time, .int .i64 n_.Links, .int .i64 n_.Attrs, .int .i64 n_.Size, .int .i64 n_.Start, .slice A0_9 n_.Words.length c0_9, .int .i64 n_.Frag, .int .i64 n_.Off, .int .i64 n_.Tail, .int .i64 n_.Dir, .int .i64 n_.Bytes, .int .i64 n_.Parent, .string ⟨n_.Target.toArray⟩, .int .i64 n_.Dev]] Try.call30 (ref15_Bytes_c H.has n_ A0_9 c0_9 (s0_9.mono hsub118) l0_16 h_bytes1) (by kernel_rfl) ?_)
                  rintro _ w165 ⟨A165_0, c165_0, mk165, rfl, hS165⟩
                  have hsub165 := hS165.sub
                  replace H := H.call0 hS165
                  refine stD2 (i := 4) (by kernel_rfl) ⟨(H.has.sub hsub165), H.blk 2 rfl⟩ (b2sS (some 58) 30 9 5 A165_0 c165_0 bytes1 Try.underlying30 Try.underlying5 Try.underlying9 (by kernel_rfl) (H.rowCs 0 rfl) ?_)
                  have hl166 : bytes1.length ≤ 9223372036854775807 := (Nat.le_trans (H.rowCap 0 rfl).1 (H.rowCap 0 rfl).2)
                  refine segD2 hst [5] [0, 2, 1, 3, 4, 5] [(1, .pointer (some (⟨g1, 0, none⟩))), (3, .slice A118_0 encode1.1.length c118_0), (59, .bool ((ByteArray.toList ⟨encode1.1.toArray⟩) == (ByteArray.toList ⟨bytes1.toArray⟩)))] (by kernel_rfl) ?_
                  rw [seq_raw encode1.1 bytes1]
                  rw [show (encode1.1 == bytes1) = true from hb133]
                  refine segD2 hst [6, 9, 10] [0, 2, 1, 3, 4, 5, 6, 9, 10] [(1, .pointer (some (⟨g1, 0, none⟩))), (60, .bool true), (64, .int .i64 (encode1.1.length : Int))] (by kernel_rfl) ?_
                  refine stD2 (i := 7) (by kernel_rfl) ⟨(H.has.sub hsub165), H.blk 2 rfl⟩ (ldAggR (some 61) 46 (⟨g1, 0, none⟩) [.int .i64 n_.Kind, .int .i64 n_.Mode, .int .i64 n_.Uid, .int .i64 n_.Gid, .int .i64 n_.Time, .int .i64 n_.Links, .int .i64 n_.Attrs, .int .i64 n_.Size, .int .i64 n_.Start, .slice A0_9 n_.Words.length c0_9, .int .i64 n_.Frag, .int .i64 n_.Off, .int .i64 n_.Tail, .int .i64 n_.Dir, .int .i64 n_.Bytes, .int .i64 n_.Parent, .string ⟨n_.Target.toArray⟩, .int .i64 n_.Dev] (by kernel_rfl) (by kernel_rfl) (H.cellsB 2 rfl (by rfl)) ?_)
                  refine stD2 (i := 8) (by kernel_rfl) ⟨(H.has.sub hsub165), H.blk 2 rfl⟩ (callR (some 62) 29 #[.agg #[.int .i64 n_.Kind, .int .i64 n_.Mode, .int .i64 n_.Uid, .int .i64 n_.Gid, .int .i64 n_.Time, .int .i64 n_.Links, .int .i64 n_.Attrs, .int .i64 n_.Size, .int .i64 n_.Start, .slice A0_9 n_.Words.length c0_9, .int .i64 n_.Frag, .int .i64 n_.Off, .int .i64 n_.Tail, .int .i64 n_.Dir, .int .i64 n_.Bytes, .int .i64 n_.Parent, .string ⟨n_.Target.toArray⟩, .int .i64 n_.Dev]] Try.call29 (inode_Size_c H.has n_ A0_9 c0_9 (s0_9.mono (hsub118.trans hsub165)) l0_16 h_size3) (by kernel_rfl) ?_)
                  rintro _ w167 ⟨rfl, hx167⟩
                  replace H := H.ex hx167
                  refine segD2 hst [11] [0, 2, 1, 3, 4, 5, 6, 9, 10, 7, 8, 11] [(60, .bool true), (65, .bool (size3 == (encode1.1.length : Int)))] (by kernel_rfl) ?_
                  rw [show (size3 == (encode1.1.length : Int)) = false from hb138]
                  refine segD2 hst [12, 13, 14, 15, 16] [0, 2, 1, 3, 4, 5, 6, 9, 10, 7, 8, 11, 12, 13, 14, 15, 16] [(2, .bool false)] (by kernel_rfl) ?_
                  refine endD2 (by kernel_rfl) ⟨(H.has.sub hsub165), H.blk 2 rfl⟩ ?_
                  refine retR [2] [.bool false] (by kernel_rfl) (by kernel_rfl) (by kernel_rfl) ?_
                  have hret := (Option.some.inj hf)
                  subst hret
                  exact ⟨_, rfl, rfl, H.scalar⟩
                · refine (callR (some 57) 30 #[.agg #[.int .i64 n_.Kind, .int .i64 n_.Mode, .int .i64 n_.Uid, .int .i64 n_.Gid, .int .i64 n_.Time, .int .i64 n_.Links, .int .i64 n_.Attrs, .int .i64 n_.Size, .int .i64 n_.Start, .slice A0_9 n_.Words.length c0_9, .int .i64 n_.Frag, .int .i64 n_.Off, .int .i64 n_.Tail, .int .i64 n_.Dir, .int .i64 n_.Bytes, .int .i64 n_.Parent, .string ⟨n_.Target.toArray⟩, .int .i64 n_.Dev]] Try.call30 (ref15_Bytes_c H.has n_ A0_9 c0_9 (s0_9.mono hsub118) l0_16 h_bytes1) (by kernel_rfl) ?_)
                  rintro _ w168 ⟨A168_0, c168_0, mk168, rfl, hS168⟩
                  have hsub168 := hS168.sub
                  replace H := H.call0 hS168
                  refine allD2 [1, 4] (by kernel_rfl) ⟨(H.has.sub hsub168), H.blk 2 rfl⟩ ⟨?_, ?_, trivial⟩
                  · refine (b2sS (some 55) 30 9 5 A118_0 c118_0 encode1.1 Try.underlying30 Try.underlying5 Try.underlying9 (by kernel_rfl) (H.rowCs 1 rfl) ?_)
                    have hl169 : encode1.1.length ≤ 9223372036854775807 := (Nat.le_trans (H.rowCap 1 rfl).1 (H.rowCap 1 rfl).2)
                    refine stD2 (i := 4) (by kernel_rfl) ⟨(H.has.sub hsub168), H.blk 2 rfl⟩ (b2sS (some 58) 30 9 5 A168_0 c168_0 bytes1 Try.underlying30 Try.underlying5 Try.underlying9 (by kernel_rfl) (H.rowCs 0 rfl) ?_)
                    have hl170 : bytes1.length ≤ 9223372036854775807 := (Nat.le_trans (H.rowCap 0 rfl).1 (H.rowCap 0 rfl).2)
                    refine segD2 hst [5] [0, 2, 3, 1, 4, 5] [(1, .pointer (some (⟨g1, 0, none⟩))), (3, .slice A118_0 encode1.1.length c118_0), (59, .bool ((ByteArray.toList ⟨encode1.1.toArray⟩) == (ByteArray.toList ⟨bytes1.toArray⟩)))] (by kernel_rfl) ?_
                    rw [seq_raw encode1.1 bytes1]
                    rw [show (encode1.1 == bytes1) = true from hb133]
                    refine segD2 hst [6, 9, 10] [0, 2, 3, 1, 4, 5, 6, 9, 10] [(1, .pointer (some (⟨g1, 0, none⟩))), (60, .bool true), (64, .int .i64 (encode1.1.length : Int))] (by kernel_rfl) ?_
                    refine stD2 (i := 7) (by kernel_rfl) ⟨(H.has.sub hsub168), H.blk 2 rfl⟩ (ldAggR (some 61) 46 (⟨g1, 0, none⟩) [.int .i64 n_.Kind, .int .i64 n_.Mode, .int .i64 n_.Uid, .int .i64 n_.Gid, .int .i64 n_.Time, .int .i64 n_.Links, .int .i64 n_.Attrs, .int .i64 n_.Size, .int .i64 n_.Start, .slice A0_9 n_.Words.length c0_9, .int .i64 n_.Frag, .int .i64 n_.Off, .int .i64 n_.Tail, .int .i64 n_.Dir, .int .i64 n_.Bytes, .int .i64 n_.Parent, .string ⟨n_.Target.toArray⟩, .int .i64 n_.Dev] (by kernel_rfl) (by kernel_rfl) (H.cellsB 2 rfl (by rfl)) ?_)
                    refine stD2 (i := 8) (by kernel_rfl) ⟨(H.has.sub hsub168), H.blk 2 rfl⟩ (callR (some 62) 29 #[.agg #[.int .i64 n_.Kind, .int .i64 n_.Mode, .int .i64 n_.Uid, .int .i64 n_.Gid, .int .i64 n_.Time, .int .i64 n_.Links, .int .i64 n_.Attrs, .int .i64 n_.Size, .int .i64 n_.Start, .slice A0_9 n_.Words.length c0_9, .int .i64 n_.Frag, .int .i64 n_.Off, .int .i64 n_.Tail, .int .i64 n_.Dir, .int .i64 n_.Bytes, .int .i64 n_.Parent, .string ⟨n_.Target.toArray⟩, .int .i64 n_.Dev]] Try.call29 (inode_Size_c H.has n_ A0_9 c0_9 (s0_9.mono (hsub118.trans hsub168)) l0_16 h_size3) (by kernel_rfl) ?_)
                    rintro _ w171 ⟨rfl, hx171⟩
                    replace H := H.ex hx171
                    refine segD2 hst [11] [0, 2, 3, 1, 4, 5, 6, 9, 10, 7, 8, 11] [(60, .bool true), (65, .bool (size3 == (encode1.1.length : Int)))] (by kernel_rfl) ?_
                    rw [show (size3 == (encode1.1.length : Int)) = false from hb138]
                    refine segD2 hst [12, 13, 14, 15, 16] [0, 2, 3, 1, 4, 5, 6, 9, 10, 7, 8, 11, 12, 13, 14, 15, 16] [(2, .bool false)] (by kernel_rfl) ?_
                    refine endD2 (by kernel_rfl) ⟨(H.has.sub hsub168), H.blk 2 rfl⟩ ?_
                    refine retR [2] [.bool false] (by kernel_rfl) (by kernel_rfl) (by kernel_rfl) ?_
                    have hret := (Option.some.inj hf)
                    subst hret
                    exact ⟨_, rfl, rfl, H.scalar⟩
                  · replace H : St w noF m mk168 [rowI rU8 5 A168_0 c168_0 bytes1, rowI rU8 5 A118_0 c118_0 encode1.1, blkI g1 [.int .i64 n_.Kind, .int .i64 n_.Mode, .int .i64 n_.Uid, .int .i64 n_.Gid, .int .i64 n_.Time, .int .i64 n_.Links, .int .i64 n_.Attrs, .int .i64 n_.Size, .int .i64 n_.Start, .slice A0_9 n_.Words.length c0_9, .int .i64 n_.Frag, .int .i64 n_.Off, .int .i64 n_.Tail, .int .i64 n_.Dir, .int .i64 n_.Bytes, .int .i64 n_.Parent, .string ⟨n_.Target.toArray⟩, .int .i64 n_.Dev] 46] w168 := H
                    refine (b2sS (some 58) 30 9 5 A168_0 c168_0 bytes1 Try.underlying30 Try.underlying5 Try.underlying9 (by kernel_rfl) (H.rowCs 0 rfl) ?_)
                    have hl172 : bytes1.length ≤ 9223372036854775807 := (Nat.le_trans (H.rowCap 0 rfl).1 (H.rowCap 0 rfl).2)
                    refine stD2 (i := 1) (by kernel_rfl) ⟨(H.has.sub hsub168), H.blk 2 rfl⟩ (b2sS (some 55) 30 9 5 A118_0 c118_0 encode1.1 Try.underlying30 Try.underlying5 Try.underlying9 (by kernel_rfl) (H.rowCs 1 rfl) ?_)
                    have hl173 : encode1.1.length ≤ 9223372036854775807 := (Nat.le_trans (H.rowCap 1 rfl).1 (H.rowCap 1 rfl).2)
                    refine segD2 hst [5] [0, 2, 3, 4, 1, 5] [(1, .pointer (some (⟨g1, 0, none⟩))), (3, .slice A118_0 encode1.1.length c118_0), (59, .bool ((ByteArray.toList ⟨encode1.1.toArray⟩) == (ByteArray.toList ⟨bytes1.toArray⟩)))] (by kernel_rfl) ?_
                    rw [seq_raw encode1.1 bytes1]
                    rw [show (encode1.1 == bytes1) = true from hb133]
                    refine segD2 hst [6, 9, 10] [0, 2, 3, 4, 1, 5, 6, 9, 10] [(1, .pointer (some (⟨g1, 0, none⟩))), (60, .bool true), (64, .int .i64 (encode1.1.length : Int))] (by kernel_rfl) ?_
                    refine stD2 (i := 7) (by kernel_rfl) ⟨(H.has.sub hsub168), H.blk 2 rfl⟩ (ldAggR (some 61) 46 (⟨g1, 0, none⟩) [.int .i64 n_.Kind, .int .i64 n_.Mode, .int .i64 n_.Uid, .int .i64 n_.Gid, .int .i64 n_.Time, .int .i64 n_.Links, .int .i64 n_.Attrs, .int .i64 n_.Size, .int .i64 n_.Start, .slice A0_9 n_.Words.length c0_9, .int .i64 n_.Frag, .int .i64 n_.Off, .int .i64 n_.Tail, .int .i64 n_.Dir, .int .i64 n_.Bytes, .int .i64 n_.Parent, .string ⟨n_.Target.toArray⟩, .int .i64 n_.Dev] (by kernel_rfl) (by kernel_rfl) (H.cellsB 2 rfl (by rfl)) ?_)
                    refine stD2 (i := 8) (by kernel_rfl) ⟨(H.has.sub hsub168), H.blk 2 rfl⟩ (callR (some 62) 29 #[.agg #[.int .i64 n_.Kind, .int .i64 n_.Mode, .int .i64 n_.Uid, .int .i64 n_.Gid, .int .i64 n_.Time, .int .i64 n_.Links, .int .i64 n_.Attrs, .int .i64 n_.Size, .int .i64 n_.Start, .slice A0_9 n_.Words.length c0_9, .int .i64 n_.Frag, .int .i64 n_.Off, .int .i64 n_.Tail, .int .i64 n_.Dir, .int .i64 n_.Bytes, .int .i64 n_.Parent, .string ⟨n_.Target.toArray⟩, .int .i64 n_.Dev]] Try.call29 (inode_Size_c H.has n_ A0_9 c0_9 (s0_9.mono (hsub118.trans hsub168)) l0_16 h_size3) (by kernel_rfl) ?_)
                    rintro _ w174 ⟨rfl, hx174⟩
                    replace H := H.ex hx174
                    refine segD2 hst [11] [0, 2, 3, 4, 1, 5, 6, 9, 10, 7, 8, 11] [(60, .bool true), (65, .bool (size3 == (encode1.1.length : Int)))] (by kernel_rfl) ?_
                    rw [show (size3 == (encode1.1.length : Int)) = false from hb138]
                    refine segD2 hst [12, 13, 14, 15, 16] [0, 2, 3, 4, 1, 5, 6, 9, 10, 7, 8, 11, 12, 13, 14, 15, 16] [(2, .bool false)] (by kernel_rfl) ?_
                    refine endD2 (by kernel_rfl) ⟨(H.has.sub hsub168), H.blk 2 rfl⟩ ?_
                    refine retR [2] [.bool false] (by kernel_rfl) (by kernel_rfl) (by kernel_rfl) ?_
                    have hret := (Option.some.inj hf)
                    subst hret
                    exact ⟨_, rfl, rfl, H.scalar⟩
            · have hst : statB (bodyOf Try.f8) [1, 1, 1, 1, 1, 1, 0] = true := by kernel_rfl
              refine drawS (fun w' => Has mk118 w' ∧ w'.heap[g1]? = some (.cells [.int .i64 n_.Kind, .int .i64 n_.Mode, .int .i64 n_.Uid, .int .i64 n_.Gid, .int .i64 n_.Time, .int .i64 n_.Links, .int .i64 n_.Attrs, .int .i64 n_.Size, .int .i64 n_.Start, .slice A0_9 n_.Words.length c0_9, .int .i64 n_.Frag, .int .i64 n_.Off, .int .i64 n_.Tail, .int .i64 n_.Dir, .int .i64 n_.Bytes, .int .i64 n_.Parent, .string ⟨n_.Target.toArray⟩, .int .i64 n_.Dev].toArray 46 (0, 0))) H (by kernel_rfl) (by kernel_rfl) ?_
              intro w178 H
              refine segD2 hst [0] [0] [(1, .pointer (some (⟨g1, 0, none⟩))), (3, .slice A118_0 encode1.1.length c118_0), (54, .slice A118_0 encode1.1.length c118_0)] (by kernel_rfl) ?_
              refine takeD2 (i := 2) (d := (some 56)) (s := vS (Instr.loadAt 46 (.pointer (some (⟨g1, 0, none⟩))))) (v := (.agg #[.int .i64 n_.Kind, .int .i64 n_.Mode, .int .i64 n_.Uid, .int .i64 n_.Gid, .int .i64 n_.Time, .int .i64 n_.Links, .int .i64 n_.Attrs, .int .i64 n_.Size, .int .i64 n_.Start, .slice A0_9 n_.Words.length c0_9, .int .i64 n_.Frag, .int .i64 n_.Off, .int .i64 n_.Tail, .int .i64 n_.Dir, .int .i64 n_.Bytes, .int .i64 n_.Parent, .string ⟨n_.Target.toArray⟩, .int .i64 n_.Dev])) hst (by kernel_rfl) (by kernel_rfl) (fun w' hw' => aggRun _ _ [.int .i64 n_.Kind, .int .i64 n_.Mode, .int .i64 n_.Uid, .int .i64 n_.Gid, .int .i64 n_.Time, .int .i64 n_.Links, .int .i64 n_.Attrs, .int .i64 n_.Size, .int .i64 n_.Start, .slice A0_9 n_.Words.length c0_9, .int .i64 n_.Frag, .int .i64 n_.Off, .int .i64 n_.Tail, .int .i64 n_.Dir, .int .i64 n_.Bytes, .int .i64 n_.Parent, .string ⟨n_.Target.toArray⟩, .int .i64 n_.Dev] (by kernel_rfl) (blk_cells hw'.2 (by rfl))) ?_
              refine allD2 [1, 3] (by kernel_rfl) ⟨H.has, H.blk 1 rfl⟩ ⟨?_, ?_, trivial⟩
              · refine (b2sS (some 55) 30 9 5 A118_0 c118_0 encode1.1 Try.underlying30 Try.underlying5 Try.underlying9 (by kernel_rfl) (H.rowCs 0 rfl) ?_)
                have hl179 : encode1.1.length ≤ 9223372036854775807 := (Nat.le_trans (H.rowCap 0 rfl).1 (H.rowCap 0 rfl).2)
                refine stD2 (i := 3) (by kernel_rfl) ⟨H.has, H.blk 1 rfl⟩ (callR (some 57) 30 #[.agg #[.int .i64 n_.Kind, .int .i64 n_.Mode, .int .i64 n_.Uid, .int .i64 n_.Gid, .int .i64 n_.Time, .int .i64 n_.Links, .int .i64 n_.Attrs, .int .i64 n_.Size, .int .i64 n_.Start, .slice A0_9 n_.Words.length c0_9, .int .i64 n_.Frag, .int .i64 n_.Off, .int .i64 n_.Tail, .int .i64 n_.Dir, .int .i64 n_.Bytes, .int .i64 n_.Parent, .string ⟨n_.Target.toArray⟩, .int .i64 n_.Dev]] Try.call30 (ref15_Bytes_c H.has n_ A0_9 c0_9 (s0_9.mono hsub118) l0_16 h_bytes1) (by kernel_rfl) ?_)
                rintro _ w180 ⟨A180_0, c180_0, mk180, rfl, hS180⟩
                have hsub180 := hS180.sub
                replace H := H.call0 hS180
                refine stD2 (i := 4) (by kernel_rfl) ⟨(H.has.sub hsub180), H.blk 2 rfl⟩ (b2sS (some 58) 30 9 5 A180_0 c180_0 bytes1 Try.underlying30 Try.underlying5 Try.underlying9 (by kernel_rfl) (H.rowCs 0 rfl) ?_)
                have hl181 : bytes1.length ≤ 9223372036854775807 := (Nat.le_trans (H.rowCap 0 rfl).1 (H.rowCap 0 rfl).2)
                refine segD2 hst [5] [0, 2, 1, 3, 4, 5] [(1, .pointer (some (⟨g1, 0, none⟩))), (3, .slice A118_0 encode1.1.length c118_0), (59, .bool ((ByteArray.toList ⟨encode1.1.toArray⟩) == (ByteArray.toList ⟨bytes1.toArray⟩)))] (by kernel_rfl) ?_
                rw [seq_raw encode1.1 bytes1]
                rw [show (encode1.1 == bytes1) = false from hb133]
                refine segD2 hst [6, 7, 8, 9, 10, 11, 12, 13, 14, 15, 16] [0, 2, 1, 3, 4, 5, 6, 7, 8, 9, 10, 11, 12, 13, 14, 15, 16] [(2, .bool false)] (by kernel_rfl) ?_
                refine endD2 (by kernel_rfl) ⟨(H.has.sub hsub180), H.blk 2 rfl⟩ ?_
                refine retR [2] [.bool false] (by kernel_rfl) (by kernel_rfl) (by kernel_rfl) ?_
                have hret := (Option.some.inj hf)
                subst hret
                exact ⟨_, rfl, rfl, H.scalar⟩
              · refine (callR (some 57) 30 #[.agg #[.int .i64 n_.Kind, .int .i64 n_.Mode, .int .i64 n_.Uid, .int .i64 n_.Gid, .int .i64 n_.Time, .int .i64 n_.Links, .int .i64 n_.Attrs, .int .i64 n_.Size, .int .i64 n_.Start, .slice A0_9 n_.Words.length c0_9, .int .i64 n_.Frag, .int .i64 n_.Off, .int .i64 n_.Tail, .int .i64 n_.Dir, .int .i64 n_.Bytes, .int .i64 n_.Parent, .string ⟨n_.Target.toArray⟩, .int .i64 n_.Dev]] Try.call30 (ref15_Bytes_c H.has n_ A0_9 c0_9 (s0_9.mono hsub118) l0_16 h_bytes1) (by kernel_rfl) ?_)
                rintro _ w182 ⟨A182_0, c182_0, mk182, rfl, hS182⟩
                have hsub182 := hS182.sub
                replace H := H.call0 hS182
                refine allD2 [1, 4] (by kernel_rfl) ⟨(H.has.sub hsub182), H.blk 2 rfl⟩ ⟨?_, ?_, trivial⟩
                · replace H : St w noF m mk182 [rowI rU8 5 A182_0 c182_0 bytes1, rowI rU8 5 A118_0 c118_0 encode1.1, blkI g1 [.int .i64 n_.Kind, .int .i64 n_.Mode, .int .i64 n_.Uid, .int .i64 n_.Gid, .int .i64 n_.Time, .int .i64 n_.Links, .int .i64 n_.Attrs, .int .i64 n_.Size, .int .i64 n_.Start, .slice A0_9 n_.Words.length c0_9, .int .i64 n_.Frag, .int .i64 n_.Off, .int .i64 n_.Tail, .int .i64 n_.Dir, .int .i64 n_.Bytes, .int .i64 n_.Parent, .string ⟨n_.Target.toArray⟩, .int .i64 n_.Dev] 46] w182 := H
                  refine (b2sS (some 55) 30 9 5 A118_0 c118_0 encode1.1 Try.underlying30 Try.underlying5 Try.underlying9 (by kernel_rfl) (H.rowCs 1 rfl) ?_)
                  have hl183 : encode1.1.length ≤ 9223372036854775807 := (Nat.le_trans (H.rowCap 1 rfl).1 (H.rowCap 1 rfl).2)
                  refine stD2 (i := 4) (by kernel_rfl) ⟨(H.has.sub hsub182), H.blk 2 rfl⟩ (b2sS (some 58) 30 9 5 A182_0 c182_0 bytes1 Try.underlying30 Try.underlying5 Try.underlying9 (by kernel_rfl) (H.rowCs 0 rfl) ?_)
                  have hl184 : bytes1.length ≤ 9223372036854775807 := (Nat.le_trans (H.rowCap 0 rfl).1 (H.rowCap 0 rfl).2)
                  refine segD2 hst [5] [0, 2, 3, 1, 4, 5] [(1, .pointer (some (⟨g1, 0, none⟩))), (3, .slice A118_0 encode1.1.length c118_0), (59, .bool ((ByteArray.toList ⟨encode1.1.toArray⟩) == (ByteArray.toList ⟨bytes1.toArray⟩)))] (by kernel_rfl) ?_
                  rw [seq_raw encode1.1 bytes1]
                  rw [show (encode1.1 == bytes1) = false from hb133]
                  refine segD2 hst [6, 7, 8, 9, 10, 11, 12, 13, 14, 15, 16] [0, 2, 3, 1, 4, 5, 6, 7, 8, 9, 10, 11, 12, 13, 14, 15, 16] [(2, .bool false)] (by kernel_rfl) ?_
                  refine endD2 (by kernel_rfl) ⟨(H.has.sub hsub182), H.blk 2 rfl⟩ ?_
                  refine retR [2] [.bool false] (by kernel_rfl) (by kernel_rfl) (by kernel_rfl) ?_
                  have hret := (Option.some.inj hf)
                  subst hret
                  exact ⟨_, rfl, rfl, H.scalar⟩
                · refine (b2sS (some 58) 30 9 5 A182_0 c182_0 bytes1 Try.underlying30 Try.underlying5 Try.underlying9 (by kernel_rfl) (H.rowCs 0 rfl) ?_)
                  have hl185 : bytes1.length ≤ 9223372036854775807 := (Nat.le_trans (H.rowCap 0 rfl).1 (H.rowCap 0 rfl).2)
                  refine stD2 (i := 1) (by kernel_rfl) ⟨(H.has.sub hsub182), H.blk 2 rfl⟩ (b2sS (some 55) 30 9 5 A118_0 c118_0 encode1.1 Try.underlying30 Try.underlying5 Try.underlying9 (by kernel_rfl) (H.rowCs 1 rfl) ?_)
                  have hl186 : encode1.1.length ≤ 9223372036854775807 := (Nat.le_trans (H.rowCap 1 rfl).1 (H.rowCap 1 rfl).2)
                  refine segD2 hst [5] [0, 2, 3, 4, 1, 5] [(1, .pointer (some (⟨g1, 0, none⟩))), (3, .slice A118_0 encode1.1.length c118_0), (59, .bool ((ByteArray.toList ⟨encode1.1.toArray⟩) == (ByteArray.toList ⟨bytes1.toArray⟩)))] (by kernel_rfl) ?_
                  rw [seq_raw encode1.1 bytes1]
                  rw [show (encode1.1 == bytes1) = false from hb133]
                  refine segD2 hst [6, 7, 8, 9, 10, 11, 12, 13, 14, 15, 16] [0, 2, 3, 4, 1, 5, 6, 7, 8, 9, 10, 11, 12, 13, 14, 15, 16] [(2, .bool false)] (by kernel_rfl) ?_
                  refine endD2 (by kernel_rfl) ⟨(H.has.sub hsub182), H.blk 2 rfl⟩ ?_
                  refine retR [2] [.bool false] (by kernel_rfl) (by kernel_rfl) (by kernel_rfl) ?_
                  have hret := (Option.some.inj hf)
                  subst hret
                  exact ⟨_, rfl, rfl, H.scalar⟩
theorem field_NewReader_c {m : Mem} {w : World} (hm : Has m w) (b : (List UInt8)) (A0_0 : Option Addr) (c0_0 : Nat) (s0_0 : SlI rU8 m A0_0 c0_0 b) {r : TFieldReader} (hf : field_NewReader b = some r) :
    Calls Try.prog 47 #[.slice A0_0 b.length c0_0] w fun e w' => ∃ v, e = .returned v ∧ ∃ gz_0 : Nat, ∃ Az_0_0 : Option Addr, ∃ cz_0_0 : Nat, ∃ m' : Mem, v = .pointer (some (⟨gz_0, 0, none⟩)) ∧ St w noF m m' [blkI gz_0 [.slice Az_0_0 r.f_b.length cz_0_0, .int .i64 r.f_at, .int .i64 r.f_e] 117] w' ∧ SlI rU8 m' Az_0_0 cz_0_0 r.f_b := by
  unfold field_NewReader at hf
  have H := St.start0 hm
  refine callsR Try.func47 (by kernel_rfl) (by kernel_rfl) ?_
  refine seg 7 [.op [1, 0] 1, .co [1, 1]] [(3, .slice A0_0 b.length c0_0)] (by kernel_rfl) ?_
  obtain ⟨copied, h_copied, hf⟩ := bindE hf
  refine st (callR (some 4) 80 #[.slice A0_0 b.length c0_0] Try.call80 (field_copied_c H.has b A0_0 c0_0 s0_0 h_copied) (by kernel_rfl) ?_)
  rintro _ w1 ⟨A1_0, c1_0, mk1, rfl, hS1⟩
  have hsub1 := hS1.sub
  replace H := H.call0 hS1
  refine seg 1 [.op [1, 0] 3, .co [1, 1]] [(5, .agg #[.slice A1_0 copied.length c1_0, .int .i64 0, .int .i64 0])] (by kernel_rfl) ?_
  refine st (newS (some 6) (fun g => .pointer (some ⟨g, 0, none⟩)) [.slice A1_0 copied.length c1_0, .int .i64 0, .int .i64 0] 117 H (by kernel_rfl) ?_)
  intro g2 w2 H
  refine seg 2 [.co [1, 1]] [(2, .pointer (some (⟨g2, 0, none⟩)))] (by kernel_rfl) ?_
  obtain ⟨mf3, hsub3, hsf3, H⟩ := H.fixR 1 rfl
  refine retR [2] [.pointer (some (⟨g2, 0, none⟩))] (by kernel_rfl) (by kernel_rfl) (by kernel_rfl) ?_
  obtain rfl : ({ f_b := copied, f_at := 0, f_e := 0 } : TFieldReader) = r := (Option.some.inj hf)
  exact ⟨_, rfl, g2, A1_0, c1_0, mf3, rfl, H, hsf3⟩
theorem field_within_c {m : Mem} {w : World} (hm : Has m w) (b : (List UInt8)) (A0_0 : Option Addr) (c0_0 : Nat) (s0_0 : SlI rU8 m A0_0 c0_0 b) (at_ : Int) (n_ : Int) :
    Calls Try.prog 98 #[.slice A0_0 b.length c0_0, .int .i64 at_, .int .i64 n_] w fun e w' => ∃ v, e = .returned v ∧ v = .bool (field_within b at_ n_) ∧ Ex w w' := by
  generalize hf : field_within b at_ n_ = r
  unfold field_within at hf
  have H := St.start0 hm
  refine callsR Try.func98 (by kernel_rfl) (by kernel_rfl) ?_
  refine seg 9 [.op [1, 0] 3, .co [1, 1]] [(0, .slice A0_0 b.length c0_0), (1, .int .i64 at_), (2, .int .i64 n_), (9, .bool (decide (at_ ≥ 0)))] (by kernel_rfl) ?_
  rcases condT hf with ⟨hb4, hf⟩ | ⟨hb4, hf⟩
  · rw [hb4]
    have p4 := of_decide_eq_true hb4
    refine seg 4 [.op [1, 0] 7, .co [1, 1]] [(0, .slice A0_0 b.length c0_0), (1, .int .i64 at_), (2, .int .i64 n_), (13, .bool (decide (n_ ≥ 0)))] (by kernel_rfl) ?_
    rcases condT hf with ⟨hb5, hf⟩ | ⟨hb5, hf⟩
    · rw [hb5]
      have p5 := of_decide_eq_true hb5
      refine seg 6 [.op [1, 0] 13, .co [1, 1]] [(0, .slice A0_0 b.length c0_0), (1, .int .i64 at_), (2, .int .i64 n_), (19, .bool (decide (n_ ≤ (b.length : Int))))] (by kernel_rfl) ?_
      rcases condT hf with ⟨hb6, hf⟩ | ⟨hb6, hf⟩
      · rw [hb6]
        have p6 := of_decide_eq_true hb6
        refine seg 9 [.co [1, 1]] [(6, .bool (decide (at_ ≤ (IntKind.i64.wrap ((b.length : Int) - n_)))))] (by kernel_rfl) ?_
        have := s0_0.bound
        rw [show IntKind.i64.wrap ((b.length : Int) - n_) = ((b.length : Int) - n_) from w64 (by omega)]
        refine retR [6] [.bool (decide (at_ ≤ ((b.length : Int) - n_)))] (by kernel_rfl) (by kernel_rfl) (by kernel_rfl) ?_
        obtain rfl : (decide (at_ ≤ ((b.length : Int) - n_))) = r := hf
        exact ⟨_, rfl, rfl, H.scalar⟩
      · rw [hb6]
        have p6 := of_decide_eq_false hb6
        refine seg 9 [.co [1, 1]] [(6, .bool false)] (by kernel_rfl) ?_
        refine retR [6] [.bool false] (by kernel_rfl) (by kernel_rfl) (by kernel_rfl) ?_
        have hret := hf
        subst hret
        exact ⟨_, rfl, rfl, H.scalar⟩
    · rw [hb5]
      have p5 := of_decide_eq_false hb5
      refine seg 15 [.co [1, 1]] [(6, .bool false)] (by kernel_rfl) ?_
      refine retR [6] [.bool false] (by kernel_rfl) (by kernel_rfl) (by kernel_rfl) ?_
      have hret := hf
      subst hret
      exact ⟨_, rfl, rfl, H.scalar⟩
  · rw [hb4]
    have p4 := of_decide_eq_false hb4
    refine seg 19 [.co [1, 1]] [(6, .bool false)] (by kernel_rfl) ?_
    refine retR [6] [.bool false] (by kernel_rfl) (by kernel_rfl) (by kernel_rfl) ?_
    have hret := hf
    subst hret
    exact ⟨_, rfl, rfl, H.scalar⟩
theorem field_Reader_take_c {m : Mem} {w : World} (hm : Has m w) (g0 : Nat) (r_ : TFieldReader) (A0_0 : Option Addr) (c0_0 : Nat) (s0_0 : SlI rU8 m A0_0 c0_0 r_.f_b) (n_ : Int) {F : Nat → Prop} (hsep : Sep m w [blkI g0 [.slice A0_0 r_.f_b.length c0_0, .int .i64 r_.f_at, .int .i64 r_.f_e] 117] F) (hF : ∀ k, F k → m k = none) {r : ((List UInt8) × TFieldReader)} (hf : field_Reader_take r_ n_ = some r) :
    Calls Try.prog 84 #[.pointer (some (⟨g0, 0, none⟩)), .int .i64 n_] w fun e w' => ∃ v, e = .returned v ∧ ∃ Az_0 : Option Addr, ∃ cz_0 : Nat, ∃ Az_o0_0 : Option Addr, ∃ cz_o0_0 : Nat, ∃ m' : Mem, v = .slice Az_0 r.1.length cz_0 ∧ St w F m m' [blkI g0 [.slice Az_o0_0 r.2.f_b.length cz_o0_0, .int .i64 r.2.f_at, .int .i64 r.2.f_e] 117] w' ∧ SlI rU8 m' Az_0 cz_0 r.1 ∧ SlI rU8 m' Az_o0_0 cz_o0_0 r.2.f_b := by
  unfold field_Reader_take at hf
  have H := St.start hm hsep hF
  refine callsR Try.func84 (by kernel_rfl) (by kernel_rfl) ?_
  refine seg 13 [.op [1, 0, 0] 6, .co [1, 0, 1], .co [1, 1]] [(0, .pointer (some (⟨g0, 0, none⟩))), (1, .int .i64 n_), (7, .bool false), (10, .pointer (some (⟨g0, 2, none⟩)))] (by kernel_rfl) ?_
  refine st (ldR (some 11) 31 (⟨g0, 2, none⟩) (.int .i64 r_.f_e) (by kernel_rfl) (by kernel_rfl) (H.cellB 0 rfl rfl) ?_)
  refine seg 3 [.co [1, 0, 1], .co [1, 1]] [(0, .pointer (some (⟨g0, 0, none⟩))), (1, .int .i64 n_), (13, .bool (r_.f_e != 0))] (by kernel_rfl) ?_
  rcases condT hf with ⟨hb2, hf⟩ | ⟨hb2, hf⟩
  · rw [hb2]
    refine seg 5 [.co [1, 0, 1, 0, 1], .co [1, 1]] [(4, .slice none 0 0)] (by kernel_rfl) ?_
    refine retR [4] [.slice none 0 0] (by kernel_rfl) (by kernel_rfl) (by kernel_rfl) ?_
    obtain rfl : ([], r_) = r := (Option.some.inj hf)
    exact ⟨_, rfl, none, 0, A0_0, c0_0, m, rfl, H, (SlI.nil _ _), s0_0⟩
  · rw [hb2]
    refine seg 10 [.co [1, 1, 0, 0, 1], .bl 0, .co [1, 1, 1]] [(0, .pointer (some (⟨g0, 0, none⟩))), (1, .int .i64 n_), (14, .bool (decide (n_ < 0)))] (by kernel_rfl) ?_
    rcases condT hf with ⟨hb15, hf⟩ | ⟨hb15, hf⟩
    · rw [hb15]
      have p15 := of_decide_eq_true hb15
      refine seg 6 [.op [1, 1, 0, 0, 1, 0, 0] 3, .co [1, 1, 0, 0, 1, 0, 1], .bl 0, .co [1, 1, 1]] [(19, .pointer (some (⟨g0, 2, none⟩)))] (by kernel_rfl) ?_
      refine st (stS none 31 0 g0 2 (.int .i64 1) [.slice A0_0 r_.f_b.length c0_0, .int .i64 r_.f_at, .int .i64 r_.f_e] 117 H rfl (by kernel_rfl) (by kernel_rfl) rfl (of_decide_eq_true rfl) ?_)
      intro w16 H
      refine seg 5 [.co [1, 1, 0, 0, 1, 0, 1, 1], .bl 0, .co [1, 1, 1]] [(4, .slice none 0 0)] (by kernel_rfl) ?_
      refine retR [4] [.slice none 0 0] (by kernel_rfl) (by kernel_rfl) (by kernel_rfl) ?_
      obtain rfl : ([], ({ f_b := r_.f_b, f_at := r_.f_at, f_e := 1 } : TFieldReader)) = r := (Option.some.inj hf)
      exact ⟨_, rfl, none, 0, A0_0, c0_0, m, rfl, H, (SlI.nil _ _), s0_0⟩
    · rw [hb15]
      have p15 := of_decide_eq_false hb15
      refine seg 2 [.co [1, 1, 0, 0, 1, 1, 0], .co [1, 1, 0, 0, 1, 1, 1], .bl 0, .co [1, 1, 1]] [(0, .pointer (some (⟨g0, 0, none⟩))), (1, .int .i64 n_)] (by kernel_rfl) ?_
      have hst : statB (bodyOf Try.f84) [1, 1, 0, 0, 1, 1, 0] = true := by kernel_rfl
      refine drawS (fun w' => Has m w' ∧ w'.heap[g0]? = some (.cells [.slice A0_0 r_.f_b.length c0_0, .int .i64 r_.f_at, .int .i64 r_.f_e].toArray 117 (0, 0))) H (by kernel_rfl) (by kernel_rfl) ?_
      intro w18 H
      refine segD2 hst [0, 1, 2, 4, 5, 6, 8] [0, 1, 2, 4, 5, 6, 8] [(0, .pointer (some (⟨g0, 0, none⟩))), (1, .int .i64 n_), (23, .pointer (some (⟨g0, 0, none⟩))), (27, .pointer (some (⟨g0, 1, none⟩))), (29, .int .i64 n_)] (by kernel_rfl) ?_
      refine takeD2 (i := 3) (d := (some 24)) (s := vS (Instr.loadAt 30 (.pointer (some (⟨g0, 0, none⟩))))) (v := (.slice A0_0 r_.f_b.length c0_0)) hst (by kernel_rfl) (by kernel_rfl) (fun w' hw' => ld_run _ _ _ (by kernel_rfl) (blk_cell hw'.2 rfl)) ?_
      replace H : St w F m m [blkI g0 [.slice A0_0 r_.f_b.length c0_0, .int .i64 r_.f_at, .int .i64 r_.f_e] 117] w18 := H
      refine stD2 (i := 7) (by kernel_rfl) ⟨H.has, H.blk 0 rfl⟩ (ldR (some 28) 3 (⟨g0, 1, none⟩) (.int .i64 r_.f_at) (by kernel_rfl) (by kernel_rfl) (H.cellB 0 rfl rfl) ?_)
      refine stD2 (i := 9) (by kernel_rfl) ⟨H.has, H.blk 0 rfl⟩ (callR (some 30) 98 #[.slice A0_0 r_.f_b.length c0_0, .int .i64 r_.f_at, .int .i64 n_] Try.call98 (field_within_c H.has r_.f_b A0_0 c0_0 s0_0 r_.f_at n_) (by kernel_rfl) ?_)
      rintro _ w19 ⟨rfl, hx19⟩
      replace H := H.ex hx19
      refine segD2 hst [10] [0, 1, 2, 4, 5, 6, 8, 3, 7, 9, 10] [(0, .pointer (some (⟨g0, 0, none⟩))), (1, .int .i64 n_), (31, .bool (!(field_within r_.f_b r_.f_at n_)))] (by kernel_rfl) ?_
      refine segD2 hst [11] [0, 1, 2, 4, 5, 6, 8, 3, 7, 9, 10, 11] [(0, .pointer (some (⟨g0, 0, none⟩))), (1, .int .i64 n_), (20, .bool (!(field_within r_.f_b r_.f_at n_)))] (by kernel_rfl) ?_
      refine endD2 (by kernel_rfl) ⟨H.has, H.blk 0 rfl⟩ ?_
      rcases condT hf with ⟨hb20, hf⟩ | ⟨hb20, hf⟩
      · rw [hb20]
        refine seg 8 [.op [1, 1, 1, 0] 3, .co [1, 1, 1, 1]] [(0, .pointer (some (⟨g0, 0, none⟩))), (1, .int .i64 n_), (35, .pointer (some (⟨g0, 0, none⟩))), (37, .pointer (some (⟨g0, 1, none⟩)))] (by kernel_rfl) ?_
        refine st (ldR (some 38) 3 (⟨g0, 1, none⟩) (.int .i64 r_.f_at) (by kernel_rfl) (by kernel_rfl) (H.cellB 0 rfl rfl) ?_)
        refine seg 4 [.op [1, 1, 1, 0] 8, .co [1, 1, 1, 1]] [(0, .pointer (some (⟨g0, 0, none⟩))), (1, .int .i64 n_), (40, .int .i64 (IntKind.i64.wrap (r_.f_at + n_))), (42, .pointer (some (⟨g0, 1, none⟩)))] (by kernel_rfl) ?_
        refine st (stS none 3 0 g0 1 (.int .i64 (IntKind.i64.wrap (r_.f_at + n_))) [.slice A0_0 r_.f_b.length c0_0, .int .i64 r_.f_at, .int .i64 r_.f_e] 117 H rfl (by kernel_rfl) (by kernel_rfl) rfl (of_decide_eq_true rfl) ?_)
        intro w21 H
        refine seg 2 [.co [1, 1, 1, 1, 0], .co [1, 1, 1, 1, 1]] [(0, .pointer (some (⟨g0, 0, none⟩))), (1, .int .i64 n_)] (by kernel_rfl) ?_
        obtain ⟨y_, h_y_, hf⟩ := bindE hf
        have hst : statB (bodyOf Try.f84) [1, 1, 1, 1, 0] = true := by kernel_rfl
        refine drawS (fun w' => Has m w' ∧ w'.heap[g0]? = some (.cells [.slice A0_0 r_.f_b.length c0_0, .int .i64 (IntKind.i64.wrap (r_.f_at + n_)), .int .i64 r_.f_e].toArray 117 (0, 0))) H (by kernel_rfl) (by kernel_rfl) ?_
        intro w23 H
        refine segD2 hst [0, 1, 2, 4, 5, 6, 8, 10, 11, 12] [0, 1, 2, 4, 5, 6, 8, 10, 11, 12] [(45, .pointer (some (⟨g0, 0, none⟩))), (49, .pointer (some (⟨g0, 1, none⟩))), (51, .int .i64 n_), (55, .pointer (some (⟨g0, 1, none⟩)))] (by kernel_rfl) ?_
        refine takeD2 (i := 3) (d := (some 46)) (s := vS (Instr.loadAt 30 (.pointer (some (⟨g0, 0, none⟩))))) (v := (.slice A0_0 r_.f_b.length c0_0)) hst (by kernel_rfl) (by kernel_rfl) (fun w' hw' => ld_run _ _ _ (by kernel_rfl) (blk_cell hw'.2 rfl)) ?_
        refine takeD2 (i := 7) (d := (some 50)) (s := vS (Instr.loadAt 3 (.pointer (some (⟨g0, 1, none⟩))))) (v := (.int .i64 (IntKind.i64.wrap (r_.f_at + n_)))) hst (by kernel_rfl) (by kernel_rfl) (fun w' hw' => ld_run _ _ _ (by kernel_rfl) (blk_cell hw'.2 rfl)) ?_
        refine segD2 hst [9] [0, 1, 2, 4, 5, 6, 8, 10, 11, 12, 3, 7, 9] [(46, .slice A0_0 r_.f_b.length c0_0), (52, .int .i64 (IntKind.i64.wrap ((IntKind.i64.wrap (r_.f_at + n_)) - n_))), (55, .pointer (some (⟨g0, 1, none⟩)))] (by kernel_rfl) ?_
        refine stD2 (i := 13) (by kernel_rfl) ⟨H.has, H.blk 0 rfl⟩ (ldR (some 56) 3 (⟨g0, 1, none⟩) (.int .i64 (IntKind.i64.wrap (r_.f_at + n_))) (by kernel_rfl) (by kernel_rfl) (H.cellB 0 rfl rfl) ?_)
        refine stD2 (i := 14) (by kernel_rfl) ⟨H.has, H.blk 0 rfl⟩ (sliS (r := rU8) (some 57) 30 5 A0_0 c0_0 r_.f_b y_ (some (.int .i64 (IntKind.i64.wrap ((IntKind.i64.wrap (r_.f_at + n_)) - n_)))) (some (.int .i64 (IntKind.i64.wrap (r_.f_at + n_)))) (IntKind.i64.wrap ((IntKind.i64.wrap (r_.f_at + n_)) - n_)) (IntKind.i64.wrap (r_.f_at + n_)) s0_0 (by kernel_rfl) (by kernel_rfl) (.inr ⟨_, rfl⟩) (.inr ⟨_, rfl⟩) h_y_ ?_)
        intro A24 c24 hs24
        refine segD2 hst [15] [0, 1, 2, 4, 5, 6, 8, 10, 11, 12, 3, 7, 9, 13, 14, 15] [(4, .slice A24 y_.length c24)] (by kernel_rfl) ?_
        refine endD2 (by kernel_rfl) ⟨H.has, H.blk 0 rfl⟩ ?_
        refine retR [4] [.slice A24 y_.length c24] (by kernel_rfl) (by kernel_rfl) (by kernel_rfl) ?_
        obtain rfl : (y_, ({ f_b := r_.f_b, f_at := (IntKind.i64.wrap (r_.f_at + n_)), f_e := r_.f_e } : TFieldReader)) = r := (Option.some.inj hf)
        exact ⟨_, rfl, A24, c24, A0_0, c0_0, m, rfl, H, hs24, s0_0⟩
      · rw [hb20]
        refine seg 6 [.op [1, 1, 0, 0, 1, 1, 1, 0, 0] 3, .co [1, 1, 0, 0, 1, 1, 1, 0, 1], .bl 0, .co [1, 1, 1]] [(34, .pointer (some (⟨g0, 2, none⟩)))] (by kernel_rfl) ?_
        refine st (stS none 31 0 g0 2 (.int .i64 6) [.slice A0_0 r_.f_b.length c0_0, .int .i64 r_.f_at, .int .i64 r_.f_e] 117 H rfl (by kernel_rfl) (by kernel_rfl) rfl (of_decide_eq_true rfl) ?_)
        intro w25 H
        refine seg 5 [.co [1, 1, 0, 0, 1, 1, 1, 0, 1, 1], .bl 0, .co [1, 1, 1]] [(4, .slice none 0 0)] (by kernel_rfl) ?_
        refine retR [4] [.slice none 0 0] (by kernel_rfl) (by kernel_rfl) (by kernel_rfl) ?_
        obtain rfl : ([], ({ f_b := r_.f_b, f_at := r_.f_at, f_e := 6 } : TFieldReader)) = r := (Option.some.inj hf)
        exact ⟨_, rfl, none, 0, A0_0, c0_0, m, rfl, H, (SlI.nil _ _), s0_0⟩
theorem field_load_c {m : Mem} {w : World} (hm : Has m w) (b : (List UInt8)) (A0_0 : Option Addr) (c0_0 : Nat) (s0_0 : SlI rU8 m A0_0 c0_0 b) {r : UInt64} (hf : field_load b = some r) :
    Calls Try.prog 83 #[.slice A0_0 b.length c0_0] w fun e w' => ∃ v, e = .returned v ∧ v = .int .u64 (r.toNat : Int) ∧ Ex w w' := by
  unfold field_load at hf
  have H := St.start0 hm
  refine callsR Try.func83 (by kernel_rfl) (by kernel_rfl) ?_
  refine seg 15 [.co [1, 1, 0, 1], .co [1, 1, 1]] [(0, .slice A0_0 b.length c0_0), (3, .int .u64 0), (6, .int .i64 (b.length : Int)), (7, .int .i64 0)] (by kernel_rfl) ?_
  obtain ⟨y32, hp32, hf⟩ := bindE hf
  refine joinR 0 (fun (x : UInt64) => [(3, .int .u64 (x.toNat : Int))]) (fun (x : UInt64) (wj32 : World) => y32 = x ∧ St w noF m m [] wj32) (by kernel_rfl) ?_ ?_
  · refine seg 1 [.co [1, 1, 0, 1, 0], .bl 0, .le 0, .co [1, 1, 1]] [(0, .slice A0_0 b.length c0_0), (3, .int .u64 0), (6, .int .i64 (b.length : Int)), (7, .int .i64 0)] (by kernel_rfl) ?_
    obtain ⟨nn43, hR43⟩ := loopO_iff.1 hp32
    refine loopR 1 (fun (x : Nat × UInt64 × Nat) => [(0, .slice A0_0 b.length c0_0), (3, .int .u64 (x.2.1.toNat : Int)), (6, .int .i64 (b.length : Int)), (7, .int .i64 (x.2.2 : Int))]) (fun (x : Nat × UInt64 × Nat) (wl43 : World) => iter (fun s => field_load_l1 b s.1 s.2) x.1 (x.2.1, x.2.2) = some y32 ∧ St w noF m m [] wl43) (fun (x : Nat × UInt64 × Nat) => x.1) (nn43, (0 : UInt64), 0) (by kernel_rfl) (by kernel_rfl) (by kernel_rfl) ?_ ?_
    · exact ⟨hR43, H⟩
    rintro ⟨n43, n_, t⟩ wl43 ⟨hR43, H⟩
    try dsimp only at hR43
    try dsimp only at H
    obtain ⟨nk43, q43, rfl, hb_43, hnx43, hfin43⟩ := iterE hR43
    replace hb_43 : field_load_l1 b n_ t = some q43 := hb_43
    unfold field_load_l1 at hb_43
    refine seg 5 [.co [1, 1, 0, 1, 0, 0, 1, 0], .co [1, 1, 0, 1, 0, 0, 1, 1], .le 1, .bl 0, .le 0, .co [1, 1, 1]] [(0, .slice A0_0 b.length c0_0), (3, .int .u64 (n_.toNat : Int)), (6, .int .i64 (b.length : Int)), (7, .int .i64 (t : Int)), (8, .bool (decide ((t : Int) < (b.length : Int))))] (by kernel_rfl) ?_
    rcases condT hb_43 with ⟨hb45, hb_43⟩ | ⟨hb45, hb_43⟩
    · rw [hb45]
      have p45 := of_decide_eq_true hb45
      refine seg 13 [.op [1, 1, 0, 1, 0, 0, 1, 1, 0, 0, 1] 3, .bl 1, .co [1, 1, 0, 1, 0, 0, 1, 1, 1], .le 1, .bl 0, .le 0, .co [1, 1, 1]] [(0, .slice A0_0 b.length c0_0), (4, .int .i64 (t : Int)), (6, .int .i64 (b.length : Int)), (7, .int .i64 (t : Int)), (10, .int .u64 (n_.toNat : Int)), (11, .slice A0_0 b.length c0_0), (12, .int .i64 (t : Int))] (by kernel_rfl) ?_
      obtain ⟨x_, h_x_, hb_43⟩ := bindE hb_43
      obtain ⟨ad47, _, ea47, rfl, hc47⟩ := s0_0.at_ h_x_ (by decide)
      refine st (idxS (some 13) 30 5 1 A0_0 ad47 b.length c0_0 .i64 (t : Int) ea47 (by kernel_rfl) (by kernel_rfl) (by omega) (by have := (List.getElem?_eq_some_iff.1 h_x_).1; omega) ?_)
      refine st (ldR (some 14) 5 (ad47.add (t * 1)) (.int .u8 (x_.toNat : Int)) (by kernel_rfl) (by kernel_rfl) (H.cellI (mc0 (hc47 0 _ rfl))) ?_)
      refine seg 3 [.op [1, 1, 0, 1, 0, 0, 1, 1, 0, 0, 1] 8, .bl 1, .co [1, 1, 0, 1, 0, 0, 1, 1, 1], .le 1, .bl 0, .le 0, .co [1, 1, 1]] [(0, .slice A0_0 b.length c0_0), (6, .int .i64 (b.length : Int)), (7, .int .i64 (t : Int)), (10, .int .u64 (n_.toNat : Int)), (15, .int .u64 (IntKind.u64.wrap (x_.toNat : Int))), (17, .int .i64 (IntKind.i64.wrap (8 * (t : Int))))] (by kernel_rfl) ?_
      rw [q64_u8 x_]
      obtain ⟨hc48, hb_43⟩ := chkE hb_43
      refine st (runR (by kernel_rfl : fetch _ _ _ _ _ = some ((some 18), vS (Op.shift .shl .u64 (x_.toUInt64.toNat : Int) .i64 (IntKind.i64.wrap (8 * (t : Int)))))) (shl64_run _ _ (of_decide_eq_true hc48)) ?_)
      refine seg 8 [.le 1, .bl 0, .le 0, .co [1, 1, 1]] [(0, .slice A0_0 b.length c0_0), (3, .int .u64 (Go.bits .or .u64 (n_.toNat : Int) ((shl64 x_.toUInt64 (IntKind.i64.wrap (8 * (t : Int)))).toNat : Int))), (6, .int .i64 (b.length : Int)), (7, .int .i64 (IntKind.i64.wrap ((t : Int) + 1)))] (by kernel_rfl) ?_
      rw [q64_or n_ (shl64 x_.toUInt64 (IntKind.i64.wrap (8 * (t : Int)))) (n_.toNat : Int) ((shl64 x_.toUInt64 (IntKind.i64.wrap (8 * (t : Int)))).toNat : Int) (by rfl) (by rfl)]
      have := s0_0.bound
      rw [show IntKind.i64.wrap ((t : Int) + 1) = ((t : Int) + 1) from w64 (by omega)]
      refine leR (nk43, (n_ ||| (shl64 x_.toUInt64 (IntKind.i64.wrap (8 * (t : Int))))), (t + 1)) (Nat.lt_succ_self _) ⟨hnx43 _ (Option.some.inj hb_43).symm, H⟩ (by kernel_rfl)
    · rw [hb45]
      have p45 := of_decide_eq_false hb45
      refine seg 2 [.le 0, .co [1, 1, 1]] [(3, .int .u64 (n_.toNat : Int))] (by kernel_rfl) ?_
      refine leR_up (k' := []) (by rfl) ?_
      refine leJ (n_) ⟨(hfin43 _ (Option.some.inj hb_43).symm).symm, H⟩ (by kernel_rfl)
  rintro n_ wj32 ⟨hy32, H⟩
  rw [hy32] at hf
  refine seg 5 [.co [1, 1, 1, 1]] [(2, .int .u64 (n_.toNat : Int))] (by kernel_rfl) ?_
  refine retR [2] [.int .u64 (n_.toNat : Int)] (by kernel_rfl) (by kernel_rfl) (by kernel_rfl) ?_
  have hret := (Option.some.inj hf)
  subst hret
  exact ⟨_, rfl, rfl, H.scalar⟩
theorem field_Reader_Num_c {m : Mem} {w : World} (hm : Has m w) (g0 : Nat) (r_ : TFieldReader) (A0_0 : Option Addr) (c0_0 : Nat) (s0_0 : SlI rU8 m A0_0 c0_0 r_.f_b) (width : Int) {F : Nat → Prop} (hsep : Sep m w [blkI g0 [.slice A0_0 r_.f_b.length c0_0, .int .i64 r_.f_at, .int .i64 r_.f_e] 117] F) (hF : ∀ k, F k → m k = none) {r : (UInt64 × TFieldReader)} (hf : field_Reader_Num r_ width = some r) :
    Calls Try.prog 49 #[.pointer (some (⟨g0, 0, none⟩)), .int .i64 width] w fun e w' => ∃ v, e = .returned v ∧ ∃ Az_o0_0 : Option Addr, ∃ cz_o0_0 : Nat, ∃ m' : Mem, v = .int .u64 (r.1.toNat : Int) ∧ St w F m m' [blkI g0 [.slice Az_o0_0 r.2.f_b.length cz_o0_0, .int .i64 r.2.f_at, .int .i64 r.2.f_e] 117] w' ∧ SlI rU8 m' Az_o0_0 cz_o0_0 r.2.f_b := by
  unfold field_Reader_Num at hf
  have H := St.start hm hsep hF
  refine callsR Try.func49 (by kernel_rfl) (by kernel_rfl) ?_
  refine seg 8 [.op [1, 0, 0] 1, .co [1, 0, 1], .co [1, 1]] [(0, .pointer (some (⟨g0, 0, none⟩))), (1, .int .i64 width), (5, .int .i64 width)] (by kernel_rfl) ?_
  refine st (callR (some 6) 77 #[.int .i64 width] Try.call77 (field_wide_c H.has width) (by kernel_rfl) ?_)
  rintro _ w1 ⟨rfl, hx1⟩
  replace H := H.ex hx1
  refine seg 2 [.co [1, 0, 1], .co [1, 1]] [(0, .pointer (some (⟨g0, 0, none⟩))), (1, .int .i64 width), (7, .bool (!(field_wide width)))] (by kernel_rfl) ?_
  rcases condT hf with ⟨hb5, hf⟩ | ⟨hb5, hf⟩
  · rw [hb5]
    refine seg 6 [.op [1, 1, 0] 2, .co [1, 1, 1]] [(8, .pointer (some (⟨g0, 0, none⟩))), (9, .int .i64 width)] (by kernel_rfl) ?_
    obtain ⟨take, h_take, hf⟩ := bindE hf
    obtain ⟨F6, hse6, hFn6, hcl6⟩ := St.call [blkI g0 [.slice A0_0 r_.f_b.length c0_0, .int .i64 r_.f_at, .int .i64 r_.f_e] 117] H
    refine st (callR (some 10) 84 #[.pointer (some (⟨g0, 0, none⟩)), .int .i64 width] Try.call84 (field_Reader_take_c H.has g0 r_ A0_0 c0_0 s0_0 width hse6 hFn6 h_take) (by kernel_rfl) ?_)
    rintro _ w6 ⟨A6_0, c6_0, A6_o0_0, c6_o0_0, mk6, rfl, hS6, hs6_0, hs6_1⟩
    have hsub6 := hS6.sub
    replace H := hcl6 _ _ _ hS6
    replace H : St w F m mk6 [blkI g0 [.slice A6_o0_0 take.2.f_b.length c6_o0_0, .int .i64 take.2.f_at, .int .i64 take.2.f_e] 117] w6 := H
    obtain ⟨load, h_load, hf⟩ := bindE hf
    refine st (callR (some 11) 83 #[.slice A6_0 take.1.length c6_0] Try.call83 (field_load_c H.has take.1 A6_0 c6_0 hs6_0 h_load) (by kernel_rfl) ?_)
    rintro _ w7 ⟨rfl, hx7⟩
    replace H := H.ex hx7
    refine seg 2 [.co [1, 1, 1]] [(4, .int .u64 (load.toNat : Int))] (by kernel_rfl) ?_
    refine retR [4] [.int .u64 (load.toNat : Int)] (by kernel_rfl) (by kernel_rfl) (by kernel_rfl) ?_
    obtain rfl : (load, take.2) = r := (Option.some.inj hf)
    exact ⟨_, rfl, A6_o0_0, c6_o0_0, mk6, rfl, H, hs6_1⟩
  · rw [hb5]
    refine seg 8 [.op [1, 1, 0] 2, .co [1, 1, 1]] [(8, .pointer (some (⟨g0, 0, none⟩))), (9, .int .i64 (-1))] (by kernel_rfl) ?_
    obtain ⟨take1, h_take1, hf⟩ := bindE hf
    obtain ⟨F8, hse8, hFn8, hcl8⟩ := St.call [blkI g0 [.slice A0_0 r_.f_b.length c0_0, .int .i64 r_.f_at, .int .i64 r_.f_e] 117] H
    refine st (callR (some 10) 84 #[.pointer (some (⟨g0, 0, none⟩)), .int .i64 (-1)] Try.call84 (field_Reader_take_c H.has g0 r_ A0_0 c0_0 s0_0 (-1) hse8 hFn8 h_take1) (by kernel_rfl) ?_)
    rintro _ w8 ⟨A8_0, c8_0, A8_o0_0, c8_o0_0, mk8, rfl, hS8, hs8_0, hs8_1⟩
    have hsub8 := hS8.sub
    replace H := hcl8 _ _ _ hS8
    obtain ⟨load1, h_load1, hf⟩ := bindE hf
    refine st (callR (some 11) 83 #[.slice A8_0 take1.1.length c8_0] Try.call83 (field_load_c H.has take1.1 A8_0 c8_0 hs8_0 h_load1) (by kernel_rfl) ?_)
    rintro _ w9 ⟨rfl, hx9⟩
    replace H := H.ex hx9
    refine seg 2 [.co [1, 1, 1]] [(4, .int .u64 (load1.toNat : Int))] (by kernel_rfl) ?_
    refine retR [4] [.int .u64 (load1.toNat : Int)] (by kernel_rfl) (by kernel_rfl) (by kernel_rfl) ?_
    obtain rfl : (load1, take1.2) = r := (Option.some.inj hf)
    exact ⟨_, rfl, A8_o0_0, c8_o0_0, mk8, rfl, H, hs8_1⟩
theorem inode_signed_c {m : Mem} {w : World} (hm : Has m w) (n_ : UInt64) :
    Calls Try.prog 67 #[.int .u64 (n_.toNat : Int)] w fun e w' => ∃ v, e = .returned v ∧ v = .int .i64 (inode_signed n_) ∧ Ex w w' := by
  generalize hf : inode_signed n_ = r
  unfold inode_signed at hf
  have H := St.start0 hm
  refine callsR Try.func67 (by kernel_rfl) (by kernel_rfl) ?_
  refine seg 12 [.co [1, 1]] [(2, .int .i64 (IntKind.i64.wrap (IntKind.i32.wrap (IntKind.u32.wrap (n_.toNat : Int)))))] (by kernel_rfl) ?_
  rw [q32_wrap (n_.toNat : Int)]
  refine retR [2] [.int .i64 (IntKind.i64.wrap (IntKind.i32.wrap ((UInt32.ofInt (n_.toNat : Int)).toNat : Int)))] (by kernel_rfl) (by kernel_rfl) (by kernel_rfl) ?_
  obtain rfl : (IntKind.i64.wrap (IntKind.i32.wrap ((UInt32.ofInt (n_.toNat : Int)).toNat : Int))) = r := hf
  exact ⟨_, rfl, rfl, H.scalar⟩
theorem field_Reader_Left_c {m : Mem} {w : World} (hm : Has m w) (g0 : Nat) (r_ : TFieldReader) (A0_0 : Option Addr) (c0_0 : Nat) (s0_0 : SlI rU8 m A0_0 c0_0 r_.f_b) {F : Nat → Prop} (hsep : Sep m w [blkI g0 [.slice A0_0 r_.f_b.length c0_0, .int .i64 r_.f_at, .int .i64 r_.f_e] 117] F) (hF : ∀ k, F k → m k = none) {r : Int} (hf : field_Reader_Left r_ = some r) :
    Calls Try.prog 48 #[.pointer (some (⟨g0, 0, none⟩))] w fun e w' => ∃ v, e = .returned v ∧ ∃ m' : Mem, v = .int .i64 r ∧ St w F m m' [blkI g0 [.slice A0_0 r_.f_b.length c0_0, .int .i64 r_.f_at, .int .i64 r_.f_e] 117] w' := by
  unfold field_Reader_Left at hf
  have H := St.start hm hsep hF
  refine callsR Try.func48 (by kernel_rfl) (by kernel_rfl) ?_
  refine seg 13 [.co [1, 1, 0], .co [1, 1, 1]] [(0, .pointer (some (⟨g0, 0, none⟩)))] (by kernel_rfl) ?_
  have hst : statB (bodyOf Try.f48) [1, 1, 0] = true := by kernel_rfl
  refine drawS (fun w' => Has m w' ∧ w'.heap[g0]? = some (.cells [.slice A0_0 r_.f_b.length c0_0, .int .i64 r_.f_at, .int .i64 r_.f_e].toArray 117 (0, 0))) H (by kernel_rfl) (by kernel_rfl) ?_
  intro w1 H
  refine segD2 hst [0, 1, 2, 5, 6, 7] [0, 1, 2, 5, 6, 7] [(7, .pointer (some (⟨g0, 0, none⟩))), (12, .pointer (some (⟨g0, 1, none⟩)))] (by kernel_rfl) ?_
  refine takeD2 (i := 3) (d := (some 8)) (s := vS (Instr.loadAt 30 (.pointer (some (⟨g0, 0, none⟩))))) (v := (.slice A0_0 r_.f_b.length c0_0)) hst (by kernel_rfl) (by kernel_rfl) (fun w' hw' => ld_run _ _ _ (by kernel_rfl) (blk_cell hw'.2 rfl)) ?_
  refine segD2 hst [4] [0, 1, 2, 5, 6, 7, 3, 4] [(9, .int .i64 (r_.f_b.length : Int)), (12, .pointer (some (⟨g0, 1, none⟩)))] (by kernel_rfl) ?_
  refine stD2 (i := 8) (by kernel_rfl) ⟨H.has, H.blk 0 rfl⟩ (ldR (some 13) 3 (⟨g0, 1, none⟩) (.int .i64 r_.f_at) (by kernel_rfl) (by kernel_rfl) (H.cellB 0 rfl rfl) ?_)
  refine segD2 hst [9] [0, 1, 2, 5, 6, 7, 3, 4, 8, 9] [(14, .int .i64 (IntKind.i64.wrap ((r_.f_b.length : Int) - r_.f_at)))] (by kernel_rfl) ?_
  refine segD2 hst [10] [0, 1, 2, 5, 6, 7, 3, 4, 8, 9, 10] [(2, .int .i64 (IntKind.i64.wrap ((r_.f_b.length : Int) - r_.f_at)))] (by kernel_rfl) ?_
  refine endD2 (by kernel_rfl) ⟨H.has, H.blk 0 rfl⟩ ?_
  refine retR [2] [.int .i64 (IntKind.i64.wrap ((r_.f_b.length : Int) - r_.f_at))] (by kernel_rfl) (by kernel_rfl) (by kernel_rfl) ?_
  obtain rfl : (IntKind.i64.wrap ((r_.f_b.length : Int) - r_.f_at)) = r := (Option.some.inj hf)
  exact ⟨_, rfl, m, rfl, H⟩
theorem field_Reader_Bytes_c {m : Mem} {w : World} (hm : Has m w) (g0 : Nat) (r_ : TFieldReader) (A0_0 : Option Addr) (c0_0 : Nat) (s0_0 : SlI rU8 m A0_0 c0_0 r_.f_b) (n_ : Int) {F : Nat → Prop} (hsep : Sep m w [blkI g0 [.slice A0_0 r_.f_b.length c0_0, .int .i64 r_.f_at, .int .i64 r_.f_e] 117] F) (hF : ∀ k, F k → m k = none) {r : ((List UInt8) × TFieldReader)} (hf : field_Reader_Bytes r_ n_ = some r) :
    Calls Try.prog 50 #[.pointer (some (⟨g0, 0, none⟩)), .int .i64 n_] w fun e w' => ∃ v, e = .returned v ∧ ∃ Az_0 : Option Addr, ∃ cz_0 : Nat, ∃ Az_o0_0 : Option Addr, ∃ cz_o0_0 : Nat, ∃ m' : Mem, v = .slice Az_0 r.1.length cz_0 ∧ St w F m m' [rowI rU8 5 Az_0 cz_0 r.1, blkI g0 [.slice Az_o0_0 r.2.f_b.length cz_o0_0, .int .i64 r.2.f_at, .int .i64 r.2.f_e] 117] w' ∧ SlI rU8 m' Az_o0_0 cz_o0_0 r.2.f_b := by
  unfold field_Reader_Bytes at hf
  have H := St.start hm hsep hF
  refine callsR Try.func50 (by kernel_rfl) (by kernel_rfl) ?_
  refine seg 8 [.op [1, 0] 2, .co [1, 1]] [(5, .pointer (some (⟨g0, 0, none⟩))), (6, .int .i64 n_)] (by kernel_rfl) ?_
  obtain ⟨take, h_take, hf⟩ := bindE hf
  obtain ⟨F1, hse1, hFn1, hcl1⟩ := St.call [blkI g0 [.slice A0_0 r_.f_b.length c0_0, .int .i64 r_.f_at, .int .i64 r_.f_e] 117] H
  refine st (callR (some 7) 84 #[.pointer (some (⟨g0, 0, none⟩)), .int .i64 n_] Try.call84 (field_Reader_take_c H.has g0 r_ A0_0 c0_0 s0_0 n_ hse1 hFn1 h_take) (by kernel_rfl) ?_)
  rintro _ w1 ⟨A1_0, c1_0, A1_o0_0, c1_o0_0, mk1, rfl, hS1, hs1_0, hs1_1⟩
  have hsub1 := hS1.sub
  replace H := hcl1 _ _ _ hS1
  obtain ⟨copied, h_copied, hf⟩ := bindE hf
  refine st (callR (some 8) 80 #[.slice A1_0 take.1.length c1_0] Try.call80 (field_copied_c H.has take.1 A1_0 c1_0 hs1_0 h_copied) (by kernel_rfl) ?_)
  rintro _ w2 ⟨A2_0, c2_0, mk2, rfl, hS2⟩
  have hsub2 := hS2.sub
  replace H := H.call0 hS2
  refine seg 2 [.co [1, 1]] [(4, .slice A2_0 copied.length c2_0)] (by kernel_rfl) ?_
  refine retR [4] [.slice A2_0 copied.length c2_0] (by kernel_rfl) (by kernel_rfl) (by kernel_rfl) ?_
  obtain rfl : (copied, take.2) = r := (Option.some.inj hf)
  exact ⟨_, rfl, A2_0, c2_0, A1_o0_0, c1_o0_0, mk2, rfl, H, (hs1_1.mono hsub2)⟩
theorem field_Reader_Text_c {m : Mem} {w : World} (hm : Has m w) (g0 : Nat) (r_ : TFieldReader) (A0_0 : Option Addr) (c0_0 : Nat) (s0_0 : SlI rU8 m A0_0 c0_0 r_.f_b) (most : Int) {F : Nat → Prop} (hsep : Sep m w [blkI g0 [.slice A0_0 r_.f_b.length c0_0, .int .i64 r_.f_at, .int .i64 r_.f_e] 117] F) (hF : ∀ k, F k → m k = none) {r : ((List UInt8) × TFieldReader)} (hf : field_Reader_Text r_ most = some r) :
    Calls Try.prog 88 #[.pointer (some (⟨g0, 0, none⟩)), .int .i64 most] w fun e w' => ∃ v, e = .returned v ∧ ∃ Az_0 : Option Addr, ∃ cz_0 : Nat, ∃ Az_o0_0 : Option Addr, ∃ cz_o0_0 : Nat, ∃ m' : Mem, v = .slice Az_0 r.1.length cz_0 ∧ St w F m m' [rowI rU8 5 Az_0 cz_0 r.1, blkI g0 [.slice Az_o0_0 r.2.f_b.length cz_o0_0, .int .i64 r.2.f_at, .int .i64 r.2.f_e] 117] w' ∧ SlI rU8 m' Az_o0_0 cz_o0_0 r.2.f_b := by
  unfold field_Reader_Text at hf
  have H := St.start hm hsep hF
  refine callsR Try.func88 (by kernel_rfl) (by kernel_rfl) ?_
  refine seg 13 [.op [1, 0, 0] 6, .co [1, 0, 1], .co [1, 1]] [(0, .pointer (some (⟨g0, 0, none⟩))), (1, .int .i64 most), (10, .bool false), (13, .pointer (some (⟨g0, 2, none⟩)))] (by kernel_rfl) ?_
  refine st (ldR (some 14) 31 (⟨g0, 2, none⟩) (.int .i64 r_.f_e) (by kernel_rfl) (by kernel_rfl) (H.cellB 0 rfl rfl) ?_)
  refine seg 3 [.co [1, 0, 1], .co [1, 1]] [(0, .pointer (some (⟨g0, 0, none⟩))), (1, .int .i64 most), (16, .bool (r_.f_e != 0))] (by kernel_rfl) ?_
  rcases condT hf with ⟨hb2, hf⟩ | ⟨hb2, hf⟩
  · rw [hb2]
    refine seg 5 [.co [1, 0, 1, 0, 1], .co [1, 1]] [(4, .slice none 0 0)] (by kernel_rfl) ?_
    have H := H.nilR rU8 5
    refine retR [4] [.slice none 0 0] (by kernel_rfl) (by kernel_rfl) (by kernel_rfl) ?_
    obtain rfl : ([], r_) = r := (Option.some.inj hf)
    exact ⟨_, rfl, none, 0, A0_0, c0_0, m, rfl, H, s0_0⟩
  · rw [hb2]
    refine seg 8 [.co [1, 1, 0, 1], .co [1, 1, 1]] [(0, .pointer (some (⟨g0, 0, none⟩))), (1, .int .i64 most), (18, .bool (decide (most < 0)))] (by kernel_rfl) ?_
    rcases condT hf with ⟨hb5, hf⟩ | ⟨hb5, hf⟩
    · rw [hb5]
      have p5 := of_decide_eq_true hb5
      refine seg 6 [.op [1, 1, 0, 1, 0, 0] 3, .co [1, 1, 0, 1, 0, 1], .co [1, 1, 1]] [(21, .pointer (some (⟨g0, 2, none⟩)))] (by kernel_rfl) ?_
      refine st (stS none 31 0 g0 2 (.int .i64 1) [.slice A0_0 r_.f_b.length c0_0, .int .i64 r_.f_at, .int .i64 r_.f_e] 117 H rfl (by kernel_rfl) (by kernel_rfl) rfl (of_decide_eq_true rfl) ?_)
      intro w6 H
      refine seg 5 [.co [1, 1, 0, 1, 0, 1, 1], .co [1, 1, 1]] [(4, .slice none 0 0)] (by kernel_rfl) ?_
      have H := H.nilR rU8 5
      refine retR [4] [.slice none 0 0] (by kernel_rfl) (by kernel_rfl) (by kernel_rfl) ?_
      obtain rfl : ([], ({ f_b := r_.f_b, f_at := r_.f_at, f_e := 1 } : TFieldReader)) = r := (Option.some.inj hf)
      exact ⟨_, rfl, none, 0, A0_0, c0_0, m, rfl, H, s0_0⟩
    · rw [hb5]
      have p5 := of_decide_eq_false hb5
      refine seg 7 [.op [1, 1, 1, 0] 3, .co [1, 1, 1, 1]] [(0, .pointer (some (⟨g0, 0, none⟩))), (1, .int .i64 most), (24, .pointer (some (⟨g0, 1, none⟩)))] (by kernel_rfl) ?_
      refine st (ldR (some 25) 3 (⟨g0, 1, none⟩) (.int .i64 r_.f_at) (by kernel_rfl) (by kernel_rfl) (H.cellB 0 rfl rfl) ?_)
      refine seg 5 [.op [1, 1, 1, 1, 0] 1, .co [1, 1, 1, 1, 1]] [(0, .pointer (some (⟨g0, 0, none⟩))), (1, .int .i64 most), (5, .int .i64 r_.f_at), (26, .pointer (some (⟨g0, 0, none⟩)))] (by kernel_rfl) ?_
      obtain ⟨take, h_take, hf⟩ := bindE hf
      obtain ⟨F7, hse7, hFn7, hcl7⟩ := St.call [blkI g0 [.slice A0_0 r_.f_b.length c0_0, .int .i64 r_.f_at, .int .i64 r_.f_e] 117] H
      refine st (callR (some 27) 84 #[.pointer (some (⟨g0, 0, none⟩)), .int .i64 2] Try.call84 (field_Reader_take_c H.has g0 r_ A0_0 c0_0 s0_0 2 hse7 hFn7 h_take) (by kernel_rfl) ?_)
      rintro _ w7 ⟨A7_0, c7_0, A7_o0_0, c7_o0_0, mk7, rfl, hS7, hs7_0, hs7_1⟩
      have hsub7 := hS7.sub
      replace H := hcl7 _ _ _ hS7
      obtain ⟨load, h_load, hf⟩ := bindE hf
      refine st (callR (some 28) 83 #[.slice A7_0 take.1.length c7_0] Try.call83 (field_load_c H.has take.1 A7_0 c7_0 hs7_0 h_load) (by kernel_rfl) ?_)
      rintro _ w8 ⟨rfl, hx8⟩
      replace H := H.ex hx8
      refine seg 5 [.co [1, 1, 1, 1, 1, 0, 0], .co [1, 1, 1, 1, 1, 0, 1], .co [1, 1, 1, 1, 1, 1]] [(0, .pointer (some (⟨g0, 0, none⟩))), (1, .int .i64 most), (5, .int .i64 r_.f_at), (6, .int .i64 (IntKind.i64.wrap (load.toNat : Int)))] (by kernel_rfl) ?_
      obtain ⟨y29, hp29, hf⟩ := ltE hf
      refine joinR 0 (fun (x : Bool) => [(0, .pointer (some (⟨g0, 0, none⟩))), (5, .int .i64 r_.f_at), (6, .int .i64 (IntKind.i64.wrap (load.toNat : Int))), (39, .bool x)]) (fun (x : Bool) (wj29 : World) => y29 = x ∧ St w F m mk7 [blkI g0 [.slice A7_o0_0 take.2.f_b.length c7_o0_0, .int .i64 take.2.f_at, .int .i64 take.2.f_e] 117] wj29) (by kernel_rfl) ?_ ?_
      · refine seg 4 [.op [1, 1, 1, 1, 1, 0, 0] 3, .le 0, .co [1, 1, 1, 1, 1, 0, 1], .co [1, 1, 1, 1, 1, 1]] [(0, .pointer (some (⟨g0, 0, none⟩))), (1, .int .i64 most), (5, .int .i64 r_.f_at), (6, .int .i64 (IntKind.i64.wrap (load.toNat : Int))), (32, .pointer (some (⟨g0, 2, none⟩)))] (by kernel_rfl) ?_
        refine st (ldR (some 33) 31 (⟨g0, 2, none⟩) (.int .i64 take.2.f_e) (by kernel_rfl) (by kernel_rfl) (H.cellB 0 rfl rfl) ?_)
        refine seg 2 [.op [1, 1, 1, 1, 1, 0, 0] 6, .le 0, .co [1, 1, 1, 1, 1, 0, 1], .co [1, 1, 1, 1, 1, 1]] [(0, .pointer (some (⟨g0, 0, none⟩))), (1, .int .i64 most), (5, .int .i64 r_.f_at), (6, .int .i64 (IntKind.i64.wrap (load.toNat : Int))), (35, .bool (take.2.f_e == 0))] (by kernel_rfl) ?_
        rcases condT hp29 with ⟨hb31, hp29⟩ | ⟨hb31, hp29⟩
        · rw [hb31]
          refine seg 5 [.le 0, .co [1, 1, 1, 1, 1, 0, 1], .co [1, 1, 1, 1, 1, 1]] [(0, .pointer (some (⟨g0, 0, none⟩))), (5, .int .i64 r_.f_at), (6, .int .i64 (IntKind.i64.wrap (load.toNat : Int))), (39, .bool (decide ((IntKind.i64.wrap (load.toNat : Int)) > most)))] (by kernel_rfl) ?_
          refine leJ ((decide ((IntKind.i64.wrap (load.toNat : Int)) > most))) ⟨hp29.symm, H⟩ (by kernel_rfl)
        · rw [hb31]
          refine seg 5 [.le 0, .co [1, 1, 1, 1, 1, 0, 1], .co [1, 1, 1, 1, 1, 1]] [(0, .pointer (some (⟨g0, 0, none⟩))), (5, .int .i64 r_.f_at), (6, .int .i64 (IntKind.i64.wrap (load.toNat : Int))), (39, .bool false)] (by kernel_rfl) ?_
          refine leJ (false) ⟨hp29.symm, H⟩ (by kernel_rfl)
      rintro t wj29 ⟨hy29, H⟩
      rw [hy29] at hf
      rcases condT hf with ⟨hb32, hf⟩ | ⟨hb32, hf⟩
      · rw [hb32]
        refine seg 5 [.op [1, 1, 1, 1, 1, 0, 1, 0] 3, .co [1, 1, 1, 1, 1, 1]] [(0, .pointer (some (⟨g0, 0, none⟩))), (5, .int .i64 r_.f_at), (6, .int .i64 (IntKind.i64.wrap (load.toNat : Int))), (42, .pointer (some (⟨g0, 2, none⟩)))] (by kernel_rfl) ?_
        refine st (stS none 31 0 g0 2 (.int .i64 2) [.slice A7_o0_0 take.2.f_b.length c7_o0_0, .int .i64 take.2.f_at, .int .i64 take.2.f_e] 117 H rfl (by kernel_rfl) (by kernel_rfl) rfl (of_decide_eq_true rfl) ?_)
        intro w33 H
        refine seg 5 [.op [1, 1, 1, 1, 1, 1, 0] 2, .co [1, 1, 1, 1, 1, 1, 1]] [(0, .pointer (some (⟨g0, 0, none⟩))), (5, .int .i64 r_.f_at), (43, .pointer (some (⟨g0, 0, none⟩))), (44, .int .i64 (IntKind.i64.wrap (load.toNat : Int)))] (by kernel_rfl) ?_
        obtain ⟨take1, h_take1, hf⟩ := bindE hf
        obtain ⟨F34, hse34, hFn34, hcl34⟩ := St.call [blkI g0 [.slice A7_o0_0 take.2.f_b.length c7_o0_0, .int .i64 take.2.f_at, .int .i64 2] 117] H
        refine st (callR (some 45) 84 #[.pointer (some (⟨g0, 0, none⟩)), .int .i64 (IntKind.i64.wrap (load.toNat : Int))] Try.call84 (field_Reader_take_c H.has g0 ({ f_b := take.2.f_b, f_at := take.2.f_at, f_e := 2 } : TFieldReader) A7_o0_0 c7_o0_0 hs7_1 (IntKind.i64.wrap (load.toNat : Int)) hse34 hFn34 h_take1) (by kernel_rfl) ?_)
        rintro _ w34 ⟨A34_0, c34_0, A34_o0_0, c34_o0_0, mk34, rfl, hS34, hs34_0, hs34_1⟩
        have hsub34 := hS34.sub
        replace H := hcl34 _ _ _ hS34
        refine seg 8 [.op [1, 1, 1, 1, 1, 1, 1, 0, 0] 3, .co [1, 1, 1, 1, 1, 1, 1, 0, 1], .co [1, 1, 1, 1, 1, 1, 1, 1]] [(0, .pointer (some (⟨g0, 0, none⟩))), (5, .int .i64 r_.f_at), (7, .slice A34_0 take1.1.length c34_0), (48, .pointer (some (⟨g0, 2, none⟩)))] (by kernel_rfl) ?_
        refine st (ldR (some 49) 31 (⟨g0, 2, none⟩) (.int .i64 take1.2.f_e) (by kernel_rfl) (by kernel_rfl) (H.cellB 0 rfl rfl) ?_)
        refine seg 2 [.co [1, 1, 1, 1, 1, 1, 1, 0, 1], .co [1, 1, 1, 1, 1, 1, 1, 1]] [(0, .pointer (some (⟨g0, 0, none⟩))), (5, .int .i64 r_.f_at), (7, .slice A34_0 take1.1.length c34_0), (50, .bool (take1.2.f_e != 0))] (by kernel_rfl) ?_
        rcases condT hf with ⟨hb35, hf⟩ | ⟨hb35, hf⟩
        · rw [hb35]
          refine seg 7 [.op [1, 1, 1, 1, 1, 1, 1, 0, 1, 0, 0] 4, .co [1, 1, 1, 1, 1, 1, 1, 0, 1, 0, 1], .co [1, 1, 1, 1, 1, 1, 1, 1]] [(52, .int .i64 r_.f_at), (54, .pointer (some (⟨g0, 1, none⟩)))] (by kernel_rfl) ?_
          refine st (stS none 3 0 g0 1 (.int .i64 r_.f_at) [.slice A34_o0_0 take1.2.f_b.length c34_o0_0, .int .i64 take1.2.f_at, .int .i64 take1.2.f_e] 117 H rfl (by kernel_rfl) (by kernel_rfl) rfl (of_decide_eq_true rfl) ?_)
          intro w36 H
          refine seg 5 [.co [1, 1, 1, 1, 1, 1, 1, 0, 1, 0, 1, 1], .co [1, 1, 1, 1, 1, 1, 1, 1]] [(4, .slice none 0 0)] (by kernel_rfl) ?_
          have H := H.nilR rU8 5
          refine retR [4] [.slice none 0 0] (by kernel_rfl) (by kernel_rfl) (by kernel_rfl) ?_
          obtain rfl : ([], ({ f_b := take1.2.f_b, f_at := r_.f_at, f_e := take1.2.f_e } : TFieldReader)) = r := (Option.some.inj hf)
          exact ⟨_, rfl, none, 0, A34_o0_0, c34_o0_0, mk34, rfl, H, hs34_1⟩
        · rw [hb35]
          refine seg 5 [.op [1, 1, 1, 1, 1, 1, 1, 1, 0] 1, .co [1, 1, 1, 1, 1, 1, 1, 1, 1]] [(55, .slice A34_0 take1.1.length c34_0)] (by kernel_rfl) ?_
          obtain ⟨copied, h_copied, hf⟩ := bindE hf
          refine st (callR (some 56) 80 #[.slice A34_0 take1.1.length c34_0] Try.call80 (field_copied_c H.has take1.1 A34_0 c34_0 hs34_0 h_copied) (by kernel_rfl) ?_)
          rintro _ w37 ⟨A37_0, c37_0, mk37, rfl, hS37⟩
          have hsub37 := hS37.sub
          replace H := H.call0 hS37
          refine seg 2 [.co [1, 1, 1, 1, 1, 1, 1, 1, 1]] [(4, .slice A37_0 copied.length c37_0)] (by kernel_rfl) ?_
          refine retR [4] [.slice A37_0 copied.length c37_0] (by kernel_rfl) (by kernel_rfl) (by kernel_rfl) ?_
          obtain rfl : (copied, take1.2) = r := (Option.some.inj hf)
          exact ⟨_, rfl, A37_0, c37_0, A34_o0_0, c34_o0_0, mk37, rfl, H, (hs34_1.mono hsub37)⟩
      · rw [hb32]
        refine seg 6 [.op [1, 1, 1, 1, 1, 1, 0] 2, .co [1, 1, 1, 1, 1, 1, 1]] [(0, .pointer (some (⟨g0, 0, none⟩))), (5, .int .i64 r_.f_at), (43, .pointer (some (⟨g0, 0, none⟩))), (44, .int .i64 (IntKind.i64.wrap (load.toNat : Int)))] (by kernel_rfl) ?_
        replace H : St w F m mk7 [blkI g0 [.slice A7_o0_0 take.2.f_b.length c7_o0_0, .int .i64 take.2.f_at, .int .i64 take.2.f_e] 117] wj29 := H
        obtain ⟨take2, h_take2, hf⟩ := bindE hf
        obtain ⟨F38, hse38, hFn38, hcl38⟩ := St.call [blkI g0 [.slice A7_o0_0 take.2.f_b.length c7_o0_0, .int .i64 take.2.f_at, .int .i64 take.2.f_e] 117] H
        refine st (callR (some 45) 84 #[.pointer (some (⟨g0, 0, none⟩)), .int .i64 (IntKind.i64.wrap (load.toNat : Int))] Try.call84 (field_Reader_take_c H.has g0 take.2 A7_o0_0 c7_o0_0 hs7_1 (IntKind.i64.wrap (load.toNat : Int)) hse38 hFn38 h_take2) (by kernel_rfl) ?_)
        rintro _ w38 ⟨A38_0, c38_0, A38_o0_0, c38_o0_0, mk38, rfl, hS38, hs38_0, hs38_1⟩
        have hsub38 := hS38.sub
        replace H := hcl38 _ _ _ hS38
        refine seg 8 [.op [1, 1, 1, 1, 1, 1, 1, 0, 0] 3, .co [1, 1, 1, 1, 1, 1, 1, 0, 1], .co [1, 1, 1, 1, 1, 1, 1, 1]] [(0, .pointer (some (⟨g0, 0, none⟩))), (5, .int .i64 r_.f_at), (7, .slice A38_0 take2.1.length c38_0), (48, .pointer (some (⟨g0, 2, none⟩)))] (by kernel_rfl) ?_
        refine st (ldR (some 49) 31 (⟨g0, 2, none⟩) (.int .i64 take2.2.f_e) (by kernel_rfl) (by kernel_rfl) (H.cellB 0 rfl rfl) ?_)
        refine seg 2 [.co [1, 1, 1, 1, 1, 1, 1, 0, 1], .co [1, 1, 1, 1, 1, 1, 1, 1]] [(0, .pointer (some (⟨g0, 0, none⟩))), (5, .int .i64 r_.f_at), (7, .slice A38_0 take2.1.length c38_0), (50, .bool (take2.2.f_e != 0))] (by kernel_rfl) ?_
        rcases condT hf with ⟨hb39, hf⟩ | ⟨hb39, hf⟩
        · rw [hb39]
          refine seg 7 [.op [1, 1, 1, 1, 1, 1, 1, 0, 1, 0, 0] 4, .co [1, 1, 1, 1, 1, 1, 1, 0, 1, 0, 1], .co [1, 1, 1, 1, 1, 1, 1, 1]] [(52, .int .i64 r_.f_at), (54, .pointer (some (⟨g0, 1, none⟩)))] (by kernel_rfl) ?_
          refine st (stS none 3 0 g0 1 (.int .i64 r_.f_at) [.slice A38_o0_0 take2.2.f_b.length c38_o0_0, .int .i64 take2.2.f_at, .int .i64 take2.2.f_e] 117 H rfl (by kernel_rfl) (by kernel_rfl) rfl (of_decide_eq_true rfl) ?_)
          intro w40 H
          refine seg 5 [.co [1, 1, 1, 1, 1, 1, 1, 0, 1, 0, 1, 1], .co [1, 1, 1, 1, 1, 1, 1, 1]] [(4, .slice none 0 0)] (by kernel_rfl) ?_
          have H := H.nilR rU8 5
          refine retR [4] [.slice none 0 0] (by kernel_rfl) (by kernel_rfl) (by kernel_rfl) ?_
          obtain rfl : ([], ({ f_b := take2.2.f_b, f_at := r_.f_at, f_e := take2.2.f_e } : TFieldReader)) = r := (Option.some.inj hf)
          exact ⟨_, rfl, none, 0, A38_o0_0, c38_o0_0, mk38, rfl, H, hs38_1⟩
        · rw [hb39]
          refine seg 5 [.op [1, 1, 1, 1, 1, 1, 1, 1, 0] 1, .co [1, 1, 1, 1, 1, 1, 1, 1, 1]] [(55, .slice A38_0 take2.1.length c38_0)] (by kernel_rfl) ?_
          obtain ⟨copied1, h_copied1, hf⟩ := bindE hf
          refine st (callR (some 56) 80 #[.slice A38_0 take2.1.length c38_0] Try.call80 (field_copied_c H.has take2.1 A38_0 c38_0 hs38_0 h_copied1) (by kernel_rfl) ?_)
          rintro _ w41 ⟨A41_0, c41_0, mk41, rfl, hS41⟩
          have hsub41 := hS41.sub
          replace H := H.call0 hS41
          refine seg 2 [.co [1, 1, 1, 1, 1, 1, 1, 1, 1]] [(4, .slice A41_0 copied1.length c41_0)] (by kernel_rfl) ?_
          refine retR [4] [.slice A41_0 copied1.length c41_0] (by kernel_rfl) (by kernel_rfl) (by kernel_rfl) ?_
          obtain rfl : (copied1, take2.2) = r := (Option.some.inj hf)
          exact ⟨_, rfl, A41_0, c41_0, A38_o0_0, c38_o0_0, mk41, rfl, H, (hs38_1.mono hsub41)⟩
theorem inode_own_c {m : Mem} {w : World} (hm : Has m w) (g0 : Nat) (r_ : TFieldReader) (A0_0 : Option Addr) (c0_0 : Nat) (s0_0 : SlI rU8 m A0_0 c0_0 r_.f_b) (g1 : Nat) (n_ : TApiInode) (A1_9 : Option Addr) (c1_9 : Nat) (l1_16 : n_.Target.length ≤ 9223372036854775807) {F : Nat → Prop} (hsep : Sep m w [blkI g0 [.slice A0_0 r_.f_b.length c0_0, .int .i64 r_.f_at, .int .i64 r_.f_e] 117, blkI g1 [.int .i64 n_.Kind, .int .i64 n_.Mode, .int .i64 n_.Uid, .int .i64 n_.Gid, .int .i64 n_.Time, .int .i64 n_.Links, .int .i64 n_.Attrs, .int .i64 n_.Size, .int .i64 n_.Start, .slice A1_9 n_.Words.length c1_9, .int .i64 n_.Frag, .int .i64 n_.Off, .int .i64 n_.Tail, .int .i64 n_.Dir, .int .i64 n_.Bytes, .int .i64 n_.Parent, .string ⟨n_.Target.toArray⟩, .int .i64 n_.Dev] 46, rowI rI64 3 A1_9 c1_9 n_.Words] F) (hF : ∀ k, F k → m k = none) {r : (TFieldReader × TApiInode)} (hf : inode_own r_ n_ = some r) :
    Calls Try.prog 68 #[.pointer (some (⟨g0, 0, none⟩)), .pointer (some (⟨g1, 0, none⟩))] w fun e w' => ∃ v, e = .returned v ∧ ∃ Az_o0_0 : Option Addr, ∃ cz_o0_0 : Nat, ∃ Az_o1_9 : Option Addr, ∃ cz_o1_9 : Nat, ∃ m' : Mem, v = .tuple #[] ∧ St w F m m' [blkI g0 [.slice Az_o0_0 r.1.f_b.length cz_o0_0, .int .i64 r.1.f_at, .int .i64 r.1.f_e] 117, blkI g1 [.int .i64 r.2.Kind, .int .i64 r.2.Mode, .int .i64 r.2.Uid, .int .i64 r.2.Gid, .int .i64 r.2.Time, .int .i64 r.2.Links, .int .i64 r.2.Attrs, .int .i64 r.2.Size, .int .i64 r.2.Start, .slice Az_o1_9 r.2.Words.length cz_o1_9, .int .i64 r.2.Frag, .int .i64 r.2.Off, .int .i64 r.2.Tail, .int .i64 r.2.Dir, .int .i64 r.2.Bytes, .int .i64 r.2.Parent, .string ⟨r.2.Target.toArray⟩, .int .i64 r.2.Dev] 46, rowI rI64 3 Az_o1_9 cz_o1_9 r.2.Words] w' ∧ SlI rU8 m' Az_o0_0 cz_o0_0 r.1.f_b ∧ r.2.Target.length ≤ 9223372036854775807 := by
  unfold inode_own at hf
  have H := St.start hm hsep hF
  refine callsR Try.func68 (by kernel_rfl) (by kernel_rfl) ?_
  refine seg 11 [.op [1, 0] 3, .co [1, 1]] [(0, .pointer (some (⟨g0, 0, none⟩))), (1, .pointer (some (⟨g1, 0, none⟩))), (4, .func (.func 49) #[.pointer (some (⟨g0, 0, none⟩))] #[]), (10, .pointer (some (⟨g1, 0, none⟩)))] (by kernel_rfl) ?_
  refine st (ldR (some 11) 3 (⟨g1, 0, none⟩) (.int .i64 n_.Kind) (by kernel_rfl) (by kernel_rfl) (H.cellB 1 rfl rfl) ?_)
  refine seg 7 [.co [1, 1, 0, 1], .bl 0] [(0, .pointer (some (⟨g0, 0, none⟩))), (1, .pointer (some (⟨g1, 0, none⟩))), (4, .func (.func 49) #[.pointer (some (⟨g0, 0, none⟩))] #[]), (11, .int .i64 n_.Kind), (18, .bool (n_.Kind == 1))] (by kernel_rfl) ?_
  rcases condT hf with ⟨hb144, hf⟩ | ⟨hb144, hf⟩
  · rw [hb144]
    refine seg 5 [.op [1, 1, 0, 1, 0, 0] 2, .co [1, 1, 0, 1, 0, 1], .bl 0] [(0, .pointer (some (⟨g0, 0, none⟩))), (1, .pointer (some (⟨g1, 0, none⟩))), (4, .func (.func 49) #[.pointer (some (⟨g0, 0, none⟩))] #[]), (20, .pointer (some (⟨g1, 0, none⟩))), (21, .func (.func 49) #[.pointer (some (⟨g0, 0, none⟩))] #[])] (by kernel_rfl) ?_
    obtain ⟨num, h_num, hf⟩ := bindE hf
    obtain ⟨F145, hse145, hFn145, hcl145⟩ := St.call [blkI g0 [.slice A0_0 r_.f_b.length c0_0, .int .i64 r_.f_at, .int .i64 r_.f_e] 117] H
    refine st (callR (some 22) 49 #[.pointer (some (⟨g0, 0, none⟩)), .int .i64 8] Try.call49 (field_Reader_Num_c H.has g0 r_ A0_0 c0_0 s0_0 8 hse145 hFn145 h_num) (by kernel_rfl) ?_)
    rintro _ w145 ⟨A145_o0_0, c145_o0_0, mk145, rfl, hS145, hs145_0⟩
    have hsub145 := hS145.sub
    replace H := hcl145 _ _ _ hS145
    refine seg 3 [.op [1, 1, 0, 1, 0, 0] 6, .co [1, 1, 0, 1, 0, 1], .bl 0] [(0, .pointer (some (⟨g0, 0, none⟩))), (1, .pointer (some (⟨g1, 0, none⟩))), (4, .func (.func 49) #[.pointer (some (⟨g0, 0, none⟩))] #[]), (23, .int .i64 (IntKind.i64.wrap (num.1.toNat : Int))), (25, .pointer (some (⟨g1, 7, none⟩)))] (by kernel_rfl) ?_
    refine st (stS none 3 1 g1 7 (.int .i64 (IntKind.i64.wrap (num.1.toNat : Int))) [.int .i64 n_.Kind, .int .i64 n_.Mode, .int .i64 n_.Uid, .int .i64 n_.Gid, .int .i64 n_.Time, .int .i64 n_.Links, .int .i64 n_.Attrs, .int .i64 n_.Size, .int .i64 n_.Start, .slice A1_9 n_.Words.length c1_9, .int .i64 n_.Frag, .int .i64 n_.Off, .int .i64 n_.Tail, .int .i64 n_.Dir, .int .i64 n_.Bytes, .int .i64 n_.Parent, .string ⟨n_.Target.toArray⟩, .int .i64 n_.Dev] 46 H rfl (by kernel_rfl) (by kernel_rfl) rfl (of_decide_eq_true rfl) ?_)
    intro w146 H
    refine seg 5 [.op [1, 1, 0, 1, 0, 1, 0] 2, .co [1, 1, 0, 1, 0, 1, 1], .bl 0] [(0, .pointer (some (⟨g0, 0, none⟩))), (1, .pointer (some (⟨g1, 0, none⟩))), (4, .func (.func 49) #[.pointer (some (⟨g0, 0, none⟩))] #[]), (26, .pointer (some (⟨g1, 0, none⟩))), (27, .func (.func 49) #[.pointer (some (⟨g0, 0, none⟩))] #[])] (by kernel_rfl) ?_
    replace H : St w F m mk145 [blkI g0 [.slice A145_o0_0 num.2.f_b.length c145_o0_0, .int .i64 num.2.f_at, .int .i64 num.2.f_e] 117, blkI g1 [.int .i64 n_.Kind, .int .i64 n_.Mode, .int .i64 n_.Uid, .int .i64 n_.Gid, .int .i64 n_.Time, .int .i64 n_.Links, .int .i64 n_.Attrs, .int .i64 (IntKind.i64.wrap (num.1.toNat : Int)), .int .i64 n_.Start, .slice A1_9 n_.Words.length c1_9, .int .i64 n_.Frag, .int .i64 n_.Off, .int .i64 n_.Tail, .int .i64 n_.Dir, .int .i64 n_.Bytes, .int .i64 n_.Parent, .string ⟨n_.Target.toArray⟩, .int .i64 n_.Dev] 46, rowI rI64 3 A1_9 c1_9 n_.Words] w146 := H
    obtain ⟨num1, h_num1, hf⟩ := bindE hf
    obtain ⟨F147, hse147, hFn147, hcl147⟩ := St.call [blkI g0 [.slice A145_o0_0 num.2.f_b.length c145_o0_0, .int .i64 num.2.f_at, .int .i64 num.2.f_e] 117] H
    refine st (callR (some 28) 49 #[.pointer (some (⟨g0, 0, none⟩)), .int .i64 4] Try.call49 (field_Reader_Num_c H.has g0 num.2 A145_o0_0 c145_o0_0 hs145_0 4 hse147 hFn147 h_num1) (by kernel_rfl) ?_)
    rintro _ w147 ⟨A147_o0_0, c147_o0_0, mk147, rfl, hS147, hs147_0⟩
    have hsub147 := hS147.sub
    replace H := hcl147 _ _ _ hS147
    refine seg 3 [.op [1, 1, 0, 1, 0, 1, 0] 6, .co [1, 1, 0, 1, 0, 1, 1], .bl 0] [(0, .pointer (some (⟨g0, 0, none⟩))), (1, .pointer (some (⟨g1, 0, none⟩))), (4, .func (.func 49) #[.pointer (some (⟨g0, 0, none⟩))] #[]), (29, .int .i64 (IntKind.i64.wrap (num1.1.toNat : Int))), (31, .pointer (some (⟨g1, 8, none⟩)))] (by kernel_rfl) ?_
    refine st (stS none 3 1 g1 8 (.int .i64 (IntKind.i64.wrap (num1.1.toNat : Int))) [.int .i64 n_.Kind, .int .i64 n_.Mode, .int .i64 n_.Uid, .int .i64 n_.Gid, .int .i64 n_.Time, .int .i64 n_.Links, .int .i64 n_.Attrs, .int .i64 (IntKind.i64.wrap (num.1.toNat : Int)), .int .i64 n_.Start, .slice A1_9 n_.Words.length c1_9, .int .i64 n_.Frag, .int .i64 n_.Off, .int .i64 n_.Tail, .int .i64 n_.Dir, .int .i64 n_.Bytes, .int .i64 n_.Parent, .string ⟨n_.Target.toArray⟩, .int .i64 n_.Dev] 46 H rfl (by kernel_rfl) (by kernel_rfl) rfl (of_decide_eq_true rfl) ?_)
    intro w148 H
    refine seg 5 [.op [1, 1, 0, 1, 0, 1, 1, 0] 2, .co [1, 1, 0, 1, 0, 1, 1, 1], .bl 0] [(0, .pointer (some (⟨g0, 0, none⟩))), (1, .pointer (some (⟨g1, 0, none⟩))), (4, .func (.func 49) #[.pointer (some (⟨g0, 0, none⟩))] #[]), (32, .pointer (some (⟨g1, 0, none⟩))), (33, .func (.func 49) #[.pointer (some (⟨g0, 0, none⟩))] #[])] (by kernel_rfl) ?_
    obtain ⟨num2, h_num2, hf⟩ := bindE hf
    obtain ⟨F149, hse149, hFn149, hcl149⟩ := St.call [blkI g0 [.slice A147_o0_0 num1.2.f_b.length c147_o0_0, .int .i64 num1.2.f_at, .int .i64 num1.2.f_e] 117] H
    refine st (callR (some 34) 49 #[.pointer (some (⟨g0, 0, none⟩)), .int .i64 4] Try.call49 (field_Reader_Num_c H.has g0 num1.2 A147_o0_0 c147_o0_0 hs147_0 4 hse149 hFn149 h_num2) (by kernel_rfl) ?_)
    rintro _ w149 ⟨A149_o0_0, c149_o0_0, mk149, rfl, hS149, hs149_0⟩
    have hsub149 := hS149.sub
    replace H := hcl149 _ _ _ hS149
    refine st (callR (some 35) 67 #[.int .u64 (num2.1.toNat : Int)] Try.call67 (inode_signed_c H.has num2.1) (by kernel_rfl) ?_)
    rintro _ w150 ⟨rfl, hx150⟩
    replace H := H.ex hx150
    refine seg 2 [.op [1, 1, 0, 1, 0, 1, 1, 0] 6, .co [1, 1, 0, 1, 0, 1, 1, 1], .bl 0] [(0, .pointer (some (⟨g0, 0, none⟩))), (1, .pointer (some (⟨g1, 0, none⟩))), (4, .func (.func 49) #[.pointer (some (⟨g0, 0, none⟩))] #[]), (35, .int .i64 (inode_signed num2.1)), (37, .pointer (some (⟨g1, 10, none⟩)))] (by kernel_rfl) ?_
    replace H : St w F m mk149 [blkI g0 [.slice A149_o0_0 num2.2.f_b.length c149_o0_0, .int .i64 num2.2.f_at, .int .i64 num2.2.f_e] 117, blkI g1 [.int .i64 n_.Kind, .int .i64 n_.Mode, .int .i64 n_.Uid, .int .i64 n_.Gid, .int .i64 n_.Time, .int .i64 n_.Links, .int .i64 n_.Attrs, .int .i64 (IntKind.i64.wrap (num.1.toNat : Int)), .int .i64 (IntKind.i64.wrap (num1.1.toNat : Int)), .slice A1_9 n_.Words.length c1_9, .int .i64 n_.Frag, .int .i64 n_.Off, .int .i64 n_.Tail, .int .i64 n_.Dir, .int .i64 n_.Bytes, .int .i64 n_.Parent, .string ⟨n_.Target.toArray⟩, .int .i64 n_.Dev] 46, rowI rI64 3 A1_9 c1_9 n_.Words] w150 := H
    refine st (stS none 3 1 g1 10 (.int .i64 (inode_signed num2.1)) [.int .i64 n_.Kind, .int .i64 n_.Mode, .int .i64 n_.Uid, .int .i64 n_.Gid, .int .i64 n_.Time, .int .i64 n_.Links, .int .i64 n_.Attrs, .int .i64 (IntKind.i64.wrap (num.1.toNat : Int)), .int .i64 (IntKind.i64.wrap (num1.1.toNat : Int)), .slice A1_9 n_.Words.length c1_9, .int .i64 n_.Frag, .int .i64 n_.Off, .int .i64 n_.Tail, .int .i64 n_.Dir, .int .i64 n_.Bytes, .int .i64 n_.Parent, .string ⟨n_.Target.toArray⟩, .int .i64 n_.Dev] 46 H rfl (by kernel_rfl) (by kernel_rfl) rfl (of_decide_eq_true rfl) ?_)
    intro w151 H
    refine seg 5 [.op [1, 1, 0, 1, 0, 1, 1, 1, 0] 2, .co [1, 1, 0, 1, 0, 1, 1, 1, 1], .bl 0] [(0, .pointer (some (⟨g0, 0, none⟩))), (1, .pointer (some (⟨g1, 0, none⟩))), (4, .func (.func 49) #[.pointer (some (⟨g0, 0, none⟩))] #[]), (38, .pointer (some (⟨g1, 0, none⟩))), (39, .func (.func 49) #[.pointer (some (⟨g0, 0, none⟩))] #[])] (by kernel_rfl) ?_
    obtain ⟨num3, h_num3, hf⟩ := bindE hf
    obtain ⟨F152, hse152, hFn152, hcl152⟩ := St.call [blkI g0 [.slice A149_o0_0 num2.2.f_b.length c149_o0_0, .int .i64 num2.2.f_at, .int .i64 num2.2.f_e] 117] H
    refine st (callR (some 40) 49 #[.pointer (some (⟨g0, 0, none⟩)), .int .i64 4] Try.call49 (field_Reader_Num_c H.has g0 num2.2 A149_o0_0 c149_o0_0 hs149_0 4 hse152 hFn152 h_num3) (by kernel_rfl) ?_)
    rintro _ w152 ⟨A152_o0_0, c152_o0_0, mk152, rfl, hS152, hs152_0⟩
    have hsub152 := hS152.sub
    replace H := hcl152 _ _ _ hS152
    refine seg 3 [.op [1, 1, 0, 1, 0, 1, 1, 1, 0] 6, .co [1, 1, 0, 1, 0, 1, 1, 1, 1], .bl 0] [(0, .pointer (some (⟨g0, 0, none⟩))), (1, .pointer (some (⟨g1, 0, none⟩))), (4, .func (.func 49) #[.pointer (some (⟨g0, 0, none⟩))] #[]), (41, .int .i64 (IntKind.i64.wrap (num3.1.toNat : Int))), (43, .pointer (some (⟨g1, 11, none⟩)))] (by kernel_rfl) ?_
    refine st (stS none 3 1 g1 11 (.int .i64 (IntKind.i64.wrap (num3.1.toNat : Int))) [.int .i64 n_.Kind, .int .i64 n_.Mode, .int .i64 n_.Uid, .int .i64 n_.Gid, .int .i64 n_.Time, .int .i64 n_.Links, .int .i64 n_.Attrs, .int .i64 (IntKind.i64.wrap (num.1.toNat : Int)), .int .i64 (IntKind.i64.wrap (num1.1.toNat : Int)), .slice A1_9 n_.Words.length c1_9, .int .i64 (inode_signed num2.1), .int .i64 n_.Off, .int .i64 n_.Tail, .int .i64 n_.Dir, .int .i64 n_.Bytes, .int .i64 n_.Parent, .string ⟨n_.Target.toArray⟩, .int .i64 n_.Dev] 46 H rfl (by kernel_rfl) (by kernel_rfl) rfl (of_decide_eq_true rfl) ?_)
    intro w153 H
    refine seg 5 [.op [1, 1, 0, 1, 0, 1, 1, 1, 1, 0] 2, .co [1, 1, 0, 1, 0, 1, 1, 1, 1, 1], .bl 0] [(0, .pointer (some (⟨g0, 0, none⟩))), (1, .pointer (some (⟨g1, 0, none⟩))), (4, .func (.func 49) #[.pointer (some (⟨g0, 0, none⟩))] #[]), (44, .pointer (some (⟨g1, 0, none⟩))), (45, .func (.func 49) #[.pointer (some (⟨g0, 0, none⟩))] #[])] (by kernel_rfl) ?_
    obtain ⟨num4, h_num4, hf⟩ := bindE hf
    obtain ⟨F154, hse154, hFn154, hcl154⟩ := St.call [blkI g0 [.slice A152_o0_0 num3.2.f_b.length c152_o0_0, .int .i64 num3.2.f_at, .int .i64 num3.2.f_e] 117] H
    refine st (callR (some 46) 49 #[.pointer (some (⟨g0, 0, none⟩)), .int .i64 4] Try.call49 (field_Reader_Num_c H.has g0 num3.2 A152_o0_0 c152_o0_0 hs152_0 4 hse154 hFn154 h_num4) (by kernel_rfl) ?_)
    rintro _ w154 ⟨A154_o0_0, c154_o0_0, mk154, rfl, hS154, hs154_0⟩
    have hsub154 := hS154.sub
    replace H := hcl154 _ _ _ hS154
    refine seg 3 [.op [1, 1, 0, 1, 0, 1, 1, 1, 1, 0] 6, .co [1, 1, 0, 1, 0, 1, 1, 1, 1, 1], .bl 0] [(0, .pointer (some (⟨g0, 0, none⟩))), (1, .pointer (some (⟨g1, 0, none⟩))), (4, .func (.func 49) #[.pointer (some (⟨g0, 0, none⟩))] #[]), (47, .int .i64 (IntKind.i64.wrap (num4.1.toNat : Int))), (49, .pointer (some (⟨g1, 12, none⟩)))] (by kernel_rfl) ?_
    replace H : St w F m mk154 [blkI g0 [.slice A154_o0_0 num4.2.f_b.length c154_o0_0, .int .i64 num4.2.f_at, .int .i64 num4.2.f_e] 117, blkI g1 [.int .i64 n_.Kind, .int .i64 n_.Mode, .int .i64 n_.Uid, .int .i64 n_.Gid, .int .i64 n_.Time, .int .i64 n_.Links, .int .i64 n_.Attrs, .int .i64 (IntKind.i64.wrap (num.1.toNat : Int)), .int .i64 (IntKind.i64.wrap (num1.1.toNat : Int)), .slice A1_9 n_.Words.length c1_9, .int .i64 (inode_signed num2.1), .int .i64 (IntKind.i64.wrap (num3.1.toNat : Int)), .int .i64 n_.Tail, .int .i64 n_.Dir, .int .i64 n_.Bytes, .int .i64 n_.Parent, .string ⟨n_.Target.toArray⟩, .int .i64 n_.Dev] 46, rowI rI64 3 A1_9 c1_9 n_.Words] w154 := H
    refine st (stS none 3 1 g1 12 (.int .i64 (IntKind.i64.wrap (num4.1.toNat : Int))) [.int .i64 n_.Kind, .int .i64 n_.Mode, .int .i64 n_.Uid, .int .i64 n_.Gid, .int .i64 n_.Time, .int .i64 n_.Links, .int .i64 n_.Attrs, .int .i64 (IntKind.i64.wrap (num.1.toNat : Int)), .int .i64 (IntKind.i64.wrap (num1.1.toNat : Int)), .slice A1_9 n_.Words.length c1_9, .int .i64 (inode_signed num2.1), .int .i64 (IntKind.i64.wrap (num3.1.toNat : Int)), .int .i64 n_.Tail, .int .i64 n_.Dir, .int .i64 n_.Bytes, .int .i64 n_.Parent, .string ⟨n_.Target.toArray⟩, .int .i64 n_.Dev] 46 H rfl (by kernel_rfl) (by kernel_rfl) rfl (of_decide_eq_true rfl) ?_)
    intro w155 H
    refine seg 4 [.op [1, 1, 0, 1, 0, 1, 1, 1, 1, 1, 0] 1, .co [1, 1, 0, 1, 0, 1, 1, 1, 1, 1, 1], .bl 0] [(0, .pointer (some (⟨g0, 0, none⟩))), (1, .pointer (some (⟨g1, 0, none⟩))), (4, .func (.func 49) #[.pointer (some (⟨g0, 0, none⟩))] #[]), (50, .func (.func 49) #[.pointer (some (⟨g0, 0, none⟩))] #[])] (by kernel_rfl) ?_
    obtain ⟨num5, h_num5, hf⟩ := bindE hf
    obtain ⟨F156, hse156, hFn156, hcl156⟩ := St.call [blkI g0 [.slice A154_o0_0 num4.2.f_b.length c154_o0_0, .int .i64 num4.2.f_at, .int .i64 num4.2.f_e] 117] H
    refine st (callR (some 51) 49 #[.pointer (some (⟨g0, 0, none⟩)), .int .i64 4] Try.call49 (field_Reader_Num_c H.has g0 num4.2 A154_o0_0 c154_o0_0 hs154_0 4 hse156 hFn156 h_num5) (by kernel_rfl) ?_)
    rintro _ w156 ⟨A156_o0_0, c156_o0_0, mk156, rfl, hS156, hs156_0⟩
    have hsub156 := hS156.sub
    replace H := hcl156 _ _ _ hS156
    refine seg 7 [.op [1, 1, 0, 1, 0, 1, 1, 1, 1, 1, 1, 0, 0] 2, .co [1, 1, 0, 1, 0, 1, 1, 1, 1, 1, 1, 0, 1], .co [1, 1, 0, 1, 0, 1, 1, 1, 1, 1, 1, 1], .bl 0] [(0, .pointer (some (⟨g0, 0, none⟩))), (1, .pointer (some (⟨g1, 0, none⟩))), (4, .func (.func 49) #[.pointer (some (⟨g0, 0, none⟩))] #[]), (5, .int .u64 (num5.1.toNat : Int)), (52, .int .u64 (num5.1.toNat : Int)), (53, .pointer (some (⟨g0, 0, none⟩)))] (by kernel_rfl) ?_
    obtain ⟨left, h_left, hf⟩ := bindE hf
    obtain ⟨F157, hse157, hFn157, hcl157⟩ := St.call [blkI g0 [.slice A156_o0_0 num5.2.f_b.length c156_o0_0, .int .i64 num5.2.f_at, .int .i64 num5.2.f_e] 117] H
    refine st (callR (some 54) 48 #[.pointer (some (⟨g0, 0, none⟩))] Try.call48 (field_Reader_Left_c H.has g0 num5.2 A156_o0_0 c156_o0_0 hs156_0 hse157 hFn157 h_left) (by kernel_rfl) ?_)
    rintro _ w157 ⟨mk157, rfl, hS157⟩
    have hsub157 := hS157.sub
    replace H := hcl157 _ _ _ hS157
    refine seg 4 [.co [1, 1, 0, 1, 0, 1, 1, 1, 1, 1, 1, 0, 1], .co [1, 1, 0, 1, 0, 1, 1, 1, 1, 1, 1, 1], .bl 0] [(0, .pointer (some (⟨g0, 0, none⟩))), (1, .pointer (some (⟨g1, 0, none⟩))), (4, .func (.func 49) #[.pointer (some (⟨g0, 0, none⟩))] #[]), (5, .int .u64 (num5.1.toNat : Int)), (57, .bool (decide ((num5.1.toNat : Int) > (IntKind.u64.wrap (IntKind.i64.wrap (Int.tdiv left 4))))))] (by kernel_rfl) ?_
    rw [q64_wrap (IntKind.i64.wrap (Int.tdiv left 4))]
    rcases condT hf with ⟨hb158, hf⟩ | ⟨hb158, hf⟩
    · rw [hb158]
      have p158 := of_decide_eq_true hb158
      refine seg 5 [.op [1, 1, 0, 1, 0, 1, 1, 1, 1, 1, 1, 0, 1, 0, 0] 2, .co [1, 1, 0, 1, 0, 1, 1, 1, 1, 1, 1, 0, 1, 0, 1], .co [1, 1, 0, 1, 0, 1, 1, 1, 1, 1, 1, 1], .bl 0] [(58, .pointer (some (⟨g0, 0, none⟩))), (59, .pointer (some (⟨g0, 0, none⟩)))] (by kernel_rfl) ?_
      obtain ⟨left1, h_left1, hf⟩ := bindE hf
      obtain ⟨F159, hse159, hFn159, hcl159⟩ := St.call [blkI g0 [.slice A156_o0_0 num5.2.f_b.length c156_o0_0, .int .i64 num5.2.f_at, .int .i64 num5.2.f_e] 117] H
      refine st (callR (some 60) 48 #[.pointer (some (⟨g0, 0, none⟩))] Try.call48 (field_Reader_Left_c H.has g0 num5.2 A156_o0_0 c156_o0_0 (hs156_0.mono hsub157) hse159 hFn159 h_left1) (by kernel_rfl) ?_)
      rintro _ w159 ⟨mk159, rfl, hS159⟩
      have hsub159 := hS159.sub
      replace H := hcl159 _ _ _ hS159
      refine seg 1 [.op [1, 1, 0, 1, 0, 1, 1, 1, 1, 1, 1, 0, 1, 0, 0] 4, .co [1, 1, 0, 1, 0, 1, 1, 1, 1, 1, 1, 0, 1, 0, 1], .co [1, 1, 0, 1, 0, 1, 1, 1, 1, 1, 1, 1], .bl 0] [(58, .pointer (some (⟨g0, 0, none⟩))), (61, .int .i64 (IntKind.i64.wrap (left1 + 1)))] (by kernel_rfl) ?_
      replace H : St w F m mk159 [blkI g0 [.slice A156_o0_0 num5.2.f_b.length c156_o0_0, .int .i64 num5.2.f_at, .int .i64 num5.2.f_e] 117, blkI g1 [.int .i64 n_.Kind, .int .i64 n_.Mode, .int .i64 n_.Uid, .int .i64 n_.Gid, .int .i64 n_.Time, .int .i64 n_.Links, .int .i64 n_.Attrs, .int .i64 (IntKind.i64.wrap (num.1.toNat : Int)), .int .i64 (IntKind.i64.wrap (num1.1.toNat : Int)), .slice A1_9 n_.Words.length c1_9, .int .i64 (inode_signed num2.1), .int .i64 (IntKind.i64.wrap (num3.1.toNat : Int)), .int .i64 (IntKind.i64.wrap (num4.1.toNat : Int)), .int .i64 n_.Dir, .int .i64 n_.Bytes, .int .i64 n_.Parent, .string ⟨n_.Target.toArray⟩, .int .i64 n_.Dev] 46, rowI rI64 3 A1_9 c1_9 n_.Words] w159 := H
      obtain ⟨bytes, h_bytes, hf⟩ := bindE hf
      obtain ⟨F160, hse160, hFn160, hcl160⟩ := St.call [blkI g0 [.slice A156_o0_0 num5.2.f_b.length c156_o0_0, .int .i64 num5.2.f_at, .int .i64 num5.2.f_e] 117] H
      refine st (callR (some 62) 50 #[.pointer (some (⟨g0, 0, none⟩)), .int .i64 (IntKind.i64.wrap (left1 + 1))] Try.call50 (field_Reader_Bytes_c H.has g0 num5.2 A156_o0_0 c156_o0_0 (hs156_0.mono (hsub157.trans hsub159)) (IntKind.i64.wrap (left1 + 1)) hse160 hFn160 h_bytes) (by kernel_rfl) ?_)
      rintro _ w160 ⟨A160_0, c160_0, A160_o0_0, c160_o0_0, mk160, rfl, hS160, hs160_0⟩
      have hsub160 := hS160.sub
      replace H := hcl160 _ _ _ hS160
      refine seg 1 [.co [1, 1, 0, 1, 0, 1, 1, 1, 1, 1, 1, 0, 1, 0, 1], .co [1, 1, 0, 1, 0, 1, 1, 1, 1, 1, 1, 1], .bl 0] [] (by kernel_rfl) ?_
      refine retR [] [] (by kernel_rfl) (by kernel_rfl) (by kernel_rfl) ?_
      obtain rfl : (bytes.2, ({ Kind := n_.Kind, Mode := n_.Mode, Uid := n_.Uid, Gid := n_.Gid, Time := n_.Time, Links := n_.Links, Attrs := n_.Attrs, Size := (IntKind.i64.wrap (num.1.toNat : Int)), Start := (IntKind.i64.wrap (num1.1.toNat : Int)), Words := n_.Words, Frag := (inode_signed num2.1), Off := (IntKind.i64.wrap (num3.1.toNat : Int)), Tail := (IntKind.i64.wrap (num4.1.toNat : Int)), Dir := n_.Dir, Bytes := n_.Bytes, Parent := n_.Parent, Target := n_.Target, Dev := n_.Dev } : TApiInode)) = r := (Option.some.inj hf)
      exact ⟨_, rfl, A160_o0_0, c160_o0_0, A1_9, c1_9, mk160, rfl, (St.takeN 3 (((H.pull 3 rfl).pull 3 rfl).pull 3 rfl)), hs160_0, l1_16⟩
    · rw [hb158]
      have p158 := of_decide_eq_false hb158
      refine seg 7 [.co [1, 1, 0, 1, 0, 1, 1, 1, 1, 1, 1, 1, 1], .bl 0] [(1, .pointer (some (⟨g1, 0, none⟩))), (4, .func (.func 49) #[.pointer (some (⟨g0, 0, none⟩))] #[]), (63, .int .u64 (num5.1.toNat : Int)), (64, .int .u64 0)] (by kernel_rfl) ?_
      obtain ⟨y179, hp179, hf⟩ := bindE hf
      refine joinR 0 (fun (x : (List UInt8) × Int × Int × (List Int) × Option Addr × Nat × Option Addr × Nat × Mem) => []) (fun (x : (List UInt8) × Int × Int × (List Int) × Option Addr × Nat × Option Addr × Nat × Mem) (wj179 : World) => y179 = (x.1, x.2.1, x.2.2.1, x.2.2.2.1) ∧ St w F m x.2.2.2.2.2.2.2.2 [blkI g0 [.slice (x.2.2.2.2.1) x.1.length (x.2.2.2.2.2.1), .int .i64 x.2.1, .int .i64 x.2.2.1] 117, blkI g1 [.int .i64 n_.Kind, .int .i64 n_.Mode, .int .i64 n_.Uid, .int .i64 n_.Gid, .int .i64 n_.Time, .int .i64 n_.Links, .int .i64 n_.Attrs, .int .i64 (IntKind.i64.wrap (num.1.toNat : Int)), .int .i64 (IntKind.i64.wrap (num1.1.toNat : Int)), .slice (x.2.2.2.2.2.2.1) x.2.2.2.1.length (x.2.2.2.2.2.2.2.1), .int .i64 (inode_signed num2.1), .int .i64 (IntKind.i64.wrap (num3.1.toNat : Int)), .int .i64 (IntKind.i64.wrap (num4.1.toNat : Int)), .int .i64 n_.Dir, .int .i64 n_.Bytes, .int .i64 n_.Parent, .string ⟨n_.Target.toArray⟩, .int .i64 n_.Dev] 46, rowI rI64 3 (x.2.2.2.2.2.2.1) (x.2.2.2.2.2.2.2.1) x.2.2.2.1] wj179 ∧ Sub mk157 x.2.2.2.2.2.2.2.2 ∧ SlI rU8 x.2.2.2.2.2.2.2.2 x.2.2.2.2.1 x.2.2.2.2.2.1 x.1) (by kernel_rfl) ?_ ?_
      · refine seg 1 [.co [1, 1, 0, 1, 0, 1, 1, 1, 1, 1, 1, 1, 1, 0], .bl 1, .le 0, .bl 0] [(1, .pointer (some (⟨g1, 0, none⟩))), (4, .func (.func 49) #[.pointer (some (⟨g0, 0, none⟩))] #[]), (63, .int .u64 (num5.1.toNat : Int)), (64, .int .u64 0)] (by kernel_rfl) ?_
        obtain ⟨nn193, hR193⟩ := loopO_iff.1 hp179
        refine loopR 1 (fun (x : Nat × (List Int) × (List UInt8) × Int × Int × UInt64 × Option Addr × Nat × Option Addr × Nat × Mem) => [(1, .pointer (some (⟨g1, 0, none⟩))), (4, .func (.func 49) #[.pointer (some (⟨g0, 0, none⟩))] #[]), (63, .int .u64 (num5.1.toNat : Int)), (64, .int .u64 (x.2.2.2.2.2.1.toNat : Int))]) (fun (x : Nat × (List Int) × (List UInt8) × Int × Int × UInt64 × Option Addr × Nat × Option Addr × Nat × Mem) (wl193 : World) => iter (fun s => inode_own_l1 num5 s.1 s.2.1 s.2.2.1 s.2.2.2.1 s.2.2.2.2) x.1 (x.2.1, x.2.2.1, x.2.2.2.1, x.2.2.2.2.1, x.2.2.2.2.2.1) = some y179 ∧ St w F m x.2.2.2.2.2.2.2.2.2.2 [blkI g1 [.int .i64 n_.Kind, .int .i64 n_.Mode, .int .i64 n_.Uid, .int .i64 n_.Gid, .int .i64 n_.Time, .int .i64 n_.Links, .int .i64 n_.Attrs, .int .i64 (IntKind.i64.wrap (num.1.toNat : Int)), .int .i64 (IntKind.i64.wrap (num1.1.toNat : Int)), .slice (x.2.2.2.2.2.2.1) x.2.1.length (x.2.2.2.2.2.2.2.1), .int .i64 (inode_signed num2.1), .int .i64 (IntKind.i64.wrap (num3.1.toNat : Int)), .int .i64 (IntKind.i64.wrap (num4.1.toNat : Int)), .int .i64 n_.Dir, .int .i64 n_.Bytes, .int .i64 n_.Parent, .string ⟨n_.Target.toArray⟩, .int .i64 n_.Dev] 46, rowI rI64 3 (x.2.2.2.2.2.2.1) (x.2.2.2.2.2.2.2.1) x.2.1, blkI g0 [.slice (x.2.2.2.2.2.2.2.2.1) x.2.2.1.length (x.2.2.2.2.2.2.2.2.2.1), .int .i64 x.2.2.2.1, .int .i64 x.2.2.2.2.1] 117] wl193 ∧ Sub mk157 x.2.2.2.2.2.2.2.2.2.2 ∧ SlI rU8 x.2.2.2.2.2.2.2.2.2.2 x.2.2.2.2.2.2.2.2.1 x.2.2.2.2.2.2.2.2.2.1 x.2.2.1) (fun (x : Nat × (List Int) × (List UInt8) × Int × Int × UInt64 × Option Addr × Nat × Option Addr × Nat × Mem) => x.1) (nn193, n_.Words, num5.2.f_b, num5.2.f_at, num5.2.f_e, (0 : UInt64), A1_9, c1_9, A156_o0_0, c156_o0_0, mk157) (by kernel_rfl) (by kernel_rfl) (by kernel_rfl) ?_ ?_
        · exact ⟨hR193, ((H.pull 2 rfl).pull 2 rfl), (Sub.refl _), (hs156_0.mono hsub157)⟩
        rintro ⟨n193, Words, b, at_, e_, t, A_1_194, c_2_194, A_3_194, c_4_194, mm194⟩ wl193 ⟨hR193, H, hsub194, hs194_0⟩
        try dsimp only at hR193
        try dsimp only at H
        try dsimp only at hsub194
        try dsimp only at hs194_0
        obtain ⟨nk193, q193, rfl, hb_193, hnx193, hfin193⟩ := iterE hR193
        replace hb_193 : inode_own_l1 num5 Words b at_ e_ t = some q193 := hb_193
        unfold inode_own_l1 at hb_193
        refine seg 5 [.co [1, 1, 0, 1, 0, 1, 1, 1, 1, 1, 1, 1, 1, 0, 0, 1, 0], .co [1, 1, 0, 1, 0, 1, 1, 1, 1, 1, 1, 1, 1, 0, 0, 1, 1], .le 1, .bl 1, .le 0, .bl 0] [(1, .pointer (some (⟨g1, 0, none⟩))), (4, .func (.func 49) #[.pointer (some (⟨g0, 0, none⟩))] #[]), (63, .int .u64 (num5.1.toNat : Int)), (64, .int .u64 (t.toNat : Int)), (65, .bool (decide ((t.toNat : Int) < (num5.1.toNat : Int))))] (by kernel_rfl) ?_
        rcases condT hb_193 with ⟨hb195, hb_193⟩ | ⟨hb195, hb_193⟩
        · rw [hb195]
          have p195 := of_decide_eq_true hb195
          refine seg 4 [.co [1, 1, 0, 1, 0, 1, 1, 1, 1, 1, 1, 1, 1, 0, 0, 1, 1, 0, 0], .bl 2, .co [1, 1, 0, 1, 0, 1, 1, 1, 1, 1, 1, 1, 1, 0, 0, 1, 1, 1], .le 1, .bl 1, .le 0, .bl 0] [(1, .pointer (some (⟨g1, 0, none⟩))), (4, .func (.func 49) #[.pointer (some (⟨g0, 0, none⟩))] #[]), (63, .int .u64 (num5.1.toNat : Int)), (64, .int .u64 (t.toNat : Int))] (by kernel_rfl) ?_
          obtain ⟨num6, h_num6, hb_193⟩ := bindE hb_193
          obtain ⟨b1, h_b1, hb_193⟩ := bindE hb_193
          have hst : statB (bodyOf Try.f68) [1, 1, 0, 1, 0, 1, 1, 1, 1, 1, 1, 1, 1, 0, 0, 1, 1, 0, 0] = true := by kernel_rfl
          refine drawS (Has mm194) H (by kernel_rfl) (by kernel_rfl) ?_
          intro w200 H
          refine segD2 hst [0, 1, 2, 3, 5] [0, 1, 2, 3, 5] [(1, .pointer (some (⟨g1, 0, none⟩))), (4, .func (.func 49) #[.pointer (some (⟨g0, 0, none⟩))] #[]), (63, .int .u64 (num5.1.toNat : Int)), (64, .int .u64 (t.toNat : Int)), (66, .pointer (some (⟨g1, 0, none⟩))), (69, .pointer (some (⟨g1, 9, none⟩))), (71, .func (.func 49) #[.pointer (some (⟨g0, 0, none⟩))] #[])] (by kernel_rfl) ?_
          refine allD2 [4, 6] (by kernel_rfl) H.has ⟨?_, ?_, trivial⟩
          · replace H : St w F m mm194 [blkI g1 [.int .i64 n_.Kind, .int .i64 n_.Mode, .int .i64 n_.Uid, .int .i64 n_.Gid, .int .i64 n_.Time, .int .i64 n_.Links, .int .i64 n_.Attrs, .int .i64 (IntKind.i64.wrap (num.1.toNat : Int)), .int .i64 (IntKind.i64.wrap (num1.1.toNat : Int)), .slice A_1_194 Words.length c_2_194, .int .i64 (inode_signed num2.1), .int .i64 (IntKind.i64.wrap (num3.1.toNat : Int)), .int .i64 (IntKind.i64.wrap (num4.1.toNat : Int)), .int .i64 n_.Dir, .int .i64 n_.Bytes, .int .i64 n_.Parent, .string ⟨n_.Target.toArray⟩, .int .i64 n_.Dev] 46, rowI rI64 3 A_1_194 c_2_194 Words, blkI g0 [.slice A_3_194 b.length c_4_194, .int .i64 at_, .int .i64 e_] 117] w200 := H
            refine (ldR (some 70) 44 (⟨g1, 9, none⟩) (.slice A_1_194 Words.length c_2_194) (by kernel_rfl) (by kernel_rfl) (H.cellB 0 rfl rfl) ?_)
            obtain ⟨F201, hse201, hFn201, hcl201⟩ := St.call [blkI g0 [.slice A_3_194 b.length c_4_194, .int .i64 at_, .int .i64 e_] 117] (H.pull 2 rfl)
            refine stD2 (i := 6) (by kernel_rfl) H.has (callR (some 72) 49 #[.pointer (some (⟨g0, 0, none⟩)), .int .i64 4] Try.call49 (field_Reader_Num_c H.has g0 ({ f_b := b, f_at := at_, f_e := e_ } : TFieldReader) A_3_194 c_4_194 hs194_0 4 hse201 hFn201 h_num6) (by kernel_rfl) ?_)
            rintro _ w201 ⟨A201_o0_0, c201_o0_0, mk201, rfl, hS201, hs201_0⟩
            have hsub201 := hS201.sub
            replace H := hcl201 _ _ _ hS201
            refine segD2 hst [7] [0, 1, 2, 3, 5, 4, 6, 7] [(1, .pointer (some (⟨g1, 0, none⟩))), (4, .func (.func 49) #[.pointer (some (⟨g0, 0, none⟩))] #[]), (63, .int .u64 (num5.1.toNat : Int)), (64, .int .u64 (t.toNat : Int)), (66, .pointer (some (⟨g1, 0, none⟩))), (70, .slice A_1_194 Words.length c_2_194), (73, .int .i64 (IntKind.i64.wrap (num6.1.toNat : Int)))] (by kernel_rfl) ?_
            refine stD2 (i := 8) (by kernel_rfl) (H.has.sub hsub201) (newS (some 74) (fun g => .slice (some ⟨g, 0, none⟩) 1 1) [.int .i64 (IntKind.i64.wrap (num6.1.toNat : Int))] 3 H (by kernel_rfl) ?_)
            intro g202 w202 H
            refine stD2 (i := 9) (by kernel_rfl) (H.has.sub hsub201) (appS (r := rI64) (some 75) 44 3 8 (.int .i64 0) 44 3 A_1_194 (some ⟨g202, 0, none⟩) c_2_194 1 1 Words [(IntKind.i64.wrap (num6.1.toNat : Int))] b1 _ H rfl ⟨Try.underlying44, by kernel_rfl⟩ rfl (by decide) (by kernel_rfl) (Cs.of_blk (H.blk 0 rfl)) (Rows.cons (cs := [.int .i64 (IntKind.i64.wrap (num6.1.toNat : Int))]) rfl Rows.nil) rfl h_b1 (by decide) (by decide) ?_)
            intro A203 c203 w203 H
            replace H := H.drop 0 rfl
            refine segD2 hst [10, 11] [0, 1, 2, 3, 5, 4, 6, 7, 8, 9, 10, 11] [(1, .pointer (some (⟨g1, 0, none⟩))), (4, .func (.func 49) #[.pointer (some (⟨g0, 0, none⟩))] #[]), (63, .int .u64 (num5.1.toNat : Int)), (64, .int .u64 (t.toNat : Int)), (75, .slice A203 b1.length c203), (77, .pointer (some (⟨g1, 9, none⟩)))] (by kernel_rfl) ?_
            refine stD2 (i := 12) (by kernel_rfl) (H.has.sub hsub201) (stS none 44 1 g1 9 (.slice A203 b1.length c203) [.int .i64 n_.Kind, .int .i64 n_.Mode, .int .i64 n_.Uid, .int .i64 n_.Gid, .int .i64 n_.Time, .int .i64 n_.Links, .int .i64 n_.Attrs, .int .i64 (IntKind.i64.wrap (num.1.toNat : Int)), .int .i64 (IntKind.i64.wrap (num1.1.toNat : Int)), .slice A_1_194 Words.length c_2_194, .int .i64 (inode_signed num2.1), .int .i64 (IntKind.i64.wrap (num3.1.toNat : Int)), .int .i64 (IntKind.i64.wrap (num4.1.toNat : Int)), .int .i64 n_.Dir, .int .i64 n_.Bytes, .int .i64 n_.Parent, .string ⟨n_.Target.toArray⟩, .int .i64 n_.Dev] 46 H rfl (by kernel_rfl) (by kernel_rfl) rfl (of_decide_eq_true rfl) ?_)
            intro w204 H
            refine endD2 (by kernel_rfl) (H.has.sub hsub201) ?_
            refine seg 5 [.le 1, .bl 1, .le 0, .bl 0] [(1, .pointer (some (⟨g1, 0, none⟩))), (4, .func (.func 49) #[.pointer (some (⟨g0, 0, none⟩))] #[]), (63, .int .u64 (num5.1.toNat : Int)), (64, .int .u64 (IntKind.u64.wrap ((t.toNat : Int) + 1)))] (by kernel_rfl) ?_
            rw [q64_add t (1 : UInt64) (t.toNat : Int) 1 (by rfl) (by rfl)]
            refine leR (nk193, b1, num6.2.f_b, num6.2.f_at, num6.2.f_e, (t + (1 : UInt64)), A203, c203, A201_o0_0, c201_o0_0, mk201) (Nat.lt_succ_self _) ⟨hnx193 _ (Option.some.inj hb_193).symm, ((H.pull 2 rfl).pull 2 rfl), (hsub194.trans hsub201), hs201_0⟩ (by kernel_rfl)
          · replace H : St w F m mm194 [blkI g1 [.int .i64 n_.Kind, .int .i64 n_.Mode, .int .i64 n_.Uid, .int .i64 n_.Gid, .int .i64 n_.Time, .int .i64 n_.Links, .int .i64 n_.Attrs, .int .i64 (IntKind.i64.wrap (num.1.toNat : Int)), .int .i64 (IntKind.i64.wrap (num1.1.toNat : Int)), .slice A_1_194 Words.length c_2_194, .int .i64 (inode_signed num2.1), .int .i64 (IntKind.i64.wrap (num3.1.toNat : Int)), .int .i64 (IntKind.i64.wrap (num4.1.toNat : Int)), .int .i64 n_.Dir, .int .i64 n_.Bytes, .int .i64 n_.Parent, .string ⟨n_.Target.toArray⟩, .int .i64 n_.Dev] 46, rowI rI64 3 A_1_194 c_2_194 Words, blkI g0 [.slice A_3_194 b.length c_4_194, .int .i64 at_, .int .i64 e_] 117] w200 := H
            obtain ⟨F205, hse205, hFn205, hcl205⟩ := St.call [blkI g0 [.slice A_3_194 b.length c_4_194, .int .i64 at_, .int .i64 e_] 117] (H.pull 2 rfl)
            refine (callR (some 72) 49 #[.pointer (some (⟨g0, 0, none⟩)), .int .i64 4] Try.call49 (field_Reader_Num_c H.has g0 ({ f_b := b, f_at := at_, f_e := e_ } : TFieldReader) A_3_194 c_4_194 hs194_0 4 hse205 hFn205 h_num6) (by kernel_rfl) ?_)
            rintro _ w205 ⟨A205_o0_0, c205_o0_0, mk205, rfl, hS205, hs205_0⟩
            have hsub205 := hS205.sub
            replace H := hcl205 _ _ _ hS205
            refine segD2 hst [7] [0, 1, 2, 3, 5, 6, 7] [(1, .pointer (some (⟨g1, 0, none⟩))), (4, .func (.func 49) #[.pointer (some (⟨g0, 0, none⟩))] #[]), (63, .int .u64 (num5.1.toNat : Int)), (64, .int .u64 (t.toNat : Int)), (66, .pointer (some (⟨g1, 0, none⟩))), (69, .pointer (some (⟨g1, 9, none⟩))), (73, .int .i64 (IntKind.i64.wrap (num6.1.toNat : Int)))] (by kernel_rfl) ?_
            refine allD2 [4, 8] (by kernel_rfl) (H.has.sub hsub205) ⟨?_, ?_, trivial⟩
            · refine (ldR (some 70) 44 (⟨g1, 9, none⟩) (.slice A_1_194 Words.length c_2_194) (by kernel_rfl) (by kernel_rfl) (H.cellB 1 rfl rfl) ?_)
              refine stD2 (i := 8) (by kernel_rfl) (H.has.sub hsub205) (newS (some 74) (fun g => .slice (some ⟨g, 0, none⟩) 1 1) [.int .i64 (IntKind.i64.wrap (num6.1.toNat : Int))] 3 H (by kernel_rfl) ?_)
              intro g206 w206 H
              refine stD2 (i := 9) (by kernel_rfl) (H.has.sub hsub205) (appS (r := rI64) (some 75) 44 3 8 (.int .i64 0) 44 3 A_1_194 (some ⟨g206, 0, none⟩) c_2_194 1 1 Words [(IntKind.i64.wrap (num6.1.toNat : Int))] b1 _ H rfl ⟨Try.underlying44, by kernel_rfl⟩ rfl (by decide) (by kernel_rfl) (Cs.of_blk (H.blk 0 rfl)) (Rows.cons (cs := [.int .i64 (IntKind.i64.wrap (num6.1.toNat : Int))]) rfl Rows.nil) rfl h_b1 (by decide) (by decide) ?_)
              intro A207 c207 w207 H
              replace H := H.drop 0 rfl
              refine segD2 hst [10, 11] [0, 1, 2, 3, 5, 6, 7, 4, 8, 9, 10, 11] [(1, .pointer (some (⟨g1, 0, none⟩))), (4, .func (.func 49) #[.pointer (some (⟨g0, 0, none⟩))] #[]), (63, .int .u64 (num5.1.toNat : Int)), (64, .int .u64 (t.toNat : Int)), (75, .slice A207 b1.length c207), (77, .pointer (some (⟨g1, 9, none⟩)))] (by kernel_rfl) ?_
              refine stD2 (i := 12) (by kernel_rfl) (H.has.sub hsub205) (stS none 44 1 g1 9 (.slice A207 b1.length c207) [.int .i64 n_.Kind, .int .i64 n_.Mode, .int .i64 n_.Uid, .int .i64 n_.Gid, .int .i64 n_.Time, .int .i64 n_.Links, .int .i64 n_.Attrs, .int .i64 (IntKind.i64.wrap (num.1.toNat : Int)), .int .i64 (IntKind.i64.wrap (num1.1.toNat : Int)), .slice A_1_194 Words.length c_2_194, .int .i64 (inode_signed num2.1), .int .i64 (IntKind.i64.wrap (num3.1.toNat : Int)), .int .i64 (IntKind.i64.wrap (num4.1.toNat : Int)), .int .i64 n_.Dir, .int .i64 n_.Bytes, .int .i64 n_.Parent, .string ⟨n_.Target.toArray⟩, .int .i64 n_.Dev] 46 H rfl (by kernel_rfl) (by kernel_rfl) rfl (of_decide_eq_true rfl) ?_)
              intro w208 H
              refine endD2 (by kernel_rfl) (H.has.sub hsub205) ?_
              refine seg 5 [.le 1, .bl 1, .le 0, .bl 0] [(1, .pointer (some (⟨g1, 0, none⟩))), (4, .func (.func 49) #[.pointer (some (⟨g0, 0, none⟩))] #[]), (63, .int .u64 (num5.1.toNat : Int)), (64, .int .u64 (IntKind.u64.wrap ((t.toNat : Int) + 1)))] (by kernel_rfl) ?_
              rw [q64_add t (1 : UInt64) (t.toNat : Int) 1 (by rfl) (by rfl)]
              refine leR (nk193, b1, num6.2.f_b, num6.2.f_at, num6.2.f_e, (t + (1 : UInt64)), A207, c207, A205_o0_0, c205_o0_0, mk205) (Nat.lt_succ_self _) ⟨hnx193 _ (Option.some.inj hb_193).symm, ((H.pull 2 rfl).pull 2 rfl), (hsub194.trans hsub205), hs205_0⟩ (by kernel_rfl)
            · replace H : St w F m mk205 [blkI g0 [.slice A205_o0_0 num6.2.f_b.length c205_o0_0, .int .i64 num6.2.f_at, .int .i64 num6.2.f_e] 117, blkI g1 [.int .i64 n_.Kind, .int .i64 n_.Mode, .int .i64 n_.Uid, .int .i64 n_.Gid, .int .i64 n_.Time, .int .i64 n_.Links, .int .i64 n_.Attrs, .int .i64 (IntKind.i64.wrap (num.1.toNat : Int)), .int .i64 (IntKind.i64.wrap (num1.1.toNat : Int)), .slice A_1_194 Words.length c_2_194, .int .i64 (inode_signed num2.1), .int .i64 (IntKind.i64.wrap (num3.1.toNat : Int)), .int .i64 (IntKind.i64.wrap (num4.1.toNat : Int)), .int .i64 n_.Dir, .int .i64 n_.Bytes, .int .i64 n_.Parent, .string ⟨n_.Target.toArray⟩, .int .i64 n_.Dev] 46, rowI rI64 3 A_1_194 c_2_194 Words] w205 := H
              refine (newS (some 74) (fun g => .slice (some ⟨g, 0, none⟩) 1 1) [.int .i64 (IntKind.i64.wrap (num6.1.toNat : Int))] 3 H (by kernel_rfl) ?_)
              intro g209 w209 H
              refine stD2 (i := 4) (by kernel_rfl) (H.has.sub hsub205) (ldR (some 70) 44 (⟨g1, 9, none⟩) (.slice A_1_194 Words.length c_2_194) (by kernel_rfl) (by kernel_rfl) (H.cellB 2 rfl rfl) ?_)
              refine stD2 (i := 9) (by kernel_rfl) (H.has.sub hsub205) (appS (r := rI64) (some 75) 44 3 8 (.int .i64 0) 44 3 A_1_194 (some ⟨g209, 0, none⟩) c_2_194 1 1 Words [(IntKind.i64.wrap (num6.1.toNat : Int))] b1 _ H rfl ⟨Try.underlying44, by kernel_rfl⟩ rfl (by decide) (by kernel_rfl) (Cs.of_blk (H.blk 0 rfl)) (Rows.cons (cs := [.int .i64 (IntKind.i64.wrap (num6.1.toNat : Int))]) rfl Rows.nil) rfl h_b1 (by decide) (by decide) ?_)
              intro A210 c210 w210 H
              replace H := H.drop 0 rfl
              refine segD2 hst [10, 11] [0, 1, 2, 3, 5, 6, 7, 8, 4, 9, 10, 11] [(1, .pointer (some (⟨g1, 0, none⟩))), (4, .func (.func 49) #[.pointer (some (⟨g0, 0, none⟩))] #[]), (63, .int .u64 (num5.1.toNat : Int)), (64, .int .u64 (t.toNat : Int)), (75, .slice A210 b1.length c210), (77, .pointer (some (⟨g1, 9, none⟩)))] (by kernel_rfl) ?_
              refine stD2 (i := 12) (by kernel_rfl) (H.has.sub hsub205) (stS none 44 1 g1 9 (.slice A210 b1.length c210) [.int .i64 n_.Kind, .int .i64 n_.Mode, .int .i64 n_.Uid, .int .i64 n_.Gid, .int .i64 n_.Time, .int .i64 n_.Links, .int .i64 n_.Attrs, .int .i64 (IntKind.i64.wrap (num.1.toNat : Int)), .int .i64 (IntKind.i64.wrap (num1.1.toNat : Int)), .slice A_1_194 Words.length c_2_194, .int .i64 (inode_signed num2.1), .int .i64 (IntKind.i64.wrap (num3.1.toNat : Int)), .int .i64 (IntKind.i64.wrap (num4.1.toNat : Int)), .int .i64 n_.Dir, .int .i64 n_.Bytes, .int .i64 n_.Parent, .string ⟨n_.Target.toArray⟩, .int .i64 n_.Dev] 46 H rfl (by kernel_rfl) (by kernel_rfl) rfl (of_decide_eq_true rfl) ?_)
              intro w211 H
              refine endD2 (by kernel_rfl) (H.has.sub hsub205) ?_
              refine seg 5 [.le 1, .bl 1, .le 0, .bl 0] [(1, .pointer (some (⟨g1, 0, none⟩))), (4, .func (.func 49) #[.pointer (some (⟨g0, 0, none⟩))] #[]), (63, .int .u64 (num5.1.toNat : Int)), (64, .int .u64 (IntKind.u64.wrap ((t.toNat : Int) + 1)))] (by kernel_rfl) ?_
              rw [q64_add t (1 : UInt64) (t.toNat : Int) 1 (by rfl) (by rfl)]
              refine leR (nk193, b1, num6.2.f_b, num6.2.f_at, num6.2.f_e, (t + (1 : UInt64)), A210, c210, A205_o0_0, c205_o0_0, mk205) (Nat.lt_succ_self _) ⟨hnx193 _ (Option.some.inj hb_193).symm, ((H.pull 2 rfl).pull 2 rfl), (hsub194.trans hsub205), hs205_0⟩ (by kernel_rfl)
        · rw [hb195]
          have p195 := of_decide_eq_false hb195
          refine seg 2 [.le 0, .bl 0] [] (by kernel_rfl) ?_
          refine leR_up (k' := []) (by rfl) ?_
          refine leJ (b, at_, e_, Words, A_3_194, c_4_194, A_1_194, c_2_194, mm194) ⟨(hfin193 _ (Option.some.inj hb_193).symm).symm, (((H.pull 1 rfl).pull 1 rfl).pull 2 rfl), hsub194, hs194_0⟩ (by kernel_rfl)
      rintro ⟨b, at_, e_, Words, A_1_180, c_2_180, A_3_180, c_4_180, mm180⟩ wj179 ⟨hy179, H, hsub180, hs180_0⟩
      try dsimp only at hy179
      try dsimp only at H
      try dsimp only at hsub180
      try dsimp only at hs180_0
      rw [hy179] at hf
      try dsimp only at hf
      refine seg 1 [] [] (by kernel_rfl) ?_
      refine endR [] [] (by kernel_rfl) (by kernel_rfl) ?_
      obtain rfl : (({ f_b := b, f_at := at_, f_e := e_ } : TFieldReader), ({ Kind := n_.Kind, Mode := n_.Mode, Uid := n_.Uid, Gid := n_.Gid, Time := n_.Time, Links := n_.Links, Attrs := n_.Attrs, Size := (IntKind.i64.wrap (num.1.toNat : Int)), Start := (IntKind.i64.wrap (num1.1.toNat : Int)), Words := Words, Frag := (inode_signed num2.1), Off := (IntKind.i64.wrap (num3.1.toNat : Int)), Tail := (IntKind.i64.wrap (num4.1.toNat : Int)), Dir := n_.Dir, Bytes := n_.Bytes, Parent := n_.Parent, Target := n_.Target, Dev := n_.Dev } : TApiInode)) = r := (Option.some.inj hf)
      exact ⟨_, rfl, A_1_180, c_2_180, A_3_180, c_4_180, mm180, rfl, H, hs180_0, l1_16⟩
  · rw [hb144]
    refine seg 6 [.co [1, 1, 0, 1, 1, 1], .bl 0] [(0, .pointer (some (⟨g0, 0, none⟩))), (1, .pointer (some (⟨g1, 0, none⟩))), (4, .func (.func 49) #[.pointer (some (⟨g0, 0, none⟩))] #[]), (11, .int .i64 n_.Kind), (79, .bool (n_.Kind == 2))] (by kernel_rfl) ?_
    rcases condT hf with ⟨hb212, hf⟩ | ⟨hb212, hf⟩
    · rw [hb212]
      refine seg 5 [.op [1, 1, 0, 1, 1, 1, 0, 0] 2, .co [1, 1, 0, 1, 1, 1, 0, 1], .bl 0] [(1, .pointer (some (⟨g1, 0, none⟩))), (4, .func (.func 49) #[.pointer (some (⟨g0, 0, none⟩))] #[]), (81, .pointer (some (⟨g1, 0, none⟩))), (82, .func (.func 49) #[.pointer (some (⟨g0, 0, none⟩))] #[])] (by kernel_rfl) ?_
      obtain ⟨num7, h_num7, hf⟩ := bindE hf
      obtain ⟨F213, hse213, hFn213, hcl213⟩ := St.call [blkI g0 [.slice A0_0 r_.f_b.length c0_0, .int .i64 r_.f_at, .int .i64 r_.f_e] 117] H
      refine st (callR (some 83) 49 #[.pointer (some (⟨g0, 0, none⟩)), .int .i64 4] Try.call49 (field_Reader_Num_c H.has g0 r_ A0_0 c0_0 s0_0 4 hse213 hFn213 h_num7) (by kernel_rfl) ?_)
      rintro _ w213 ⟨A213_o0_0, c213_o0_0, mk213, rfl, hS213, hs213_0⟩
      have hsub213 := hS213.sub
      replace H := hcl213 _ _ _ hS213
      refine seg 3 [.op [1, 1, 0, 1, 1, 1, 0, 0] 6, .co [1, 1, 0, 1, 1, 1, 0, 1], .bl 0] [(1, .pointer (some (⟨g1, 0, none⟩))), (4, .func (.func 49) #[.pointer (some (⟨g0, 0, none⟩))] #[]), (84, .int .i64 (IntKind.i64.wrap (num7.1.toNat : Int))), (86, .pointer (some (⟨g1, 13, none⟩)))] (by kernel_rfl) ?_
      replace H : St w F m mk213 [blkI g0 [.slice A213_o0_0 num7.2.f_b.length c213_o0_0, .int .i64 num7.2.f_at, .int .i64 num7.2.f_e] 117, blkI g1 [.int .i64 n_.Kind, .int .i64 n_.Mode, .int .i64 n_.Uid, .int .i64 n_.Gid, .int .i64 n_.Time, .int .i64 n_.Links, .int .i64 n_.Attrs, .int .i64 n_.Size, .int .i64 n_.Start, .slice A1_9 n_.Words.length c1_9, .int .i64 n_.Frag, .int .i64 n_.Off, .int .i64 n_.Tail, .int .i64 n_.Dir, .int .i64 n_.Bytes, .int .i64 n_.Parent, .string ⟨n_.Target.toArray⟩, .int .i64 n_.Dev] 46, rowI rI64 3 A1_9 c1_9 n_.Words] w213 := H
      refine st (stS none 3 1 g1 13 (.int .i64 (IntKind.i64.wrap (num7.1.toNat : Int))) [.int .i64 n_.Kind, .int .i64 n_.Mode, .int .i64 n_.Uid, .int .i64 n_.Gid, .int .i64 n_.Time, .int .i64 n_.Links, .int .i64 n_.Attrs, .int .i64 n_.Size, .int .i64 n_.Start, .slice A1_9 n_.Words.length c1_9, .int .i64 n_.Frag, .int .i64 n_.Off, .int .i64 n_.Tail, .int .i64 n_.Dir, .int .i64 n_.Bytes, .int .i64 n_.Parent, .string ⟨n_.Target.toArray⟩, .int .i64 n_.Dev] 46 H rfl (by kernel_rfl) (by kernel_rfl) rfl (of_decide_eq_true rfl) ?_)
      intro w214 H
      refine seg 5 [.op [1, 1, 0, 1, 1, 1, 0, 1, 0] 2, .co [1, 1, 0, 1, 1, 1, 0, 1, 1], .bl 0] [(1, .pointer (some (⟨g1, 0, none⟩))), (4, .func (.func 49) #[.pointer (some (⟨g0, 0, none⟩))] #[]), (87, .pointer (some (⟨g1, 0, none⟩))), (88, .func (.func 49) #[.pointer (some (⟨g0, 0, none⟩))] #[])] (by kernel_rfl) ?_
      obtain ⟨num8, h_num8, hf⟩ := bindE hf
      obtain ⟨F215, hse215, hFn215, hcl215⟩ := St.call [blkI g0 [.slice A213_o0_0 num7.2.f_b.length c213_o0_0, .int .i64 num7.2.f_at, .int .i64 num7.2.f_e] 117] H
      refine st (callR (some 89) 49 #[.pointer (some (⟨g0, 0, none⟩)), .int .i64 4] Try.call49 (field_Reader_Num_c H.has g0 num7.2 A213_o0_0 c213_o0_0 hs213_0 4 hse215 hFn215 h_num8) (by kernel_rfl) ?_)
      rintro _ w215 ⟨A215_o0_0, c215_o0_0, mk215, rfl, hS215, hs215_0⟩
      have hsub215 := hS215.sub
      replace H := hcl215 _ _ _ hS215
      refine seg 3 [.op [1, 1, 0, 1, 1, 1, 0, 1, 0] 6, .co [1, 1, 0, 1, 1, 1, 0, 1, 1], .bl 0] [(1, .pointer (some (⟨g1, 0, none⟩))), (4, .func (.func 49) #[.pointer (some (⟨g0, 0, none⟩))] #[]), (90, .int .i64 (IntKind.i64.wrap (num8.1.toNat : Int))), (92, .pointer (some (⟨g1, 14, none⟩)))] (by kernel_rfl) ?_
      refine st (stS none 3 1 g1 14 (.int .i64 (IntKind.i64.wrap (num8.1.toNat : Int))) [.int .i64 n_.Kind, .int .i64 n_.Mode, .int .i64 n_.Uid, .int .i64 n_.Gid, .int .i64 n_.Time, .int .i64 n_.Links, .int .i64 n_.Attrs, .int .i64 n_.Size, .int .i64 n_.Start, .slice A1_9 n_.Words.length c1_9, .int .i64 n_.Frag, .int .i64 n_.Off, .int .i64 n_.Tail, .int .i64 (IntKind.i64.wrap (num7.1.toNat : Int)), .int .i64 n_.Bytes, .int .i64 n_.Parent, .string ⟨n_.Target.toArray⟩, .int .i64 n_.Dev] 46 H rfl (by kernel_rfl) (by kernel_rfl) rfl (of_decide_eq_true rfl) ?_)
      intro w216 H
      refine seg 4 [.op [1, 1, 0, 1, 1, 1, 0, 1, 1] 2, .bl 0] [(93, .pointer (some (⟨g1, 0, none⟩))), (94, .func (.func 49) #[.pointer (some (⟨g0, 0, none⟩))] #[])] (by kernel_rfl) ?_
      obtain ⟨num9, h_num9, hf⟩ := bindE hf
      obtain ⟨F217, hse217, hFn217, hcl217⟩ := St.call [blkI g0 [.slice A215_o0_0 num8.2.f_b.length c215_o0_0, .int .i64 num8.2.f_at, .int .i64 num8.2.f_e] 117] H
      refine st (callR (some 95) 49 #[.pointer (some (⟨g0, 0, none⟩)), .int .i64 4] Try.call49 (field_Reader_Num_c H.has g0 num8.2 A215_o0_0 c215_o0_0 hs215_0 4 hse217 hFn217 h_num9) (by kernel_rfl) ?_)
      rintro _ w217 ⟨A217_o0_0, c217_o0_0, mk217, rfl, hS217, hs217_0⟩
      have hsub217 := hS217.sub
      replace H := hcl217 _ _ _ hS217
      refine seg 3 [.op [1, 1, 0, 1, 1, 1, 0, 1, 1] 6, .bl 0] [(96, .int .i64 (IntKind.i64.wrap (num9.1.toNat : Int))), (98, .pointer (some (⟨g1, 15, none⟩)))] (by kernel_rfl) ?_
      replace H : St w F m mk217 [blkI g0 [.slice A217_o0_0 num9.2.f_b.length c217_o0_0, .int .i64 num9.2.f_at, .int .i64 num9.2.f_e] 117, blkI g1 [.int .i64 n_.Kind, .int .i64 n_.Mode, .int .i64 n_.Uid, .int .i64 n_.Gid, .int .i64 n_.Time, .int .i64 n_.Links, .int .i64 n_.Attrs, .int .i64 n_.Size, .int .i64 n_.Start, .slice A1_9 n_.Words.length c1_9, .int .i64 n_.Frag, .int .i64 n_.Off, .int .i64 n_.Tail, .int .i64 (IntKind.i64.wrap (num7.1.toNat : Int)), .int .i64 (IntKind.i64.wrap (num8.1.toNat : Int)), .int .i64 n_.Parent, .string ⟨n_.Target.toArray⟩, .int .i64 n_.Dev] 46, rowI rI64 3 A1_9 c1_9 n_.Words] w217 := H
      refine st (stS none 3 1 g1 15 (.int .i64 (IntKind.i64.wrap (num9.1.toNat : Int))) [.int .i64 n_.Kind, .int .i64 n_.Mode, .int .i64 n_.Uid, .int .i64 n_.Gid, .int .i64 n_.Time, .int .i64 n_.Links, .int .i64 n_.Attrs, .int .i64 n_.Size, .int .i64 n_.Start, .slice A1_9 n_.Words.length c1_9, .int .i64 n_.Frag, .int .i64 n_.Off, .int .i64 n_.Tail, .int .i64 (IntKind.i64.wrap (num7.1.toNat : Int)), .int .i64 (IntKind.i64.wrap (num8.1.toNat : Int)), .int .i64 n_.Parent, .string ⟨n_.Target.toArray⟩, .int .i64 n_.Dev] 46 H rfl (by kernel_rfl) (by kernel_rfl) rfl (of_decide_eq_true rfl) ?_)
      intro w218 H
      refine seg 2 [] [] (by kernel_rfl) ?_
      refine endR [] [] (by kernel_rfl) (by kernel_rfl) ?_
      obtain rfl : (num9.2, ({ Kind := n_.Kind, Mode := n_.Mode, Uid := n_.Uid, Gid := n_.Gid, Time := n_.Time, Links := n_.Links, Attrs := n_.Attrs, Size := n_.Size, Start := n_.Start, Words := n_.Words, Frag := n_.Frag, Off := n_.Off, Tail := n_.Tail, Dir := (IntKind.i64.wrap (num7.1.toNat : Int)), Bytes := (IntKind.i64.wrap (num8.1.toNat : Int)), Parent := (IntKind.i64.wrap (num9.1.toNat : Int)), Target := n_.Target, Dev := n_.Dev } : TApiInode)) = r := (Option.some.inj hf)
      exact ⟨_, rfl, A217_o0_0, c217_o0_0, A1_9, c1_9, mk217, rfl, H, hs217_0, l1_16⟩
    · rw [hb212]
      refine seg 6 [.co [1, 1, 0, 1, 1, 1, 1, 1], .bl 0] [(0, .pointer (some (⟨g0, 0, none⟩))), (1, .pointer (some (⟨g1, 0, none⟩))), (4, .func (.func 49) #[.pointer (some (⟨g0, 0, none⟩))] #[]), (99, .bool (n_.Kind == 3))] (by kernel_rfl) ?_
      rcases condT hf with ⟨hb219, hf⟩ | ⟨hb219, hf⟩
      · rw [hb219]
        refine seg 4 [.op [1, 1, 0, 1, 1, 1, 1, 1, 0] 2, .bl 0] [(101, .pointer (some (⟨g1, 0, none⟩))), (102, .pointer (some (⟨g0, 0, none⟩)))] (by kernel_rfl) ?_
        obtain ⟨text, h_text, hf⟩ := bindE hf
        obtain ⟨F220, hse220, hFn220, hcl220⟩ := St.call [blkI g0 [.slice A0_0 r_.f_b.length c0_0, .int .i64 r_.f_at, .int .i64 r_.f_e] 117] H
        refine st (callR (some 103) 88 #[.pointer (some (⟨g0, 0, none⟩)), .int .i64 4096] Try.call88 (field_Reader_Text_c H.has g0 r_ A0_0 c0_0 s0_0 4096 hse220 hFn220 h_text) (by kernel_rfl) ?_)
        rintro _ w220 ⟨A220_0, c220_0, A220_o0_0, c220_o0_0, mk220, rfl, hS220, hs220_0⟩
        have hsub220 := hS220.sub
        replace H := hcl220 _ _ _ hS220
        refine st (b2sS (some 104) 30 9 5 A220_0 c220_0 text.1 Try.underlying30 Try.underlying5 Try.underlying9 (by kernel_rfl) (H.rowCs 0 rfl) ?_)
        have hl221 : text.1.length ≤ 9223372036854775807 := (Nat.le_trans (H.rowCap 0 rfl).1 (H.rowCap 0 rfl).2)
        refine seg 2 [.op [1, 1, 0, 1, 1, 1, 1, 1, 0] 6, .bl 0] [(104, .string ⟨text.1.toArray⟩), (106, .pointer (some (⟨g1, 16, none⟩)))] (by kernel_rfl) ?_
        refine st (stS none 9 2 g1 16 (.string ⟨text.1.toArray⟩) [.int .i64 n_.Kind, .int .i64 n_.Mode, .int .i64 n_.Uid, .int .i64 n_.Gid, .int .i64 n_.Time, .int .i64 n_.Links, .int .i64 n_.Attrs, .int .i64 n_.Size, .int .i64 n_.Start, .slice A1_9 n_.Words.length c1_9, .int .i64 n_.Frag, .int .i64 n_.Off, .int .i64 n_.Tail, .int .i64 n_.Dir, .int .i64 n_.Bytes, .int .i64 n_.Parent, .string ⟨n_.Target.toArray⟩, .int .i64 n_.Dev] 46 H rfl (by kernel_rfl) (by kernel_rfl) rfl (of_decide_eq_true rfl) ?_)
        intro w222 H
        refine seg 2 [] [] (by kernel_rfl) ?_
        refine endR [] [] (by kernel_rfl) (by kernel_rfl) ?_
        obtain rfl : (text.2, ({ Kind := n_.Kind, Mode := n_.Mode, Uid := n_.Uid, Gid := n_.Gid, Time := n_.Time, Links := n_.Links, Attrs := n_.Attrs, Size := n_.Size, Start := n_.Start, Words := n_.Words, Frag := n_.Frag, Off := n_.Off, Tail := n_.Tail, Dir := n_.Dir, Bytes := n_.Bytes, Parent := n_.Parent, Target := text.1, Dev := n_.Dev } : TApiInode)) = r := (Option.some.inj hf)
        exact ⟨_, rfl, A220_o0_0, c220_o0_0, A1_9, c1_9, mk220, rfl, (St.takeN 3 (((H.pull 3 rfl).pull 3 rfl).pull 3 rfl)), hs220_0, hl221⟩
      · rw [hb219]
        refine seg 4 [.op [1, 1, 0, 1, 1, 1, 1, 1, 1] 2, .bl 0] [(12, .pointer (some (⟨g1, 0, none⟩))), (13, .func (.func 49) #[.pointer (some (⟨g0, 0, none⟩))] #[])] (by kernel_rfl) ?_
        obtain ⟨num10, h_num10, hf⟩ := bindE hf
        obtain ⟨F223, hse223, hFn223, hcl223⟩ := St.call [blkI g0 [.slice A0_0 r_.f_b.length c0_0, .int .i64 r_.f_at, .int .i64 r_.f_e] 117] H
        refine st (callR (some 14) 49 #[.pointer (some (⟨g0, 0, none⟩)), .int .i64 4] Try.call49 (field_Reader_Num_c H.has g0 r_ A0_0 c0_0 s0_0 4 hse223 hFn223 h_num10) (by kernel_rfl) ?_)
        rintro _ w223 ⟨A223_o0_0, c223_o0_0, mk223, rfl, hS223, hs223_0⟩
        have hsub223 := hS223.sub
        replace H := hcl223 _ _ _ hS223
        refine seg 3 [.op [1, 1, 0, 1, 1, 1, 1, 1, 1] 6, .bl 0] [(15, .int .i64 (IntKind.i64.wrap (num10.1.toNat : Int))), (17, .pointer (some (⟨g1, 17, none⟩)))] (by kernel_rfl) ?_
        replace H : St w F m mk223 [blkI g0 [.slice A223_o0_0 num10.2.f_b.length c223_o0_0, .int .i64 num10.2.f_at, .int .i64 num10.2.f_e] 117, blkI g1 [.int .i64 n_.Kind, .int .i64 n_.Mode, .int .i64 n_.Uid, .int .i64 n_.Gid, .int .i64 n_.Time, .int .i64 n_.Links, .int .i64 n_.Attrs, .int .i64 n_.Size, .int .i64 n_.Start, .slice A1_9 n_.Words.length c1_9, .int .i64 n_.Frag, .int .i64 n_.Off, .int .i64 n_.Tail, .int .i64 n_.Dir, .int .i64 n_.Bytes, .int .i64 n_.Parent, .string ⟨n_.Target.toArray⟩, .int .i64 n_.Dev] 46, rowI rI64 3 A1_9 c1_9 n_.Words] w223 := H
        refine st (stS none 3 1 g1 17 (.int .i64 (IntKind.i64.wrap (num10.1.toNat : Int))) [.int .i64 n_.Kind, .int .i64 n_.Mode, .int .i64 n_.Uid, .int .i64 n_.Gid, .int .i64 n_.Time, .int .i64 n_.Links, .int .i64 n_.Attrs, .int .i64 n_.Size, .int .i64 n_.Start, .slice A1_9 n_.Words.length c1_9, .int .i64 n_.Frag, .int .i64 n_.Off, .int .i64 n_.Tail, .int .i64 n_.Dir, .int .i64 n_.Bytes, .int .i64 n_.Parent, .string ⟨n_.Target.toArray⟩, .int .i64 n_.Dev] 46 H rfl (by kernel_rfl) (by kernel_rfl) rfl (of_decide_eq_true rfl) ?_)
        intro w224 H
        refine seg 2 [] [] (by kernel_rfl) ?_
        refine endR [] [] (by kernel_rfl) (by kernel_rfl) ?_
        obtain rfl : (num10.2, ({ Kind := n_.Kind, Mode := n_.Mode, Uid := n_.Uid, Gid := n_.Gid, Time := n_.Time, Links := n_.Links, Attrs := n_.Attrs, Size := n_.Size, Start := n_.Start, Words := n_.Words, Frag := n_.Frag, Off := n_.Off, Tail := n_.Tail, Dir := n_.Dir, Bytes := n_.Bytes, Parent := n_.Parent, Target := n_.Target, Dev := (IntKind.i64.wrap (num10.1.toNat : Int)) } : TApiInode)) = r := (Option.some.inj hf)
        exact ⟨_, rfl, A223_o0_0, c223_o0_0, A1_9, c1_9, mk223, rfl, H, hs223_0, l1_16⟩
end Go.Proofs.Ytebbaokcgnjfiaa.F
